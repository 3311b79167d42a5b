/-
  Laws that mark what they were given and what they were handed: the data's kinds, the functions that mark and that look for marks, the laws' own code. Written by program (walklaw3.py).
-/
import Derived.Test.YthncjpkjmgmdlaaGreatqsMl
import Derived.Test.YthncjpkjmgmdlaaGreatqsAmVk
set_option linter.unusedVariables false
set_option linter.unusedSimpArgs false
set_option maxRecDepth 100000
namespace Go.Am
open Go Go.Proofs
theorem textOk : TextOk Tryz.prog mt 97 := by
 refine ⟨⟨Tryz.f97, Tryz.func97, rfl, by decide⟩, fun k w hk hg => ?_⟩
 have hd : D 97 [.int .i64 (k : Int)] = some (.str (mt k)) := fnok_any ok97 (show F97 V (k : Int) (fun y => some (.str y)) = _ from ei_lmarkText (k : Int) (fun y => some (V.str y)) _ (mt_eq k hk))
 refine ((answers _ _ _ hd).2 (fun _ => False) w #[.int .i64 (k : Int)] hg (fun _ h => h.elim) rfl (fun i c v h1 h2 => ?_)).mono (fun e w' h => ?_)
 ·match i, h1, h2 with
  | 0, h1, h2 => injection h1 with h1; injection h2 with h2; subst h1; subst h2; exact .int _ _
  | i + 1, h1, _ => simp at h1
 ·cases e with
  | returned x =>
   obtain ⟨Γ, hv, _⟩ := h.val
   cases hv with
   | rd _ _ hr => cases hr with | str _ s hs => exact ⟨s, rfl, hs, kept_of h⟩
  | _ => exact h.elim
abbrev hvWorld (a : TWorld) : V := .agg (.sl 2 false (rows kServer TServer.row a.xNet.xServers) :: .sl 10 true (rows kEntry TEntry.row a.xNet.xCache.xEntries) :: .sl 4 true (rows kSent TSent.row a.xNet.xLog) :: .int .i64 a.xNet.xNow :: .sl 25 false (rows kVisit TVisit.row a.xTab.xVisits) :: .int .i64 a.xTab.xAt :: .bool a.xHidden.xReady :: .str a.xHidden.xPage.xAddr.xHost :: .str a.xHidden.xPage.xAddr.xPath :: .bool a.xHidden.xPage.xPolicy.xSet :: .sl 1 true (rStr a.xHidden.xPage.xPolicy.xScripts) :: .sl 1 true (rStr a.xHidden.xPage.xPolicy.xStyles) :: .sl 1 true (rStr a.xHidden.xPage.xPolicy.xImages) :: .str a.xHidden.xPage.xPolicy.xNonce :: .str a.xHidden.xPage.xTok.xRest :: .sl 4 false (rows kToken TToken.row a.xHidden.xPage.xQueue) :: .bool a.xHidden.xPage.xEnded :: .sl 4 false (rows kNode TNode.row a.xHidden.xPage.xBuilder.xNodes) :: .sl 1 true (rInt a.xHidden.xPage.xBuilder.xOpen) :: .sl 8 true (rows kSlot TSlot.row a.xHidden.xPage.xSlots) :: .sl 5 true (rows kModule TModule.row a.xHidden.xPage.xMods) :: .sl 2 true (rows kAddr TAddr.row a.xHidden.xPage.xEntries) :: .int .i64 a.xHidden.xPage.xBlock :: .int .i64 a.xHidden.xPage.xInline :: .int .i64 a.xHidden.xPage.xDeferred :: .int .i64 a.xHidden.xPage.xEntered :: .sl 2 true (rows kAddr TAddr.row a.xHidden.xPage.xRan) :: .sl 1 true (rStr a.xHidden.xPage.xLog) :: .bool a.xHidden.xPage.xLoaded :: .sl 8 true (rows kKept TKept.row a.xHidden.xTaken) :: .sl 2 false (rows kServer TServer.row a.xHidden.xServers) :: .int .i64 a.xHidden.xNow :: .bool a.xFast :: [])
abbrev ovWorld (a : TWorld) : V := .agg (.own 0 2 .clean (rows kServer TServer.row a.xNet.xServers) :: .own 1 10 .flat (rows kEntry TEntry.row a.xNet.xCache.xEntries) :: .own 2 4 .flat (rows kSent TSent.row a.xNet.xLog) :: .int .i64 a.xNet.xNow :: .own 4 25 .clean (rows kVisit TVisit.row a.xTab.xVisits) :: .int .i64 a.xTab.xAt :: .bool a.xHidden.xReady :: .str a.xHidden.xPage.xAddr.xHost :: .str a.xHidden.xPage.xAddr.xPath :: .bool a.xHidden.xPage.xPolicy.xSet :: .own 10 1 .flat (rStr a.xHidden.xPage.xPolicy.xScripts) :: .own 11 1 .flat (rStr a.xHidden.xPage.xPolicy.xStyles) :: .own 12 1 .flat (rStr a.xHidden.xPage.xPolicy.xImages) :: .str a.xHidden.xPage.xPolicy.xNonce :: .str a.xHidden.xPage.xTok.xRest :: .own 15 4 .clean (rows kToken TToken.row a.xHidden.xPage.xQueue) :: .bool a.xHidden.xPage.xEnded :: .own 17 4 .clean (rows kNode TNode.row a.xHidden.xPage.xBuilder.xNodes) :: .own 18 1 .flat (rInt a.xHidden.xPage.xBuilder.xOpen) :: .own 19 8 .flat (rows kSlot TSlot.row a.xHidden.xPage.xSlots) :: .own 20 5 .flat (rows kModule TModule.row a.xHidden.xPage.xMods) :: .own 21 2 .flat (rows kAddr TAddr.row a.xHidden.xPage.xEntries) :: .int .i64 a.xHidden.xPage.xBlock :: .int .i64 a.xHidden.xPage.xInline :: .int .i64 a.xHidden.xPage.xDeferred :: .int .i64 a.xHidden.xPage.xEntered :: .own 26 2 .flat (rows kAddr TAddr.row a.xHidden.xPage.xRan) :: .own 27 1 .flat (rStr a.xHidden.xPage.xLog) :: .bool a.xHidden.xPage.xLoaded :: .own 29 8 .flat (rows kKept TKept.row a.xHidden.xTaken) :: .own 30 2 .clean (rows kServer TServer.row a.xHidden.xServers) :: .int .i64 a.xHidden.xNow :: .bool a.xFast :: [])
def kdFile : List Kd := [.str, .int, .int, .str, .int, .bool, .str]
theorem vkFile (a : TFile) (h : a.size ≤ 1125899906842624) : VKrow (cellsEnc kFile a.row) kdFile (32 + 32 * a.size) := by
 simp only [TFile.size, TResponse.size] at h ⊢
 have hh : VKrow [.str a.xPath, .int .i64 a.xResponse.xStatus, .int .i64 a.xResponse.xKind, .str a.xResponse.xBody, .int .i64 a.xResponse.xAge, .bool a.xResponse.xShares, .str a.xResponse.xPolicy] kdFile _ := .cons (vk_s a.xPath) (.cons (vk_i a.xResponse.xStatus) (.cons (vk_i a.xResponse.xKind) (.cons (vk_s a.xResponse.xBody) (.cons (vk_i a.xResponse.xAge) (.cons (vk_b a.xResponse.xShares) (.cons (vk_s a.xResponse.xPolicy) (.nil 0)))))))
 refine VKrow.mono hh ?_
 clear hh h
 omega
def kdServer : List Kd := [.str, .sl kdFile]
theorem vkServer (a : TServer) (h : a.size ≤ 1125899906842624) : VKrow (cellsEnc kServer a.row) kdServer (32 + 32 * a.size) := by
 simp only [TServer.size] at h ⊢
 have hh : VKrow [.str a.xHost, .sl 7 true (rows kFile TFile.row a.xFiles)] kdServer _ := .cons (vk_s a.xHost) (.cons (vkb_list (l := a.xFiles) (g := TFile.row) (kds := kdFile) rfl (by decide) (by omega) (fun x hx => vkFile x (by have := sumL_mem (f := TFile.size) hx; omega))) (.nil 0))
 refine VKrow.mono hh ?_
 clear hh h
 omega
def kdEntry : List Kd := [.str, .str, .str, .int, .int, .str, .int, .bool, .str, .int]
theorem vkEntry (a : TEntry) (h : a.size ≤ 1125899906842624) : VKrow (cellsEnc kEntry a.row) kdEntry (32 + 32 * a.size) := by
 simp only [TEntry.size, TAddr.size, TResponse.size] at h ⊢
 have hh : VKrow [.str a.xTop, .str a.xTo.xHost, .str a.xTo.xPath, .int .i64 a.xResponse.xStatus, .int .i64 a.xResponse.xKind, .str a.xResponse.xBody, .int .i64 a.xResponse.xAge, .bool a.xResponse.xShares, .str a.xResponse.xPolicy, .int .i64 a.xUntil] kdEntry _ := .cons (vk_s a.xTop) (.cons (vk_s a.xTo.xHost) (.cons (vk_s a.xTo.xPath) (.cons (vk_i a.xResponse.xStatus) (.cons (vk_i a.xResponse.xKind) (.cons (vk_s a.xResponse.xBody) (.cons (vk_i a.xResponse.xAge) (.cons (vk_b a.xResponse.xShares) (.cons (vk_s a.xResponse.xPolicy) (.cons (vk_i a.xUntil) (.nil 0))))))))))
 refine VKrow.mono hh ?_
 clear hh h
 omega
def kdSent : List Kd := [.str, .str, .str, .bool]
theorem vkSent (a : TSent) (h : a.size ≤ 1125899906842624) : VKrow (cellsEnc kSent a.row) kdSent (32 + 32 * a.size) := by
 simp only [TSent.size, TAddr.size] at h ⊢
 have hh : VKrow [.str a.xTop, .str a.xTo.xHost, .str a.xTo.xPath, .bool a.xGuess] kdSent _ := .cons (vk_s a.xTop) (.cons (vk_s a.xTo.xHost) (.cons (vk_s a.xTo.xPath) (.cons (vk_b a.xGuess) (.nil 0))))
 refine VKrow.mono hh ?_
 clear hh h
 omega
def kdAttr : List Kd := [.str, .str]
theorem vkAttr (a : TAttr) (h : a.size ≤ 1125899906842624) : VKrow (cellsEnc kAttr a.row) kdAttr (32 + 32 * a.size) := by
 simp only [TAttr.size] at h ⊢
 have hh : VKrow [.str a.xName, .str a.xValue] kdAttr _ := .cons (vk_s a.xName) (.cons (vk_s a.xValue) (.nil 0))
 refine VKrow.mono hh ?_
 clear hh h
 omega
def kdToken : List Kd := [.int, .str, .sl kdAttr, .str]
theorem vkToken (a : TToken) (h : a.size ≤ 1125899906842624) : VKrow (cellsEnc kToken a.row) kdToken (32 + 32 * a.size) := by
 simp only [TToken.size] at h ⊢
 have hh : VKrow [.int .i64 a.xKind, .str a.xName, .sl 2 true (rows kAttr TAttr.row a.xAttrs), .str a.xText] kdToken _ := .cons (vk_i a.xKind) (.cons (vk_s a.xName) (.cons (vkb_list (l := a.xAttrs) (g := TAttr.row) (kds := kdAttr) rfl (by decide) (by omega) (fun x hx => vkAttr x (by have := sumL_mem (f := TAttr.size) hx; omega))) (.cons (vk_s a.xText) (.nil 0))))
 refine VKrow.mono hh ?_
 clear hh h
 omega
def kdNode : List Kd := [.str, .str, .int, .sl kdAttr]
theorem vkNode (a : TNode) (h : a.size ≤ 1125899906842624) : VKrow (cellsEnc kNode a.row) kdNode (32 + 32 * a.size) := by
 simp only [TNode.size] at h ⊢
 have hh : VKrow [.str a.xName, .str a.xText, .int .i64 a.xParent, .sl 2 true (rows kAttr TAttr.row a.xAttrs)] kdNode _ := .cons (vk_s a.xName) (.cons (vk_s a.xText) (.cons (vk_i a.xParent) (.cons (vkb_list (l := a.xAttrs) (g := TAttr.row) (kds := kdAttr) rfl (by decide) (by omega) (fun x hx => vkAttr x (by have := sumL_mem (f := TAttr.size) hx; omega))) (.nil 0))))
 refine VKrow.mono hh ?_
 clear hh h
 omega
def kdSlot : List Kd := [.int, .str, .str, .str, .int, .bool, .int, .str]
theorem vkSlot (a : TSlot) (h : a.size ≤ 1125899906842624) : VKrow (cellsEnc kSlot a.row) kdSlot (32 + 32 * a.size) := by
 simp only [TSlot.size, TAddr.size] at h ⊢
 have hh : VKrow [.int .i64 a.xMode, .str a.xTo.xHost, .str a.xTo.xPath, .str a.xDigest, .int .i64 a.xNode, .bool a.xDone, .int .i64 a.xCode, .str a.xBody] kdSlot _ := .cons (vk_i a.xMode) (.cons (vk_s a.xTo.xHost) (.cons (vk_s a.xTo.xPath) (.cons (vk_s a.xDigest) (.cons (vk_i a.xNode) (.cons (vk_b a.xDone) (.cons (vk_i a.xCode) (.cons (vk_s a.xBody) (.nil 0))))))))
 refine VKrow.mono hh ?_
 clear hh h
 omega
def kdModule : List Kd := [.str, .str, .bool, .int, .str]
theorem vkModule (a : TModule) (h : a.size ≤ 1125899906842624) : VKrow (cellsEnc kModule a.row) kdModule (32 + 32 * a.size) := by
 simp only [TModule.size, TAddr.size] at h ⊢
 have hh : VKrow [.str a.xTo.xHost, .str a.xTo.xPath, .bool a.xDone, .int .i64 a.xCode, .str a.xBody] kdModule _ := .cons (vk_s a.xTo.xHost) (.cons (vk_s a.xTo.xPath) (.cons (vk_b a.xDone) (.cons (vk_i a.xCode) (.cons (vk_s a.xBody) (.nil 0)))))
 refine VKrow.mono hh ?_
 clear hh h
 omega
def kdAddr : List Kd := [.str, .str]
theorem vkAddr (a : TAddr) (h : a.size ≤ 1125899906842624) : VKrow (cellsEnc kAddr a.row) kdAddr (32 + 32 * a.size) := by
 simp only [TAddr.size] at h ⊢
 have hh : VKrow [.str a.xHost, .str a.xPath] kdAddr _ := .cons (vk_s a.xHost) (.cons (vk_s a.xPath) (.nil 0))
 refine VKrow.mono hh ?_
 clear hh h
 omega
def kdVisit : List Kd := [.str, .str, .str, .str, .bool, .sl [.str], .sl [.str], .sl [.str], .str, .str, .sl kdToken, .bool, .sl kdNode, .sl [.int], .sl kdSlot, .sl kdModule, .sl kdAddr, .int, .int, .int, .int, .sl kdAddr, .sl [.str], .bool, .bool]
set_option maxHeartbeats 1000000 in
theorem vkVisit (a : TVisit) (h : a.size ≤ 1125899906842624) : VKrow (cellsEnc kVisit a.row) kdVisit (32 + 32 * a.size) := by
 simp only [TVisit.size, TAddr.size, TPage.size, TPolicy.size, TTokenizer.size, TBuilder.size] at h ⊢
 have hh : VKrow (.str a.xAddr.xHost :: .str a.xAddr.xPath :: .str a.xPage.xAddr.xHost :: .str a.xPage.xAddr.xPath :: .bool a.xPage.xPolicy.xSet :: .sl 1 true (rStr a.xPage.xPolicy.xScripts) :: .sl 1 true (rStr a.xPage.xPolicy.xStyles) :: .sl 1 true (rStr a.xPage.xPolicy.xImages) :: .str a.xPage.xPolicy.xNonce :: .str a.xPage.xTok.xRest :: .sl 4 false (rows kToken TToken.row a.xPage.xQueue) :: .bool a.xPage.xEnded :: .sl 4 false (rows kNode TNode.row a.xPage.xBuilder.xNodes) :: .sl 1 true (rInt a.xPage.xBuilder.xOpen) :: .sl 8 true (rows kSlot TSlot.row a.xPage.xSlots) :: .sl 5 true (rows kModule TModule.row a.xPage.xMods) :: .sl 2 true (rows kAddr TAddr.row a.xPage.xEntries) :: .int .i64 a.xPage.xBlock :: .int .i64 a.xPage.xInline :: .int .i64 a.xPage.xDeferred :: .int .i64 a.xPage.xEntered :: .sl 2 true (rows kAddr TAddr.row a.xPage.xRan) :: .sl 1 true (rStr a.xPage.xLog) :: .bool a.xPage.xLoaded :: .bool a.xKept :: []) kdVisit _ := .cons (vk_s a.xAddr.xHost) (.cons (vk_s a.xAddr.xPath) (.cons (vk_s a.xPage.xAddr.xHost) (.cons (vk_s a.xPage.xAddr.xPath) (.cons (vk_b a.xPage.xPolicy.xSet) (.cons (vkb_strs (l := a.xPage.xPolicy.xScripts) (by omega)) (.cons (vkb_strs (l := a.xPage.xPolicy.xStyles) (by omega)) (.cons (vkb_strs (l := a.xPage.xPolicy.xImages) (by omega)) (.cons (vk_s a.xPage.xPolicy.xNonce) (.cons (vk_s a.xPage.xTok.xRest) (.cons (vkb_list (l := a.xPage.xQueue) (g := TToken.row) (kds := kdToken) rfl (by decide) (by omega) (fun x hx => vkToken x (by have := sumL_mem (f := TToken.size) hx; omega))) (.cons (vk_b a.xPage.xEnded) (.cons (vkb_list (l := a.xPage.xBuilder.xNodes) (g := TNode.row) (kds := kdNode) rfl (by decide) (by omega) (fun x hx => vkNode x (by have := sumL_mem (f := TNode.size) hx; omega))) (.cons (vkb_ints (l := a.xPage.xBuilder.xOpen) (by omega)) (.cons (vkb_list (l := a.xPage.xSlots) (g := TSlot.row) (kds := kdSlot) rfl (by decide) (by omega) (fun x hx => vkSlot x (by have := sumL_mem (f := TSlot.size) hx; omega))) (.cons (vkb_list (l := a.xPage.xMods) (g := TModule.row) (kds := kdModule) rfl (by decide) (by omega) (fun x hx => vkModule x (by have := sumL_mem (f := TModule.size) hx; omega))) (.cons (vkb_list (l := a.xPage.xEntries) (g := TAddr.row) (kds := kdAddr) rfl (by decide) (by omega) (fun x hx => vkAddr x (by have := sumL_mem (f := TAddr.size) hx; omega))) (.cons (vk_i a.xPage.xBlock) (.cons (vk_i a.xPage.xInline) (.cons (vk_i a.xPage.xDeferred) (.cons (vk_i a.xPage.xEntered) (.cons (vkb_list (l := a.xPage.xRan) (g := TAddr.row) (kds := kdAddr) rfl (by decide) (by omega) (fun x hx => vkAddr x (by have := sumL_mem (f := TAddr.size) hx; omega))) (.cons (vkb_strs (l := a.xPage.xLog) (by omega)) (.cons (vk_b a.xPage.xLoaded) (.cons (vk_b a.xKept) (.nil 0)))))))))))))))))))))))))
 refine VKrow.mono hh ?_
 clear hh h
 generalize a.xAddr.xHost.length = m0 at ⊢
 generalize a.xAddr.xPath.length = m1 at ⊢
 generalize a.xPage.xAddr.xHost.length = m2 at ⊢
 generalize a.xPage.xAddr.xPath.length = m3 at ⊢
 generalize a.xPage.xPolicy.xScripts.length = m4 at ⊢
 generalize sumL List.length a.xPage.xPolicy.xScripts = m5 at ⊢
 generalize a.xPage.xPolicy.xStyles.length = m6 at ⊢
 generalize sumL List.length a.xPage.xPolicy.xStyles = m7 at ⊢
 generalize a.xPage.xPolicy.xImages.length = m8 at ⊢
 generalize sumL List.length a.xPage.xPolicy.xImages = m9 at ⊢
 generalize a.xPage.xPolicy.xNonce.length = m10 at ⊢
 generalize a.xPage.xTok.xRest.length = m11 at ⊢
 generalize a.xPage.xQueue.length = m12 at ⊢
 generalize sumL TToken.size a.xPage.xQueue = m13 at ⊢
 generalize a.xPage.xBuilder.xNodes.length = m14 at ⊢
 generalize sumL TNode.size a.xPage.xBuilder.xNodes = m15 at ⊢
 generalize a.xPage.xBuilder.xOpen.length = m16 at ⊢
 generalize a.xPage.xSlots.length = m17 at ⊢
 generalize sumL TSlot.size a.xPage.xSlots = m18 at ⊢
 generalize a.xPage.xMods.length = m19 at ⊢
 generalize sumL TModule.size a.xPage.xMods = m20 at ⊢
 generalize a.xPage.xEntries.length = m21 at ⊢
 generalize sumL TAddr.size a.xPage.xEntries = m22 at ⊢
 generalize a.xPage.xRan.length = m23 at ⊢
 generalize sumL TAddr.size a.xPage.xRan = m24 at ⊢
 generalize a.xPage.xLog.length = m25 at ⊢
 generalize sumL List.length a.xPage.xLog = m26 at ⊢
 omega
def kdKept : List Kd := [.str, .str, .int, .int, .str, .int, .bool, .str]
theorem vkKept (a : TKept) (h : a.size ≤ 1125899906842624) : VKrow (cellsEnc kKept a.row) kdKept (32 + 32 * a.size) := by
 simp only [TKept.size, TAddr.size, TResponse.size] at h ⊢
 have hh : VKrow [.str a.xTo.xHost, .str a.xTo.xPath, .int .i64 a.xResponse.xStatus, .int .i64 a.xResponse.xKind, .str a.xResponse.xBody, .int .i64 a.xResponse.xAge, .bool a.xResponse.xShares, .str a.xResponse.xPolicy] kdKept _ := .cons (vk_s a.xTo.xHost) (.cons (vk_s a.xTo.xPath) (.cons (vk_i a.xResponse.xStatus) (.cons (vk_i a.xResponse.xKind) (.cons (vk_s a.xResponse.xBody) (.cons (vk_i a.xResponse.xAge) (.cons (vk_b a.xResponse.xShares) (.cons (vk_s a.xResponse.xPolicy) (.nil 0))))))))
 refine VKrow.mono hh ?_
 clear hh h
 omega
theorem mk160 : MarkOk Tryz.prog mt 160 (.sl kdFile) :=
 mark_sl (c := cfg) (subs := []) agree textOk (fun _ h => absurd h List.not_mem_nil) Tryz.func160 rfl rfl rfl (by kernel_rfl)
theorem mk96 : MarkOk Tryz.prog mt 96 (.sl kdServer) :=
 mark_sl (c := cfg) (subs := [(160, .sl kdFile)]) agree textOk (List.forall_mem_cons.2 ⟨mk160, fun _ h => absurd h List.not_mem_nil⟩) Tryz.func96 rfl rfl rfl (by kernel_rfl)
theorem mk208 : MarkOk Tryz.prog mt 208 (.sl kdEntry) :=
 mark_sl (c := cfg) (subs := []) agree textOk (fun _ h => absurd h List.not_mem_nil) Tryz.func208 rfl rfl rfl (by kernel_rfl)
theorem mk171 : MarkAOk Tryz.prog mt 171 1 [(0, kdEntry)] :=
 mark_ag (c := cfg) (subs := [(208, kdEntry)]) (asubs := []) agree (List.forall_mem_cons.2 ⟨mk208, fun _ h => absurd h List.not_mem_nil⟩) (fun _ h => absurd h List.not_mem_nil) Tryz.func171 rfl rfl rfl (by kernel_rfl)
theorem mk172 : MarkOk Tryz.prog mt 172 (.sl kdSent) :=
 mark_sl (c := cfg) (subs := []) agree textOk (fun _ h => absurd h List.not_mem_nil) Tryz.func172 rfl rfl rfl (by kernel_rfl)
theorem mk103 : MarkAOk Tryz.prog mt 103 4 [(0, kdServer), (1, kdEntry), (2, kdSent)] :=
 mark_ag (c := cfg) (subs := [(96, kdServer), (172, kdSent)]) (asubs := [⟨171, 1, [(0, kdEntry)]⟩]) agree (List.forall_mem_cons.2 ⟨mk96, List.forall_mem_cons.2 ⟨mk172, fun _ h => absurd h List.not_mem_nil⟩⟩) (List.forall_mem_cons.2 ⟨mk171, fun _ h => absurd h List.not_mem_nil⟩) Tryz.func103 rfl rfl rfl (by kernel_rfl)
theorem mk77 : MarkOk Tryz.prog mt 77 (.sl [.str]) :=
 mark_sl (c := cfg) (subs := []) agree textOk (fun _ h => absurd h List.not_mem_nil) Tryz.func77 rfl rfl rfl (by kernel_rfl)
theorem mk132 : MarkOk Tryz.prog mt 132 (.sl kdAttr) :=
 mark_sl (c := cfg) (subs := []) agree textOk (fun _ h => absurd h List.not_mem_nil) Tryz.func132 rfl rfl rfl (by kernel_rfl)
theorem mk73 : MarkOk Tryz.prog mt 73 (.sl kdToken) :=
 mark_sl (c := cfg) (subs := [(132, .sl kdAttr)]) agree textOk (List.forall_mem_cons.2 ⟨mk132, fun _ h => absurd h List.not_mem_nil⟩) Tryz.func73 rfl rfl rfl (by kernel_rfl)
theorem mk130 : MarkOk Tryz.prog mt 130 (.sl kdNode) :=
 mark_sl (c := cfg) (subs := [(132, .sl kdAttr)]) agree textOk (List.forall_mem_cons.2 ⟨mk132, fun _ h => absurd h List.not_mem_nil⟩) Tryz.func130 rfl rfl rfl (by kernel_rfl)
theorem mk131 : MarkOk Tryz.prog mt 131 (.sl [.int]) :=
 mark_sl (c := cfg) (subs := []) agree textOk (fun _ h => absurd h List.not_mem_nil) Tryz.func131 rfl rfl rfl (by kernel_rfl)
theorem mk75 : MarkOk Tryz.prog mt 75 (.sl kdSlot) :=
 mark_sl (c := cfg) (subs := []) agree textOk (fun _ h => absurd h List.not_mem_nil) Tryz.func75 rfl rfl rfl (by kernel_rfl)
theorem mk76 : MarkOk Tryz.prog mt 76 (.sl kdModule) :=
 mark_sl (c := cfg) (subs := []) agree textOk (fun _ h => absurd h List.not_mem_nil) Tryz.func76 rfl rfl rfl (by kernel_rfl)
theorem mk27 : MarkOk Tryz.prog mt 27 (.sl kdAddr) :=
 mark_sl (c := cfg) (subs := []) agree textOk (fun _ h => absurd h List.not_mem_nil) Tryz.func27 rfl rfl rfl (by kernel_rfl)
theorem mk71 : MarkOk Tryz.prog mt 71 (.sl kdVisit) :=
 mark_sl (c := cfg) (subs := [(77, .sl [.str]), (73, .sl kdToken), (130, .sl kdNode), (131, .sl [.int]), (75, .sl kdSlot), (76, .sl kdModule), (27, .sl kdAddr)]) agree textOk (List.forall_mem_cons.2 ⟨mk77, List.forall_mem_cons.2 ⟨mk73, List.forall_mem_cons.2 ⟨mk130, List.forall_mem_cons.2 ⟨mk131, List.forall_mem_cons.2 ⟨mk75, List.forall_mem_cons.2 ⟨mk76, List.forall_mem_cons.2 ⟨mk27, fun _ h => absurd h List.not_mem_nil⟩⟩⟩⟩⟩⟩⟩) Tryz.func71 rfl rfl rfl (by kernel_rfl)
theorem mk15 : MarkAOk Tryz.prog mt 15 2 [(0, kdVisit)] :=
 mark_ag (c := cfg) (subs := [(71, kdVisit)]) (asubs := []) agree (List.forall_mem_cons.2 ⟨mk71, fun _ h => absurd h List.not_mem_nil⟩) (fun _ h => absurd h List.not_mem_nil) Tryz.func15 rfl rfl rfl (by kernel_rfl)
theorem mk72 : MarkAOk Tryz.prog mt 72 5 [(1, [.str]), (2, [.str]), (3, [.str])] :=
 mark_ag (c := cfg) (subs := [(77, [.str])]) (asubs := []) agree (List.forall_mem_cons.2 ⟨mk77, fun _ h => absurd h List.not_mem_nil⟩) (fun _ h => absurd h List.not_mem_nil) Tryz.func72 rfl rfl rfl (by kernel_rfl)
theorem mk74 : MarkAOk Tryz.prog mt 74 2 [(0, kdNode), (1, [.int])] :=
 mark_ag (c := cfg) (subs := [(130, kdNode), (131, [.int])]) (asubs := []) agree (List.forall_mem_cons.2 ⟨mk130, List.forall_mem_cons.2 ⟨mk131, fun _ h => absurd h List.not_mem_nil⟩⟩) (fun _ h => absurd h List.not_mem_nil) Tryz.func74 rfl rfl rfl (by kernel_rfl)
theorem mk16 : MarkAOk Tryz.prog mt 16 22 [(3, [.str]), (4, [.str]), (5, [.str]), (8, kdToken), (10, kdNode), (11, [.int]), (12, kdSlot), (13, kdModule), (14, kdAddr), (19, kdAddr), (20, [.str])] :=
 mark_ag (c := cfg) (subs := [(73, kdToken), (75, kdSlot), (76, kdModule), (27, kdAddr), (77, [.str])]) (asubs := [⟨72, 5, [(1, [.str]), (2, [.str]), (3, [.str])]⟩, ⟨74, 2, [(0, kdNode), (1, [.int])]⟩]) agree (List.forall_mem_cons.2 ⟨mk73, List.forall_mem_cons.2 ⟨mk75, List.forall_mem_cons.2 ⟨mk76, List.forall_mem_cons.2 ⟨mk27, List.forall_mem_cons.2 ⟨mk77, fun _ h => absurd h List.not_mem_nil⟩⟩⟩⟩⟩) (List.forall_mem_cons.2 ⟨mk72, List.forall_mem_cons.2 ⟨mk74, fun _ h => absurd h List.not_mem_nil⟩⟩) Tryz.func16 rfl rfl rfl (by kernel_rfl)
theorem mk95 : MarkOk Tryz.prog mt 95 (.sl kdKept) :=
 mark_sl (c := cfg) (subs := []) agree textOk (fun _ h => absurd h List.not_mem_nil) Tryz.func95 rfl rfl rfl (by kernel_rfl)
theorem mk26 : MarkAOk Tryz.prog mt 26 26 [(4, [.str]), (5, [.str]), (6, [.str]), (9, kdToken), (11, kdNode), (12, [.int]), (13, kdSlot), (14, kdModule), (15, kdAddr), (20, kdAddr), (21, [.str]), (23, kdKept), (24, kdServer)] :=
 mark_ag (c := cfg) (subs := [(95, kdKept), (96, kdServer)]) (asubs := [⟨16, 22, [(3, [.str]), (4, [.str]), (5, [.str]), (8, kdToken), (10, kdNode), (11, [.int]), (12, kdSlot), (13, kdModule), (14, kdAddr), (19, kdAddr), (20, [.str])]⟩]) agree (List.forall_mem_cons.2 ⟨mk95, List.forall_mem_cons.2 ⟨mk96, fun _ h => absurd h List.not_mem_nil⟩⟩) (List.forall_mem_cons.2 ⟨mk16, fun _ h => absurd h List.not_mem_nil⟩) Tryz.func26 rfl rfl rfl (by kernel_rfl)
theorem mk34 : MarkAOk Tryz.prog mt 34 33 [(0, kdServer), (1, kdEntry), (2, kdSent), (4, kdVisit), (10, [.str]), (11, [.str]), (12, [.str]), (15, kdToken), (17, kdNode), (18, [.int]), (19, kdSlot), (20, kdModule), (21, kdAddr), (26, kdAddr), (27, [.str]), (29, kdKept), (30, kdServer)] :=
 mark_ag (c := cfg) (subs := []) (asubs := [⟨103, 4, [(0, kdServer), (1, kdEntry), (2, kdSent)]⟩, ⟨15, 2, [(0, kdVisit)]⟩, ⟨26, 26, [(4, [.str]), (5, [.str]), (6, [.str]), (9, kdToken), (11, kdNode), (12, [.int]), (13, kdSlot), (14, kdModule), (15, kdAddr), (20, kdAddr), (21, [.str]), (23, kdKept), (24, kdServer)]⟩]) agree (fun _ h => absurd h List.not_mem_nil) (List.forall_mem_cons.2 ⟨mk103, List.forall_mem_cons.2 ⟨mk15, List.forall_mem_cons.2 ⟨mk26, fun _ h => absurd h List.not_mem_nil⟩⟩⟩) Tryz.func34 rfl rfl rfl (by kernel_rfl)
theorem hd209 : HeldOk Tryz.prog mt 209 (.sl kdFile) :=
 held_sl (c := cfg) (subs := []) (by kernel_rfl) agree textOk (fun _ h => absurd h List.not_mem_nil) Tryz.func209 rfl rfl rfl (by kernel_rfl)
theorem hd173 : HeldOk Tryz.prog mt 173 (.sl kdServer) :=
 held_sl (c := cfg) (subs := [(209, .sl kdFile)]) (by kernel_rfl) agree textOk (List.forall_mem_cons.2 ⟨hd209, fun _ h => absurd h List.not_mem_nil⟩) Tryz.func173 rfl rfl rfl (by kernel_rfl)
theorem hd210 : HeldOk Tryz.prog mt 210 (.sl kdEntry) :=
 held_sl (c := cfg) (subs := []) (by kernel_rfl) agree textOk (fun _ h => absurd h List.not_mem_nil) Tryz.func210 rfl rfl rfl (by kernel_rfl)
theorem hd174 : HeldAOk Tryz.prog mt 174 1 [(0, kdEntry)] :=
 held_ag (c := cfg) (subs := [(210, kdEntry)]) (asubs := []) agree (List.forall_mem_cons.2 ⟨hd210, fun _ h => absurd h List.not_mem_nil⟩) (fun _ h => absurd h List.not_mem_nil) Tryz.func174 rfl rfl rfl (by kernel_rfl)
theorem hd175 : HeldOk Tryz.prog mt 175 (.sl kdSent) :=
 held_sl (c := cfg) (subs := []) (by kernel_rfl) agree textOk (fun _ h => absurd h List.not_mem_nil) Tryz.func175 rfl rfl rfl (by kernel_rfl)
theorem hd104 : HeldAOk Tryz.prog mt 104 4 [(0, kdServer), (1, kdEntry), (2, kdSent)] :=
 held_ag (c := cfg) (subs := [(173, kdServer), (175, kdSent)]) (asubs := [⟨174, 1, [(0, kdEntry)]⟩]) agree (List.forall_mem_cons.2 ⟨hd173, List.forall_mem_cons.2 ⟨hd175, fun _ h => absurd h List.not_mem_nil⟩⟩) (List.forall_mem_cons.2 ⟨hd174, fun _ h => absurd h List.not_mem_nil⟩) Tryz.func104 rfl rfl rfl (by kernel_rfl)
theorem hd133 : HeldOk Tryz.prog mt 133 (.sl [.str]) :=
 held_sl (c := cfg) (subs := []) (by kernel_rfl) agree textOk (fun _ h => absurd h List.not_mem_nil) Tryz.func133 rfl rfl rfl (by kernel_rfl)
theorem hd186 : HeldOk Tryz.prog mt 186 (.sl kdAttr) :=
 held_sl (c := cfg) (subs := []) (by kernel_rfl) agree textOk (fun _ h => absurd h List.not_mem_nil) Tryz.func186 rfl rfl rfl (by kernel_rfl)
theorem hd134 : HeldOk Tryz.prog mt 134 (.sl kdToken) :=
 held_sl (c := cfg) (subs := [(186, .sl kdAttr)]) (by kernel_rfl) agree textOk (List.forall_mem_cons.2 ⟨hd186, fun _ h => absurd h List.not_mem_nil⟩) Tryz.func134 rfl rfl rfl (by kernel_rfl)
theorem hd135 : HeldOk Tryz.prog mt 135 (.sl kdNode) :=
 held_sl (c := cfg) (subs := [(186, .sl kdAttr)]) (by kernel_rfl) agree textOk (List.forall_mem_cons.2 ⟨hd186, fun _ h => absurd h List.not_mem_nil⟩) Tryz.func135 rfl rfl rfl (by kernel_rfl)
theorem hd136 : HeldOk Tryz.prog mt 136 (.sl [.int]) :=
 held_sl (c := cfg) (subs := []) (by kernel_rfl) agree textOk (fun _ h => absurd h List.not_mem_nil) Tryz.func136 rfl rfl rfl (by kernel_rfl)
theorem hd137 : HeldOk Tryz.prog mt 137 (.sl kdSlot) :=
 held_sl (c := cfg) (subs := []) (by kernel_rfl) agree textOk (fun _ h => absurd h List.not_mem_nil) Tryz.func137 rfl rfl rfl (by kernel_rfl)
theorem hd138 : HeldOk Tryz.prog mt 138 (.sl kdModule) :=
 held_sl (c := cfg) (subs := []) (by kernel_rfl) agree textOk (fun _ h => absurd h List.not_mem_nil) Tryz.func138 rfl rfl rfl (by kernel_rfl)
theorem hd28 : HeldOk Tryz.prog mt 28 (.sl kdAddr) :=
 held_sl (c := cfg) (subs := []) (by kernel_rfl) agree textOk (fun _ h => absurd h List.not_mem_nil) Tryz.func28 rfl rfl rfl (by kernel_rfl)
theorem hd78 : HeldOk Tryz.prog mt 78 (.sl kdVisit) :=
 held_sl (c := cfg) (subs := [(133, .sl [.str]), (134, .sl kdToken), (135, .sl kdNode), (136, .sl [.int]), (137, .sl kdSlot), (138, .sl kdModule), (28, .sl kdAddr)]) (by kernel_rfl) agree textOk (List.forall_mem_cons.2 ⟨hd133, List.forall_mem_cons.2 ⟨hd134, List.forall_mem_cons.2 ⟨hd135, List.forall_mem_cons.2 ⟨hd136, List.forall_mem_cons.2 ⟨hd137, List.forall_mem_cons.2 ⟨hd138, List.forall_mem_cons.2 ⟨hd28, fun _ h => absurd h List.not_mem_nil⟩⟩⟩⟩⟩⟩⟩) Tryz.func78 rfl rfl rfl (by kernel_rfl)
theorem hd17 : HeldAOk Tryz.prog mt 17 2 [(0, kdVisit)] :=
 held_ag (c := cfg) (subs := [(78, kdVisit)]) (asubs := []) agree (List.forall_mem_cons.2 ⟨hd78, fun _ h => absurd h List.not_mem_nil⟩) (fun _ h => absurd h List.not_mem_nil) Tryz.func17 rfl rfl rfl (by kernel_rfl)
theorem hd211 : HeldAOk Tryz.prog mt 211 5 [(1, [.str]), (2, [.str]), (3, [.str])] :=
 held_ag (c := cfg) (subs := [(133, [.str])]) (asubs := []) agree (List.forall_mem_cons.2 ⟨hd133, fun _ h => absurd h List.not_mem_nil⟩) (fun _ h => absurd h List.not_mem_nil) Tryz.func211 rfl rfl rfl (by kernel_rfl)
theorem hd212 : HeldAOk Tryz.prog mt 212 2 [(0, kdNode), (1, [.int])] :=
 held_ag (c := cfg) (subs := [(135, kdNode), (136, [.int])]) (asubs := []) agree (List.forall_mem_cons.2 ⟨hd135, List.forall_mem_cons.2 ⟨hd136, fun _ h => absurd h List.not_mem_nil⟩⟩) (fun _ h => absurd h List.not_mem_nil) Tryz.func212 rfl rfl rfl (by kernel_rfl)
theorem hd176 : HeldAOk Tryz.prog mt 176 22 [(3, [.str]), (4, [.str]), (5, [.str]), (8, kdToken), (10, kdNode), (11, [.int]), (12, kdSlot), (13, kdModule), (14, kdAddr), (19, kdAddr), (20, [.str])] :=
 held_ag (c := cfg) (subs := [(134, kdToken), (137, kdSlot), (138, kdModule), (28, kdAddr), (133, [.str])]) (asubs := [⟨211, 5, [(1, [.str]), (2, [.str]), (3, [.str])]⟩, ⟨212, 2, [(0, kdNode), (1, [.int])]⟩]) agree (List.forall_mem_cons.2 ⟨hd134, List.forall_mem_cons.2 ⟨hd137, List.forall_mem_cons.2 ⟨hd138, List.forall_mem_cons.2 ⟨hd28, List.forall_mem_cons.2 ⟨hd133, fun _ h => absurd h List.not_mem_nil⟩⟩⟩⟩⟩) (List.forall_mem_cons.2 ⟨hd211, List.forall_mem_cons.2 ⟨hd212, fun _ h => absurd h List.not_mem_nil⟩⟩) Tryz.func176 rfl rfl rfl (by kernel_rfl)
theorem hd177 : HeldOk Tryz.prog mt 177 (.sl kdKept) :=
 held_sl (c := cfg) (subs := []) (by kernel_rfl) agree textOk (fun _ h => absurd h List.not_mem_nil) Tryz.func177 rfl rfl rfl (by kernel_rfl)
theorem hd105 : HeldAOk Tryz.prog mt 105 26 [(4, [.str]), (5, [.str]), (6, [.str]), (9, kdToken), (11, kdNode), (12, [.int]), (13, kdSlot), (14, kdModule), (15, kdAddr), (20, kdAddr), (21, [.str]), (23, kdKept), (24, kdServer)] :=
 held_ag (c := cfg) (subs := [(177, kdKept), (173, kdServer)]) (asubs := [⟨176, 22, [(3, [.str]), (4, [.str]), (5, [.str]), (8, kdToken), (10, kdNode), (11, [.int]), (12, kdSlot), (13, kdModule), (14, kdAddr), (19, kdAddr), (20, [.str])]⟩]) agree (List.forall_mem_cons.2 ⟨hd177, List.forall_mem_cons.2 ⟨hd173, fun _ h => absurd h List.not_mem_nil⟩⟩) (List.forall_mem_cons.2 ⟨hd176, fun _ h => absurd h List.not_mem_nil⟩) Tryz.func105 rfl rfl rfl (by kernel_rfl)
theorem hd35 : HeldAOk Tryz.prog mt 35 33 [(0, kdServer), (1, kdEntry), (2, kdSent), (4, kdVisit), (10, [.str]), (11, [.str]), (12, [.str]), (15, kdToken), (17, kdNode), (18, [.int]), (19, kdSlot), (20, kdModule), (21, kdAddr), (26, kdAddr), (27, [.str]), (29, kdKept), (30, kdServer)] :=
 held_ag (c := cfg) (subs := []) (asubs := [⟨104, 4, [(0, kdServer), (1, kdEntry), (2, kdSent)]⟩, ⟨17, 2, [(0, kdVisit)]⟩, ⟨105, 26, [(4, [.str]), (5, [.str]), (6, [.str]), (9, kdToken), (11, kdNode), (12, [.int]), (13, kdSlot), (14, kdModule), (15, kdAddr), (20, kdAddr), (21, [.str]), (23, kdKept), (24, kdServer)]⟩]) agree (fun _ h => absurd h List.not_mem_nil) (List.forall_mem_cons.2 ⟨hd104, List.forall_mem_cons.2 ⟨hd17, List.forall_mem_cons.2 ⟨hd105, fun _ h => absurd h List.not_mem_nil⟩⟩⟩) Tryz.func35 rfl rfl rfl (by kernel_rfl)
theorem handTWorld (cl : Bool) (a : TWorld) : Hand cl (ovWorld a) (hvWorld a) :=
 Hands.agg (.cons (.own _ _ _ _ _ (fun _ => by decide) (fun h => by cases h)) (.cons (.own _ _ _ _ _ (fun _ => by decide) (fun _ => flat_rows _ (flat_plain rfl))) (.cons (.own _ _ _ _ _ (fun _ => by decide) (fun _ => flat_rows _ (flat_plain rfl))) (.cons (.same _ trivial) (.cons (.own _ _ _ _ _ (fun _ => by decide) (fun h => by cases h)) (.cons (.same _ trivial) (.cons (.same _ trivial) (.cons (.same _ trivial) (.cons (.same _ trivial) (.cons (.same _ trivial) (.cons (.own _ _ _ _ _ (fun _ => by decide) (fun _ => flat_strs _)) (.cons (.own _ _ _ _ _ (fun _ => by decide) (fun _ => flat_strs _)) (.cons (.own _ _ _ _ _ (fun _ => by decide) (fun _ => flat_strs _)) (.cons (.same _ trivial) (.cons (.same _ trivial) (.cons (.own _ _ _ _ _ (fun _ => by decide) (fun h => by cases h)) (.cons (.same _ trivial) (.cons (.own _ _ _ _ _ (fun _ => by decide) (fun h => by cases h)) (.cons (.own _ _ _ _ _ (fun _ => by decide) (fun _ => flat_ints _)) (.cons (.own _ _ _ _ _ (fun _ => by decide) (fun _ => flat_rows _ (flat_plain rfl))) (.cons (.own _ _ _ _ _ (fun _ => by decide) (fun _ => flat_rows _ (flat_plain rfl))) (.cons (.own _ _ _ _ _ (fun _ => by decide) (fun _ => flat_rows _ (flat_plain rfl))) (.cons (.same _ trivial) (.cons (.same _ trivial) (.cons (.same _ trivial) (.cons (.same _ trivial) (.cons (.own _ _ _ _ _ (fun _ => by decide) (fun _ => flat_rows _ (flat_plain rfl))) (.cons (.own _ _ _ _ _ (fun _ => by decide) (fun _ => flat_strs _)) (.cons (.same _ trivial) (.cons (.own _ _ _ _ _ (fun _ => by decide) (fun _ => flat_rows _ (flat_plain rfl))) (.cons (.own _ _ _ _ _ (fun _ => by decide) (fun h => by cases h)) (.cons (.same _ trivial) (.cons (.same _ trivial) (.nil))))))))))))))))))))))))))))))))))
theorem agvTWorld (a : TWorld) : ∃ cs, (hvWorld a : V) = .agg cs ∧ cs.length = 33 ∧ allCell cs = true := ⟨_, rfl, rfl, rfl⟩
set_option maxHeartbeats 2000000 in
theorem ownTWorld (a : TWorld) (h : a.size ≤ 1125899906842624) : ∃ n, (Shp.a 33 [(0, kdServer), (1, kdEntry), (2, kdSent), (4, kdVisit), (10, [.str]), (11, [.str]), (12, [.str]), (15, kdToken), (17, kdNode), (18, [.int]), (19, kdSlot), (20, kdModule), (21, kdAddr), (26, kdAddr), (27, [.str]), (29, kdKept), (30, kdServer)]).own (ovWorld a) n ∧ n ≤ 36028797018964000 := by
 simp only [TWorld.size, TNet.size, TCache.size, TTab.size, THidden.size, TPage.size, TAddr.size, TPolicy.size, TTokenizer.size, TBuilder.size] at h
 have hh : OwnB (.own 0 2 .clean (rows kServer TServer.row a.xNet.xServers) :: .own 1 10 .flat (rows kEntry TEntry.row a.xNet.xCache.xEntries) :: .own 2 4 .flat (rows kSent TSent.row a.xNet.xLog) :: .int .i64 a.xNet.xNow :: .own 4 25 .clean (rows kVisit TVisit.row a.xTab.xVisits) :: .int .i64 a.xTab.xAt :: .bool a.xHidden.xReady :: .str a.xHidden.xPage.xAddr.xHost :: .str a.xHidden.xPage.xAddr.xPath :: .bool a.xHidden.xPage.xPolicy.xSet :: .own 10 1 .flat (rStr a.xHidden.xPage.xPolicy.xScripts) :: .own 11 1 .flat (rStr a.xHidden.xPage.xPolicy.xStyles) :: .own 12 1 .flat (rStr a.xHidden.xPage.xPolicy.xImages) :: .str a.xHidden.xPage.xPolicy.xNonce :: .str a.xHidden.xPage.xTok.xRest :: .own 15 4 .clean (rows kToken TToken.row a.xHidden.xPage.xQueue) :: .bool a.xHidden.xPage.xEnded :: .own 17 4 .clean (rows kNode TNode.row a.xHidden.xPage.xBuilder.xNodes) :: .own 18 1 .flat (rInt a.xHidden.xPage.xBuilder.xOpen) :: .own 19 8 .flat (rows kSlot TSlot.row a.xHidden.xPage.xSlots) :: .own 20 5 .flat (rows kModule TModule.row a.xHidden.xPage.xMods) :: .own 21 2 .flat (rows kAddr TAddr.row a.xHidden.xPage.xEntries) :: .int .i64 a.xHidden.xPage.xBlock :: .int .i64 a.xHidden.xPage.xInline :: .int .i64 a.xHidden.xPage.xDeferred :: .int .i64 a.xHidden.xPage.xEntered :: .own 26 2 .flat (rows kAddr TAddr.row a.xHidden.xPage.xRan) :: .own 27 1 .flat (rStr a.xHidden.xPage.xLog) :: .bool a.xHidden.xPage.xLoaded :: .own 29 8 .flat (rows kKept TKept.row a.xHidden.xTaken) :: .own 30 2 .clean (rows kServer TServer.row a.xHidden.xServers) :: .int .i64 a.xHidden.xNow :: .bool a.xFast :: []) [(0, kdServer), (1, kdEntry), (2, kdSent), (4, kdVisit), (10, [.str]), (11, [.str]), (12, [.str]), (15, kdToken), (17, kdNode), (18, [.int]), (19, kdSlot), (20, kdModule), (21, kdAddr), (26, kdAddr), (27, [.str]), (29, kdKept), (30, kdServer)] [] _ := OwnB.cons false rfl (by decide) (by decide) (vkb_list (l := a.xNet.xServers) (g := TServer.row) (kds := kdServer) rfl (by decide) (by omega) (fun x hx => vkServer x (by have := sumL_mem (f := TServer.size) hx; omega))) (OwnB.cons true rfl (by decide) (by decide) (vkb_list (l := a.xNet.xCache.xEntries) (g := TEntry.row) (kds := kdEntry) rfl (by decide) (by omega) (fun x hx => vkEntry x (by have := sumL_mem (f := TEntry.size) hx; omega))) (OwnB.cons true rfl (by decide) (by decide) (vkb_list (l := a.xNet.xLog) (g := TSent.row) (kds := kdSent) rfl (by decide) (by omega) (fun x hx => vkSent x (by have := sumL_mem (f := TSent.size) hx; omega))) (OwnB.cons false rfl (by decide) (by decide) (vkb_list (l := a.xTab.xVisits) (g := TVisit.row) (kds := kdVisit) rfl (by decide) (by omega) (fun x hx => vkVisit x (by have := sumL_mem (f := TVisit.size) hx; omega))) (OwnB.cons true rfl (by decide) (by decide) (vkb_strs (l := a.xHidden.xPage.xPolicy.xScripts) (by omega)) (OwnB.cons true rfl (by decide) (by decide) (vkb_strs (l := a.xHidden.xPage.xPolicy.xStyles) (by omega)) (OwnB.cons true rfl (by decide) (by decide) (vkb_strs (l := a.xHidden.xPage.xPolicy.xImages) (by omega)) (OwnB.cons false rfl (by decide) (by decide) (vkb_list (l := a.xHidden.xPage.xQueue) (g := TToken.row) (kds := kdToken) rfl (by decide) (by omega) (fun x hx => vkToken x (by have := sumL_mem (f := TToken.size) hx; omega))) (OwnB.cons false rfl (by decide) (by decide) (vkb_list (l := a.xHidden.xPage.xBuilder.xNodes) (g := TNode.row) (kds := kdNode) rfl (by decide) (by omega) (fun x hx => vkNode x (by have := sumL_mem (f := TNode.size) hx; omega))) (OwnB.cons true rfl (by decide) (by decide) (vkb_ints (l := a.xHidden.xPage.xBuilder.xOpen) (by omega)) (OwnB.cons true rfl (by decide) (by decide) (vkb_list (l := a.xHidden.xPage.xSlots) (g := TSlot.row) (kds := kdSlot) rfl (by decide) (by omega) (fun x hx => vkSlot x (by have := sumL_mem (f := TSlot.size) hx; omega))) (OwnB.cons true rfl (by decide) (by decide) (vkb_list (l := a.xHidden.xPage.xMods) (g := TModule.row) (kds := kdModule) rfl (by decide) (by omega) (fun x hx => vkModule x (by have := sumL_mem (f := TModule.size) hx; omega))) (OwnB.cons true rfl (by decide) (by decide) (vkb_list (l := a.xHidden.xPage.xEntries) (g := TAddr.row) (kds := kdAddr) rfl (by decide) (by omega) (fun x hx => vkAddr x (by have := sumL_mem (f := TAddr.size) hx; omega))) (OwnB.cons true rfl (by decide) (by decide) (vkb_list (l := a.xHidden.xPage.xRan) (g := TAddr.row) (kds := kdAddr) rfl (by decide) (by omega) (fun x hx => vkAddr x (by have := sumL_mem (f := TAddr.size) hx; omega))) (OwnB.cons true rfl (by decide) (by decide) (vkb_strs (l := a.xHidden.xPage.xLog) (by omega)) (OwnB.cons true rfl (by decide) (by decide) (vkb_list (l := a.xHidden.xTaken) (g := TKept.row) (kds := kdKept) rfl (by decide) (by omega) (fun x hx => vkKept x (by have := sumL_mem (f := TKept.size) hx; omega))) (OwnB.cons false rfl (by decide) (by decide) (vkb_list (l := a.xHidden.xServers) (g := TServer.row) (kds := kdServer) rfl (by decide) (by omega) (fun x hx => vkServer x (by have := sumL_mem (f := TServer.size) hx; omega))) (OwnB.nil _ _)))))))))))))))))
 have hh : OwnB (.own 0 2 .clean (rows kServer TServer.row a.xNet.xServers) :: .own 1 10 .flat (rows kEntry TEntry.row a.xNet.xCache.xEntries) :: .own 2 4 .flat (rows kSent TSent.row a.xNet.xLog) :: .int .i64 a.xNet.xNow :: .own 4 25 .clean (rows kVisit TVisit.row a.xTab.xVisits) :: .int .i64 a.xTab.xAt :: .bool a.xHidden.xReady :: .str a.xHidden.xPage.xAddr.xHost :: .str a.xHidden.xPage.xAddr.xPath :: .bool a.xHidden.xPage.xPolicy.xSet :: .own 10 1 .flat (rStr a.xHidden.xPage.xPolicy.xScripts) :: .own 11 1 .flat (rStr a.xHidden.xPage.xPolicy.xStyles) :: .own 12 1 .flat (rStr a.xHidden.xPage.xPolicy.xImages) :: .str a.xHidden.xPage.xPolicy.xNonce :: .str a.xHidden.xPage.xTok.xRest :: .own 15 4 .clean (rows kToken TToken.row a.xHidden.xPage.xQueue) :: .bool a.xHidden.xPage.xEnded :: .own 17 4 .clean (rows kNode TNode.row a.xHidden.xPage.xBuilder.xNodes) :: .own 18 1 .flat (rInt a.xHidden.xPage.xBuilder.xOpen) :: .own 19 8 .flat (rows kSlot TSlot.row a.xHidden.xPage.xSlots) :: .own 20 5 .flat (rows kModule TModule.row a.xHidden.xPage.xMods) :: .own 21 2 .flat (rows kAddr TAddr.row a.xHidden.xPage.xEntries) :: .int .i64 a.xHidden.xPage.xBlock :: .int .i64 a.xHidden.xPage.xInline :: .int .i64 a.xHidden.xPage.xDeferred :: .int .i64 a.xHidden.xPage.xEntered :: .own 26 2 .flat (rows kAddr TAddr.row a.xHidden.xPage.xRan) :: .own 27 1 .flat (rStr a.xHidden.xPage.xLog) :: .bool a.xHidden.xPage.xLoaded :: .own 29 8 .flat (rows kKept TKept.row a.xHidden.xTaken) :: .own 30 2 .clean (rows kServer TServer.row a.xHidden.xServers) :: .int .i64 a.xHidden.xNow :: .bool a.xFast :: []) [(0, kdServer), (1, kdEntry), (2, kdSent), (4, kdVisit), (10, [.str]), (11, [.str]), (12, [.str]), (15, kdToken), (17, kdNode), (18, [.int]), (19, kdSlot), (20, kdModule), (21, kdAddr), (26, kdAddr), (27, [.str]), (29, kdKept), (30, kdServer)] [] (32 + 32 * ((((a.xNet.xServers.length + sumL TServer.size a.xNet.xServers)) + ((((a.xNet.xCache.xEntries.length + sumL TEntry.size a.xNet.xCache.xEntries)) + (0)) + (((a.xNet.xLog.length + sumL TSent.size a.xNet.xLog)) + (0)))) + ((((a.xTab.xVisits.length + sumL TVisit.size a.xTab.xVisits)) + (0)) + ((((a.xHidden.xPage.xAddr.xHost.length + (a.xHidden.xPage.xAddr.xPath.length + (0))) + ((((a.xHidden.xPage.xPolicy.xScripts.length + sumL List.length a.xHidden.xPage.xPolicy.xScripts)) + (((a.xHidden.xPage.xPolicy.xStyles.length + sumL List.length a.xHidden.xPage.xPolicy.xStyles)) + (((a.xHidden.xPage.xPolicy.xImages.length + sumL List.length a.xHidden.xPage.xPolicy.xImages)) + (a.xHidden.xPage.xPolicy.xNonce.length + (0))))) + ((a.xHidden.xPage.xTok.xRest.length + (0)) + (((a.xHidden.xPage.xQueue.length + sumL TToken.size a.xHidden.xPage.xQueue)) + ((((a.xHidden.xPage.xBuilder.xNodes.length + sumL TNode.size a.xHidden.xPage.xBuilder.xNodes)) + (a.xHidden.xPage.xBuilder.xOpen.length + (0))) + (((a.xHidden.xPage.xSlots.length + sumL TSlot.size a.xHidden.xPage.xSlots)) + (((a.xHidden.xPage.xMods.length + sumL TModule.size a.xHidden.xPage.xMods)) + (((a.xHidden.xPage.xEntries.length + sumL TAddr.size a.xHidden.xPage.xEntries)) + (((a.xHidden.xPage.xRan.length + sumL TAddr.size a.xHidden.xPage.xRan)) + (((a.xHidden.xPage.xLog.length + sumL List.length a.xHidden.xPage.xLog)) + (0))))))))))) + (((a.xHidden.xTaken.length + sumL TKept.size a.xHidden.xTaken)) + (((a.xHidden.xServers.length + sumL TServer.size a.xHidden.xServers)) + (0)))) + (0))))) := by
  refine OwnB.mono hh ?_
  clear hh h
  generalize a.xNet.xServers.length = m0 at ⊢
  generalize sumL TServer.size a.xNet.xServers = m1 at ⊢
  generalize a.xNet.xCache.xEntries.length = m2 at ⊢
  generalize sumL TEntry.size a.xNet.xCache.xEntries = m3 at ⊢
  generalize a.xNet.xLog.length = m4 at ⊢
  generalize sumL TSent.size a.xNet.xLog = m5 at ⊢
  generalize a.xTab.xVisits.length = m6 at ⊢
  generalize sumL TVisit.size a.xTab.xVisits = m7 at ⊢
  generalize a.xHidden.xPage.xAddr.xHost.length = m8 at ⊢
  generalize a.xHidden.xPage.xAddr.xPath.length = m9 at ⊢
  generalize a.xHidden.xPage.xPolicy.xScripts.length = m10 at ⊢
  generalize sumL List.length a.xHidden.xPage.xPolicy.xScripts = m11 at ⊢
  generalize a.xHidden.xPage.xPolicy.xStyles.length = m12 at ⊢
  generalize sumL List.length a.xHidden.xPage.xPolicy.xStyles = m13 at ⊢
  generalize a.xHidden.xPage.xPolicy.xImages.length = m14 at ⊢
  generalize sumL List.length a.xHidden.xPage.xPolicy.xImages = m15 at ⊢
  generalize a.xHidden.xPage.xPolicy.xNonce.length = m16 at ⊢
  generalize a.xHidden.xPage.xTok.xRest.length = m17 at ⊢
  generalize a.xHidden.xPage.xQueue.length = m18 at ⊢
  generalize sumL TToken.size a.xHidden.xPage.xQueue = m19 at ⊢
  generalize a.xHidden.xPage.xBuilder.xNodes.length = m20 at ⊢
  generalize sumL TNode.size a.xHidden.xPage.xBuilder.xNodes = m21 at ⊢
  generalize a.xHidden.xPage.xBuilder.xOpen.length = m22 at ⊢
  generalize a.xHidden.xPage.xSlots.length = m23 at ⊢
  generalize sumL TSlot.size a.xHidden.xPage.xSlots = m24 at ⊢
  generalize a.xHidden.xPage.xMods.length = m25 at ⊢
  generalize sumL TModule.size a.xHidden.xPage.xMods = m26 at ⊢
  generalize a.xHidden.xPage.xEntries.length = m27 at ⊢
  generalize sumL TAddr.size a.xHidden.xPage.xEntries = m28 at ⊢
  generalize a.xHidden.xPage.xRan.length = m29 at ⊢
  generalize sumL TAddr.size a.xHidden.xPage.xRan = m30 at ⊢
  generalize a.xHidden.xPage.xLog.length = m31 at ⊢
  generalize sumL List.length a.xHidden.xPage.xLog = m32 at ⊢
  generalize a.xHidden.xTaken.length = m33 at ⊢
  generalize sumL TKept.size a.xHidden.xTaken = m34 at ⊢
  generalize a.xHidden.xServers.length = m35 at ⊢
  generalize sumL TServer.size a.xHidden.xServers = m36 at ⊢
  omega
 obtain ⟨n, h1, h2⟩ := hh.shp rfl
 exact ⟨n, h1, by omega⟩
theorem d29 (a : TWorld) (l : Int) (h0 : 0 ≤ l) (h1 : l ≤ 1048576) (h : a.ok) : D 29 [hvWorld a, .int .i64 l] = some (.int .i64 (szL l a.size)) :=
 fnok_any ok29 (show F29 V (rows kServer TServer.row a.xNet.xServers) (rows kEntry TEntry.row a.xNet.xCache.xEntries) (rows kSent TSent.row a.xNet.xLog) a.xNet.xNow (rows kVisit TVisit.row a.xTab.xVisits) a.xTab.xAt a.xHidden.xReady a.xHidden.xPage.xAddr.xHost a.xHidden.xPage.xAddr.xPath a.xHidden.xPage.xPolicy.xSet (rStr a.xHidden.xPage.xPolicy.xScripts) (rStr a.xHidden.xPage.xPolicy.xStyles) (rStr a.xHidden.xPage.xPolicy.xImages) a.xHidden.xPage.xPolicy.xNonce a.xHidden.xPage.xTok.xRest (rows kToken TToken.row a.xHidden.xPage.xQueue) a.xHidden.xPage.xEnded (rows kNode TNode.row a.xHidden.xPage.xBuilder.xNodes) (rInt a.xHidden.xPage.xBuilder.xOpen) (rows kSlot TSlot.row a.xHidden.xPage.xSlots) (rows kModule TModule.row a.xHidden.xPage.xMods) (rows kAddr TAddr.row a.xHidden.xPage.xEntries) a.xHidden.xPage.xBlock a.xHidden.xPage.xInline a.xHidden.xPage.xDeferred a.xHidden.xPage.xEntered (rows kAddr TAddr.row a.xHidden.xPage.xRan) (rStr a.xHidden.xPage.xLog) a.xHidden.xPage.xLoaded (rows kKept TKept.row a.xHidden.xTaken) (rows kServer TServer.row a.xHidden.xServers) a.xHidden.xNow a.xFast l (fun y => some (.int .i64 y)) = _ from szWorld a l h0 h1 h _)
theorem d31 (a : TWorld) (h : a.size ≤ 1048576) : D 31 [hvWorld a] = some (ovWorld a) :=
 fnok_any ok31 (show F31 V (rows kServer TServer.row a.xNet.xServers) (rows kEntry TEntry.row a.xNet.xCache.xEntries) (rows kSent TSent.row a.xNet.xLog) a.xNet.xNow (rows kVisit TVisit.row a.xTab.xVisits) a.xTab.xAt a.xHidden.xReady a.xHidden.xPage.xAddr.xHost a.xHidden.xPage.xAddr.xPath a.xHidden.xPage.xPolicy.xSet (rStr a.xHidden.xPage.xPolicy.xScripts) (rStr a.xHidden.xPage.xPolicy.xStyles) (rStr a.xHidden.xPage.xPolicy.xImages) a.xHidden.xPage.xPolicy.xNonce a.xHidden.xPage.xTok.xRest (rows kToken TToken.row a.xHidden.xPage.xQueue) a.xHidden.xPage.xEnded (rows kNode TNode.row a.xHidden.xPage.xBuilder.xNodes) (rInt a.xHidden.xPage.xBuilder.xOpen) (rows kSlot TSlot.row a.xHidden.xPage.xSlots) (rows kModule TModule.row a.xHidden.xPage.xMods) (rows kAddr TAddr.row a.xHidden.xPage.xEntries) a.xHidden.xPage.xBlock a.xHidden.xPage.xInline a.xHidden.xPage.xDeferred a.xHidden.xPage.xEntered (rows kAddr TAddr.row a.xHidden.xPage.xRan) (rStr a.xHidden.xPage.xLog) a.xHidden.xPage.xLoaded (rows kKept TKept.row a.xHidden.xTaken) (rows kServer TServer.row a.xHidden.xServers) a.xHidden.xNow a.xFast (fun y0 y1 y2 y3 y4 y5 y6 y7 y8 y9 y10 y11 y12 y13 y14 y15 y16 y17 y18 y19 y20 y21 y22 y23 y24 y25 y26 y27 y28 y29 y30 y31 y32 => some (.agg (.own 0 2 .clean y0 :: .own 1 10 .flat y1 :: .own 2 4 .flat y2 :: .int .i64 y3 :: .own 4 25 .clean y4 :: .int .i64 y5 :: .bool y6 :: .str y7 :: .str y8 :: .bool y9 :: .own 10 1 .flat y10 :: .own 11 1 .flat y11 :: .own 12 1 .flat y12 :: .str y13 :: .str y14 :: .own 15 4 .clean y15 :: .bool y16 :: .own 17 4 .clean y17 :: .own 18 1 .flat y18 :: .own 19 8 .flat y19 :: .own 20 5 .flat y20 :: .own 21 2 .flat y21 :: .int .i64 y22 :: .int .i64 y23 :: .int .i64 y24 :: .int .i64 y25 :: .own 26 2 .flat y26 :: .own 27 1 .flat y27 :: .bool y28 :: .own 29 8 .flat y29 :: .own 30 2 .clean y30 :: .int .i64 y31 :: .bool y32 :: []))) = _ from toWorld a h _)
theorem d30 (a0 : TWorld) {r : TWorld} (e : sSlowWorld a0 = some r) : D 30 [hvWorld a0] = some (ovWorld r) :=
 fnok_any ok30 (show F30 V (rows kServer TServer.row a0.xNet.xServers) (rows kEntry TEntry.row a0.xNet.xCache.xEntries) (rows kSent TSent.row a0.xNet.xLog) a0.xNet.xNow (rows kVisit TVisit.row a0.xTab.xVisits) a0.xTab.xAt a0.xHidden.xReady a0.xHidden.xPage.xAddr.xHost a0.xHidden.xPage.xAddr.xPath a0.xHidden.xPage.xPolicy.xSet (rStr a0.xHidden.xPage.xPolicy.xScripts) (rStr a0.xHidden.xPage.xPolicy.xStyles) (rStr a0.xHidden.xPage.xPolicy.xImages) a0.xHidden.xPage.xPolicy.xNonce a0.xHidden.xPage.xTok.xRest (rows kToken TToken.row a0.xHidden.xPage.xQueue) a0.xHidden.xPage.xEnded (rows kNode TNode.row a0.xHidden.xPage.xBuilder.xNodes) (rInt a0.xHidden.xPage.xBuilder.xOpen) (rows kSlot TSlot.row a0.xHidden.xPage.xSlots) (rows kModule TModule.row a0.xHidden.xPage.xMods) (rows kAddr TAddr.row a0.xHidden.xPage.xEntries) a0.xHidden.xPage.xBlock a0.xHidden.xPage.xInline a0.xHidden.xPage.xDeferred a0.xHidden.xPage.xEntered (rows kAddr TAddr.row a0.xHidden.xPage.xRan) (rStr a0.xHidden.xPage.xLog) a0.xHidden.xPage.xLoaded (rows kKept TKept.row a0.xHidden.xTaken) (rows kServer TServer.row a0.xHidden.xServers) a0.xHidden.xNow a0.xFast (fun y0 y1 y2 y3 y4 y5 y6 y7 y8 y9 y10 y11 y12 y13 y14 y15 y16 y17 y18 y19 y20 y21 y22 y23 y24 y25 y26 y27 y28 y29 y30 y31 y32 => (some (.agg (.own 0 2 .clean y0 :: .own 1 10 .flat y1 :: .own 2 4 .flat y2 :: .int .i64 y3 :: .own 4 25 .clean y4 :: .int .i64 y5 :: .bool y6 :: .str y7 :: .str y8 :: .bool y9 :: .own 10 1 .flat y10 :: .own 11 1 .flat y11 :: .own 12 1 .flat y12 :: .str y13 :: .str y14 :: .own 15 4 .clean y15 :: .bool y16 :: .own 17 4 .clean y17 :: .own 18 1 .flat y18 :: .own 19 8 .flat y19 :: .own 20 5 .flat y20 :: .own 21 2 .flat y21 :: .int .i64 y22 :: .int .i64 y23 :: .int .i64 y24 :: .int .i64 y25 :: .own 26 2 .flat y26 :: .own 27 1 .flat y27 :: .bool y28 :: .own 29 8 .flat y29 :: .own 30 2 .clean y30 :: .int .i64 y31 :: .bool y32 :: [])) : Option V)) = _ from ei_sSlowWorld a0 (fun y0 y1 y2 y3 y4 y5 y6 y7 y8 y9 y10 y11 y12 y13 y14 y15 y16 y17 y18 y19 y20 y21 y22 y23 y24 y25 y26 y27 y28 y29 y30 y31 y32 => (some (.agg (.own 0 2 .clean y0 :: .own 1 10 .flat y1 :: .own 2 4 .flat y2 :: .int .i64 y3 :: .own 4 25 .clean y4 :: .int .i64 y5 :: .bool y6 :: .str y7 :: .str y8 :: .bool y9 :: .own 10 1 .flat y10 :: .own 11 1 .flat y11 :: .own 12 1 .flat y12 :: .str y13 :: .str y14 :: .own 15 4 .clean y15 :: .bool y16 :: .own 17 4 .clean y17 :: .own 18 1 .flat y18 :: .own 19 8 .flat y19 :: .own 20 5 .flat y20 :: .own 21 2 .flat y21 :: .int .i64 y22 :: .int .i64 y23 :: .int .i64 y24 :: .int .i64 y25 :: .own 26 2 .flat y26 :: .own 27 1 .flat y27 :: .bool y28 :: .own 29 8 .flat y29 :: .own 30 2 .clean y30 :: .int .i64 y31 :: .bool y32 :: [])) : Option V)) _ e)
theorem d32 (a0 : TWorld) {r : TWorld} (e : iSlowWorld a0 = some r) : D 32 [hvWorld a0] = some (ovWorld r) :=
 fnok_any ok32 (show F32 V (rows kServer TServer.row a0.xNet.xServers) (rows kEntry TEntry.row a0.xNet.xCache.xEntries) (rows kSent TSent.row a0.xNet.xLog) a0.xNet.xNow (rows kVisit TVisit.row a0.xTab.xVisits) a0.xTab.xAt a0.xHidden.xReady a0.xHidden.xPage.xAddr.xHost a0.xHidden.xPage.xAddr.xPath a0.xHidden.xPage.xPolicy.xSet (rStr a0.xHidden.xPage.xPolicy.xScripts) (rStr a0.xHidden.xPage.xPolicy.xStyles) (rStr a0.xHidden.xPage.xPolicy.xImages) a0.xHidden.xPage.xPolicy.xNonce a0.xHidden.xPage.xTok.xRest (rows kToken TToken.row a0.xHidden.xPage.xQueue) a0.xHidden.xPage.xEnded (rows kNode TNode.row a0.xHidden.xPage.xBuilder.xNodes) (rInt a0.xHidden.xPage.xBuilder.xOpen) (rows kSlot TSlot.row a0.xHidden.xPage.xSlots) (rows kModule TModule.row a0.xHidden.xPage.xMods) (rows kAddr TAddr.row a0.xHidden.xPage.xEntries) a0.xHidden.xPage.xBlock a0.xHidden.xPage.xInline a0.xHidden.xPage.xDeferred a0.xHidden.xPage.xEntered (rows kAddr TAddr.row a0.xHidden.xPage.xRan) (rStr a0.xHidden.xPage.xLog) a0.xHidden.xPage.xLoaded (rows kKept TKept.row a0.xHidden.xTaken) (rows kServer TServer.row a0.xHidden.xServers) a0.xHidden.xNow a0.xFast (fun y0 y1 y2 y3 y4 y5 y6 y7 y8 y9 y10 y11 y12 y13 y14 y15 y16 y17 y18 y19 y20 y21 y22 y23 y24 y25 y26 y27 y28 y29 y30 y31 y32 => (some (.agg (.own 0 2 .clean y0 :: .own 1 10 .flat y1 :: .own 2 4 .flat y2 :: .int .i64 y3 :: .own 4 25 .clean y4 :: .int .i64 y5 :: .bool y6 :: .str y7 :: .str y8 :: .bool y9 :: .own 10 1 .flat y10 :: .own 11 1 .flat y11 :: .own 12 1 .flat y12 :: .str y13 :: .str y14 :: .own 15 4 .clean y15 :: .bool y16 :: .own 17 4 .clean y17 :: .own 18 1 .flat y18 :: .own 19 8 .flat y19 :: .own 20 5 .flat y20 :: .own 21 2 .flat y21 :: .int .i64 y22 :: .int .i64 y23 :: .int .i64 y24 :: .int .i64 y25 :: .own 26 2 .flat y26 :: .own 27 1 .flat y27 :: .bool y28 :: .own 29 8 .flat y29 :: .own 30 2 .clean y30 :: .int .i64 y31 :: .bool y32 :: [])) : Option V)) = _ from ei_iSlowWorld a0 (fun y0 y1 y2 y3 y4 y5 y6 y7 y8 y9 y10 y11 y12 y13 y14 y15 y16 y17 y18 y19 y20 y21 y22 y23 y24 y25 y26 y27 y28 y29 y30 y31 y32 => (some (.agg (.own 0 2 .clean y0 :: .own 1 10 .flat y1 :: .own 2 4 .flat y2 :: .int .i64 y3 :: .own 4 25 .clean y4 :: .int .i64 y5 :: .bool y6 :: .str y7 :: .str y8 :: .bool y9 :: .own 10 1 .flat y10 :: .own 11 1 .flat y11 :: .own 12 1 .flat y12 :: .str y13 :: .str y14 :: .own 15 4 .clean y15 :: .bool y16 :: .own 17 4 .clean y17 :: .own 18 1 .flat y18 :: .own 19 8 .flat y19 :: .own 20 5 .flat y20 :: .own 21 2 .flat y21 :: .int .i64 y22 :: .int .i64 y23 :: .int .i64 y24 :: .int .i64 y25 :: .own 26 2 .flat y26 :: .own 27 1 .flat y27 :: .bool y28 :: .own 29 8 .flat y29 :: .own 30 2 .clean y30 :: .int .i64 y31 :: .bool y32 :: [])) : Option V)) _ e)
theorem d33 (a : TWorld) (h : a.ok) : D 33 [hvWorld a, hvWorld a] = some (.bool true) :=
 fnok_any ok33 (show F33 V (rows kServer TServer.row a.xNet.xServers) (rows kEntry TEntry.row a.xNet.xCache.xEntries) (rows kSent TSent.row a.xNet.xLog) a.xNet.xNow (rows kVisit TVisit.row a.xTab.xVisits) a.xTab.xAt a.xHidden.xReady a.xHidden.xPage.xAddr.xHost a.xHidden.xPage.xAddr.xPath a.xHidden.xPage.xPolicy.xSet (rStr a.xHidden.xPage.xPolicy.xScripts) (rStr a.xHidden.xPage.xPolicy.xStyles) (rStr a.xHidden.xPage.xPolicy.xImages) a.xHidden.xPage.xPolicy.xNonce a.xHidden.xPage.xTok.xRest (rows kToken TToken.row a.xHidden.xPage.xQueue) a.xHidden.xPage.xEnded (rows kNode TNode.row a.xHidden.xPage.xBuilder.xNodes) (rInt a.xHidden.xPage.xBuilder.xOpen) (rows kSlot TSlot.row a.xHidden.xPage.xSlots) (rows kModule TModule.row a.xHidden.xPage.xMods) (rows kAddr TAddr.row a.xHidden.xPage.xEntries) a.xHidden.xPage.xBlock a.xHidden.xPage.xInline a.xHidden.xPage.xDeferred a.xHidden.xPage.xEntered (rows kAddr TAddr.row a.xHidden.xPage.xRan) (rStr a.xHidden.xPage.xLog) a.xHidden.xPage.xLoaded (rows kKept TKept.row a.xHidden.xTaken) (rows kServer TServer.row a.xHidden.xServers) a.xHidden.xNow a.xFast (rows kServer TServer.row a.xNet.xServers) (rows kEntry TEntry.row a.xNet.xCache.xEntries) (rows kSent TSent.row a.xNet.xLog) a.xNet.xNow (rows kVisit TVisit.row a.xTab.xVisits) a.xTab.xAt a.xHidden.xReady a.xHidden.xPage.xAddr.xHost a.xHidden.xPage.xAddr.xPath a.xHidden.xPage.xPolicy.xSet (rStr a.xHidden.xPage.xPolicy.xScripts) (rStr a.xHidden.xPage.xPolicy.xStyles) (rStr a.xHidden.xPage.xPolicy.xImages) a.xHidden.xPage.xPolicy.xNonce a.xHidden.xPage.xTok.xRest (rows kToken TToken.row a.xHidden.xPage.xQueue) a.xHidden.xPage.xEnded (rows kNode TNode.row a.xHidden.xPage.xBuilder.xNodes) (rInt a.xHidden.xPage.xBuilder.xOpen) (rows kSlot TSlot.row a.xHidden.xPage.xSlots) (rows kModule TModule.row a.xHidden.xPage.xMods) (rows kAddr TAddr.row a.xHidden.xPage.xEntries) a.xHidden.xPage.xBlock a.xHidden.xPage.xInline a.xHidden.xPage.xDeferred a.xHidden.xPage.xEntered (rows kAddr TAddr.row a.xHidden.xPage.xRan) (rStr a.xHidden.xPage.xLog) a.xHidden.xPage.xLoaded (rows kKept TKept.row a.xHidden.xTaken) (rows kServer TServer.row a.xHidden.xServers) a.xHidden.xNow a.xFast (fun y => some (.bool y)) = _ from (eqWorld a a h _).trans (by rw [decide_eq_true rfl]))
theorem lawg6 {va0TWorld vrTWorld oa0TWorld orTWorld : V} {n3 n4 : Nat} {z0 : Int} (gva0TWorld : ∃ cs, va0TWorld = .agg cs ∧ cs.length = 33 ∧ allCell cs = true) (gvrTWorld : ∃ cs, vrTWorld = .agg cs ∧ cs.length = 33 ∧ allCell cs = true)
  (h0 : D 29 [va0TWorld, .int .i64 1048576] = some (.int .i64 z0))
  (h1 : 0 ≤ z0 → D 31 [va0TWorld] = some (oa0TWorld))
  (h2 : 0 ≤ z0 → Hand false oa0TWorld va0TWorld)
  (h3 : 0 ≤ z0 → D 30 [va0TWorld] = some (orTWorld))
  (h4 : 0 ≤ z0 → Hand false orTWorld vrTWorld)
  (h5 : 0 ≤ z0 → Hand true oa0TWorld va0TWorld)
  (h6 : 0 ≤ z0 → (Shp.a 33 [(0, kdServer), (1, kdEntry), (2, kdSent), (4, kdVisit), (10, [.str]), (11, [.str]), (12, [.str]), (15, kdToken), (17, kdNode), (18, [.int]), (19, kdSlot), (20, kdModule), (21, kdAddr), (26, kdAddr), (27, [.str]), (29, kdKept), (30, kdServer)]).own oa0TWorld n3)
  (h7 : 0 ≤ z0 → D 32 [va0TWorld] = some (orTWorld))
  (h8 : 0 ≤ z0 → Hand true orTWorld vrTWorld)
  (h9 : 0 ≤ z0 → (Shp.a 33 [(0, kdServer), (1, kdEntry), (2, kdSent), (4, kdVisit), (10, [.str]), (11, [.str]), (12, [.str]), (15, kdToken), (17, kdNode), (18, [.int]), (19, kdSlot), (20, kdModule), (21, kdAddr), (26, kdAddr), (27, [.str]), (29, kdKept), (30, kdServer)]).own orTWorld n4)
  (h10 : 0 ≤ z0 → D 33 [vrTWorld, vrTWorld] = some (.bool true))
  (h11 : 0 ≤ z0 → D 33 [va0TWorld, va0TWorld] = some (.bool true))
  (h12 : 0 ≤ z0 → n3 ≤ 36028797018964000)
  (h13 : 0 ≤ z0 → n4 ≤ 36028797018964000)
  (R : Nat → Prop) (w : World) (vals : Array Value) (hg : globOk w) (hR : ∀ k, R k → k < w.heap.size) (hl : 1 = vals.size) (hv : ∀ (i : Nat) (v : Value), vals[i]? = some v → Rd w R ([va0TWorld, va0TWorld, vrTWorld, va0TWorld, vrTWorld, va0TWorld, va0TWorld, vrTWorld].getD i .undef) v) :
  Calls Tryz.prog 6 vals w fun
   | .returned x, w' => Answer R w (.bool true) x w'
   | _, _ => False := by
 refine law_marks (c := cfg) (P := Tryz.prog) (D := D) (mt := mt) (Vh := fun i => [va0TWorld, va0TWorld, vrTWorld, va0TWorld, vrTWorld, va0TWorld, va0TWorld, vrTWorld].getD i .undef) (Vo := fun i => [.undef, oa0TWorld, orTWorld, oa0TWorld, orTWorld, oa0TWorld, oa0TWorld, orTWorld].getD i .undef) (nn := fun j => if j = 3 then n3 else if j = 4 then n4 else 0) (shp := fun j => if j = 3 then .a 33 [(0, kdServer), (1, kdEntry), (2, kdSent), (4, kdVisit), (10, [.str]), (11, [.str]), (12, [.str]), (15, kdToken), (17, kdNode), (18, [.int]), (19, kdSlot), (20, kdModule), (21, kdAddr), (26, kdAddr), (27, [.str]), (29, kdKept), (30, kdServer)] else if j = 4 then .a 33 [(0, kdServer), (1, kdEntry), (2, kdSent), (4, kdVisit), (10, [.str]), (11, [.str]), (12, [.str]), (15, kdToken), (17, kdNode), (18, [.int]), (19, kdSlot), (20, kdModule), (21, kdAddr), (26, kdAddr), (27, [.str]), (29, kdKept), (30, kdServer)] else .s []) (ag := [some 33, some 33, some 33, some 33, some 33, some 33, some 33, some 33]) (Z := fun i => ([z0] : List Int).getD i 0) (k := 1) (fn := Tryz.f6)
  (es := [.sz 29 0 (.ki 1048576) 0, .low 0, .mk 31 [0] true 1, .mk 30 [1] true 2, .mk 31 [0] false 3, .mk 32 [3] false 4, .tt 33 [4, 2], .mk 31 [0] true 5, .tt 33 [3, 5], .mark 34 3 [], .tt 33 [4, 2], .mark 34 4 [], .held 35 4 [], .mk 31 [0] true 6, .mk 32 [6] true 7, .tt 33 [7, 2], .held 35 4 []])
  (by kernel_rfl) answers agree (fun j n hj => ?_) Tryz.func6 rfl rfl (by decide) (fun R w => ?_) (by kernel_rfl) R w vals hg hR hl hv
 ·match j, hj with
  | 0, hj => injection hj with hj; injection hj with hj; subst hj; exact gva0TWorld
  | 1, hj => injection hj with hj; injection hj with hj; subst hj; exact gva0TWorld
  | 2, hj => injection hj with hj; injection hj with hj; subst hj; exact gvrTWorld
  | 3, hj => injection hj with hj; injection hj with hj; subst hj; exact gva0TWorld
  | 4, hj => injection hj with hj; injection hj with hj; subst hj; exact gvrTWorld
  | 5, hj => injection hj with hj; injection hj with hj; subst hj; exact gva0TWorld
  | 6, hj => injection hj with hj; injection hj with hj; subst hj; exact gva0TWorld
  | 7, hj => injection hj with hj; injection hj with hj; subst hj; exact gvrTWorld
  | j + 8, hj => simp at hj
 ·exact LX.H_sz (1048576) rfl (h0) (LX.H_low fun q0 => (LX.H_sh (h1 q0) (h2 q0) (LX.H_sh (h3 q0) (h4 q0) (LX.H_nw (h1 q0) (h5 q0) (h6 q0) (LX.H_nw (h7 q0) (h8 q0) (h9 q0) (LX.H_tt (h10 q0) (LX.H_sh (h1 q0) (h2 q0) (LX.H_tt (h11 q0) (LX.H_mark mk34 (by have b0 := (h12 q0); show 1 + (0) + n3 ≤ _; simp only [Nat.add_zero]; omega) (LX.H_tt (h10 q0) (LX.H_mark mk34 (by have b0 := (h13 q0); show 1 + (0) + n4 ≤ _; simp only [Nat.add_zero]; omega) (LX.H_held hd35 (by have b0 := (h13 q0); show 1 + (0) + n4 ≤ _; simp only [Nat.add_zero]; omega) (LX.H_sh (h1 q0) (h2 q0) (LX.H_sh (h7 q0) (h4 q0) (LX.H_tt (h10 q0) (LX.H_held hd35 (by have b0 := (h13 q0); show 1 + (0) + n4 ≤ _; simp only [Nat.add_zero]; omega) (LX.H_nil)))))))))))))))))
def Told6 (args : List V) : Prop := ∀ (R : Nat → Prop) (w : World) (vals : Array Value), globOk w → (∀ k, R k → k < w.heap.size) → args.length = vals.size → (∀ (i : Nat) (c : V) (v : Value), args[i]? = some c → vals[i]? = some v → Rd w R c v) →
  Calls Tryz.prog 6 vals w fun
   | .returned x, w' => Answer R w (.bool true) x w'
   | _, _ => False
open Classical in
noncomputable def D6 : Nat → List V → Option V := fun f args => if f = 6 ∧ Told6 args then some (.bool true) else D f args
theorem answers6 : Answers Tryz.prog D6 := by
 intro f args r h
 unfold D6 at h
 split at h
 ·rename_i hc
  obtain ⟨rfl, ht⟩ := hc
  injection h with h
  subst h
  exact ⟨⟨Tryz.f6, Tryz.func6, rfl, by decide⟩, ht⟩
 ·exact answers f args r h
theorem law6 (a0 : TWorld) (o0 : a0.ok) : D6 6 [hvWorld a0] = some (.bool true) := by
 refine if_pos ⟨rfl, ?_⟩
 intro R w vals hg hR hl hv
 obtain ⟨r, hr⟩ := under (P := a0.size ≤ 1048576) (⟨⟨[], ⟨[]⟩, [], 0⟩, ⟨[], 0⟩, ⟨false, ⟨⟨[], []⟩, ⟨false, [], [], [], []⟩, ⟨[]⟩, [], false, ⟨[], []⟩, [], [], [], 0, 0, 0, 0, [], [], false⟩, [], [], 0⟩, false⟩ : TWorld) (fun h => eq_SlowWorld a0 o0 h)
 obtain ⟨n3, b3⟩ := under (P := a0.size ≤ 1048576) 0 (fun h => ownTWorld a0 (by omega))
 obtain ⟨n4, b4⟩ := under (P := a0.size ≤ 1048576) 0 (fun h => ownTWorld r (by have := (hr h).2.2.1; omega))
 have two : ∀ {l : Int} {n : Nat}, 0 ≤ szL l n → (n : Int) ≤ l ∧ szL l n = l - n := fun {l n} h => by
  unfold szL at h ⊢
  split at h
  ·omega
  ·rename_i hc; rw [if_neg hc]; omega
 have hval : ∀ (i : Nat) (v : Value), vals[i]? = some v → Rd w R ([hvWorld a0, hvWorld a0, hvWorld r, hvWorld a0, hvWorld r, hvWorld a0, hvWorld a0, hvWorld r].getD i .undef) v := fun i v h => by
  have hi : i < vals.size := (Array.getElem?_eq_some_iff.1 h).1
  have hi : i < 1 := by rw [← hl] at hi; exact hi
  match i, hi with
  | 0, _ => exact hv 0 _ v rfl h
 exact lawg6 (agvTWorld a0) (agvTWorld r)
  (d29 a0 1048576 (by omega) (by omega) o0)
  (fun q0 => d31 a0 (by have t0 := two q0; omega))
  (fun q0 => handTWorld _ a0)
  (fun q0 => d30 a0 (hr (by have t0 := two q0; exact by omega)).1)
  (fun q0 => handTWorld _ r)
  (fun q0 => handTWorld _ a0)
  (fun q0 => (b3 (by have t0 := two q0; exact by omega)).1)
  (fun q0 => d32 a0 (hr (by have t0 := two q0; exact by omega)).2.1)
  (fun q0 => handTWorld _ r)
  (fun q0 => (b4 (by have t0 := two q0; exact by omega)).1)
  (fun q0 => d33 r (hr (by have t0 := two q0; exact by omega)).2.2.2)
  (fun q0 => d33 a0 o0)
  (fun q0 => (b3 (by have t0 := two q0; exact by omega)).2)
  (fun q0 => (b4 (by have t0 := two q0; exact by omega)).2)
  R w vals hg hR hl hval
end Go.Am

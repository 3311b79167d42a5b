/-
  Laws that mark what they were given and what they were handed: the data's kinds, the functions that mark and that look for marks, the laws' own code. Written by program (walklaw3.py).
-/
import Derived.Test.YthncjpkjmgmdlaaGreatqaAmWp
import Derived.Test.YthncjpkjmgmdlaaGreatqaAmVk
set_option linter.unusedVariables false
set_option linter.unusedSimpArgs false
set_option maxRecDepth 100000
namespace Go.Am
open Go Go.Proofs
theorem textOk : TextOk Tryz.prog mt 97 := by
 refine ⟨⟨Tryz.f97, Tryz.func97, rfl, by decide⟩, fun k w hk hg => ?_⟩
 have hd : D 97 [.int .i64 (k : Int)] = some (.str (mt k)) := fnok_any ok97 (show F97 V (k : Int) (fun y => some (.str y)) = _ from ei_lmarkText (k : Int) (fun y => some (V.str y)) _ (mt_eq k hk))
 refine ((answers _ _ _ hd).2 (fun _ => False) w #[.int .i64 (k : Int)] hg (fun _ h => h.elim) rfl (fun i c v h1 h2 => ?_)).mono (fun e w' h => ?_)
 ·match i, h1, h2 with
  | 0, h1, h2 => injection h1 with h1; injection h2 with h2; subst h1; subst h2; exact .int _ _
  | i + 1, h1, _ => simp at h1
 ·cases e with
  | returned x =>
   obtain ⟨Γ, hv, _⟩ := h.val
   cases hv with
   | rd _ _ hr => cases hr with | str _ s hs => exact ⟨s, rfl, hs, kept_of h⟩
  | _ => exact h.elim
def kdAttr : List Kd := [.str, .str]
theorem vkAttr (a : TAttr) (h : a.size ≤ 1125899906842624) : VKrow (cellsEnc kAttr a.row) kdAttr (32 + 32 * a.size) := by
 simp only [TAttr.size] at h ⊢
 have hh : VKrow [.str a.xName, .str a.xValue] kdAttr _ := .cons (vk_s a.xName) (.cons (vk_s a.xValue) (.nil 0))
 refine VKrow.mono hh ?_
 clear hh h
 omega
def kdToken : List Kd := [.int, .str, .sl kdAttr, .str]
theorem vkToken (a : TToken) (h : a.size ≤ 1125899906842624) : VKrow (cellsEnc kToken a.row) kdToken (32 + 32 * a.size) := by
 simp only [TToken.size] at h ⊢
 have hh : VKrow [.int .i64 a.xKind, .str a.xName, .sl 2 true (rows kAttr TAttr.row a.xAttrs), .str a.xText] kdToken _ := .cons (vk_i a.xKind) (.cons (vk_s a.xName) (.cons (vkb_list (l := a.xAttrs) (g := TAttr.row) (kds := kdAttr) rfl (by decide) (by omega) (fun x hx => vkAttr x (by have := sumL_mem (f := TAttr.size) hx; omega))) (.cons (vk_s a.xText) (.nil 0))))
 refine VKrow.mono hh ?_
 clear hh h
 omega
def kdNode : List Kd := [.str, .str, .int, .sl kdAttr]
theorem vkNode (a : TNode) (h : a.size ≤ 1125899906842624) : VKrow (cellsEnc kNode a.row) kdNode (32 + 32 * a.size) := by
 simp only [TNode.size] at h ⊢
 have hh : VKrow [.str a.xName, .str a.xText, .int .i64 a.xParent, .sl 2 true (rows kAttr TAttr.row a.xAttrs)] kdNode _ := .cons (vk_s a.xName) (.cons (vk_s a.xText) (.cons (vk_i a.xParent) (.cons (vkb_list (l := a.xAttrs) (g := TAttr.row) (kds := kdAttr) rfl (by decide) (by omega) (fun x hx => vkAttr x (by have := sumL_mem (f := TAttr.size) hx; omega))) (.nil 0))))
 refine VKrow.mono hh ?_
 clear hh h
 omega
def kdSlot : List Kd := [.int, .str, .str, .str, .int, .bool, .int, .str]
theorem vkSlot (a : TSlot) (h : a.size ≤ 1125899906842624) : VKrow (cellsEnc kSlot a.row) kdSlot (32 + 32 * a.size) := by
 simp only [TSlot.size, TAddr.size] at h ⊢
 have hh : VKrow [.int .i64 a.xMode, .str a.xTo.xHost, .str a.xTo.xPath, .str a.xDigest, .int .i64 a.xNode, .bool a.xDone, .int .i64 a.xCode, .str a.xBody] kdSlot _ := .cons (vk_i a.xMode) (.cons (vk_s a.xTo.xHost) (.cons (vk_s a.xTo.xPath) (.cons (vk_s a.xDigest) (.cons (vk_i a.xNode) (.cons (vk_b a.xDone) (.cons (vk_i a.xCode) (.cons (vk_s a.xBody) (.nil 0))))))))
 refine VKrow.mono hh ?_
 clear hh h
 omega
def kdModule : List Kd := [.str, .str, .bool, .int, .str]
theorem vkModule (a : TModule) (h : a.size ≤ 1125899906842624) : VKrow (cellsEnc kModule a.row) kdModule (32 + 32 * a.size) := by
 simp only [TModule.size, TAddr.size] at h ⊢
 have hh : VKrow [.str a.xTo.xHost, .str a.xTo.xPath, .bool a.xDone, .int .i64 a.xCode, .str a.xBody] kdModule _ := .cons (vk_s a.xTo.xHost) (.cons (vk_s a.xTo.xPath) (.cons (vk_b a.xDone) (.cons (vk_i a.xCode) (.cons (vk_s a.xBody) (.nil 0)))))
 refine VKrow.mono hh ?_
 clear hh h
 omega
def kdAddr : List Kd := [.str, .str]
theorem vkAddr (a : TAddr) (h : a.size ≤ 1125899906842624) : VKrow (cellsEnc kAddr a.row) kdAddr (32 + 32 * a.size) := by
 simp only [TAddr.size] at h ⊢
 have hh : VKrow [.str a.xHost, .str a.xPath] kdAddr _ := .cons (vk_s a.xHost) (.cons (vk_s a.xPath) (.nil 0))
 refine VKrow.mono hh ?_
 clear hh h
 omega
def kdVisit : List Kd := [.str, .str, .str, .str, .bool, .sl [.str], .sl [.str], .sl [.str], .str, .str, .sl kdToken, .bool, .sl kdNode, .sl [.int], .sl kdSlot, .sl kdModule, .sl kdAddr, .int, .int, .int, .int, .sl kdAddr, .sl [.str], .bool, .bool]
set_option maxHeartbeats 1000000 in
theorem vkVisit (a : TVisit) (h : a.size ≤ 1125899906842624) : VKrow (cellsEnc kVisit a.row) kdVisit (32 + 32 * a.size) := by
 simp only [TVisit.size, TAddr.size, TPage.size, TPolicy.size, TTokenizer.size, TBuilder.size] at h ⊢
 have hh : VKrow [.str a.xAddr.xHost, .str a.xAddr.xPath, .str a.xPage.xAddr.xHost, .str a.xPage.xAddr.xPath, .bool a.xPage.xPolicy.xSet, .sl 1 true (rStr a.xPage.xPolicy.xScripts), .sl 1 true (rStr a.xPage.xPolicy.xStyles), .sl 1 true (rStr a.xPage.xPolicy.xImages), .str a.xPage.xPolicy.xNonce, .str a.xPage.xTok.xRest, .sl 4 false (rows kToken TToken.row a.xPage.xQueue), .bool a.xPage.xEnded, .sl 4 false (rows kNode TNode.row a.xPage.xBuilder.xNodes), .sl 1 true (rInt a.xPage.xBuilder.xOpen), .sl 8 true (rows kSlot TSlot.row a.xPage.xSlots), .sl 5 true (rows kModule TModule.row a.xPage.xMods), .sl 2 true (rows kAddr TAddr.row a.xPage.xEntries), .int .i64 a.xPage.xBlock, .int .i64 a.xPage.xInline, .int .i64 a.xPage.xDeferred, .int .i64 a.xPage.xEntered, .sl 2 true (rows kAddr TAddr.row a.xPage.xRan), .sl 1 true (rStr a.xPage.xLog), .bool a.xPage.xLoaded, .bool a.xKept] kdVisit _ := .cons (vk_s a.xAddr.xHost) (.cons (vk_s a.xAddr.xPath) (.cons (vk_s a.xPage.xAddr.xHost) (.cons (vk_s a.xPage.xAddr.xPath) (.cons (vk_b a.xPage.xPolicy.xSet) (.cons (vkb_strs (l := a.xPage.xPolicy.xScripts) (by omega)) (.cons (vkb_strs (l := a.xPage.xPolicy.xStyles) (by omega)) (.cons (vkb_strs (l := a.xPage.xPolicy.xImages) (by omega)) (.cons (vk_s a.xPage.xPolicy.xNonce) (.cons (vk_s a.xPage.xTok.xRest) (.cons (vkb_list (l := a.xPage.xQueue) (g := TToken.row) (kds := kdToken) rfl (by decide) (by omega) (fun x hx => vkToken x (by have := sumL_mem (f := TToken.size) hx; omega))) (.cons (vk_b a.xPage.xEnded) (.cons (vkb_list (l := a.xPage.xBuilder.xNodes) (g := TNode.row) (kds := kdNode) rfl (by decide) (by omega) (fun x hx => vkNode x (by have := sumL_mem (f := TNode.size) hx; omega))) (.cons (vkb_ints (l := a.xPage.xBuilder.xOpen) (by omega)) (.cons (vkb_list (l := a.xPage.xSlots) (g := TSlot.row) (kds := kdSlot) rfl (by decide) (by omega) (fun x hx => vkSlot x (by have := sumL_mem (f := TSlot.size) hx; omega))) (.cons (vkb_list (l := a.xPage.xMods) (g := TModule.row) (kds := kdModule) rfl (by decide) (by omega) (fun x hx => vkModule x (by have := sumL_mem (f := TModule.size) hx; omega))) (.cons (vkb_list (l := a.xPage.xEntries) (g := TAddr.row) (kds := kdAddr) rfl (by decide) (by omega) (fun x hx => vkAddr x (by have := sumL_mem (f := TAddr.size) hx; omega))) (.cons (vk_i a.xPage.xBlock) (.cons (vk_i a.xPage.xInline) (.cons (vk_i a.xPage.xDeferred) (.cons (vk_i a.xPage.xEntered) (.cons (vkb_list (l := a.xPage.xRan) (g := TAddr.row) (kds := kdAddr) rfl (by decide) (by omega) (fun x hx => vkAddr x (by have := sumL_mem (f := TAddr.size) hx; omega))) (.cons (vkb_strs (l := a.xPage.xLog) (by omega)) (.cons (vk_b a.xPage.xLoaded) (.cons (vk_b a.xKept) (.nil 0)))))))))))))))))))))))))
 refine VKrow.mono hh ?_
 clear hh h
 generalize a.xAddr.xHost.length = m0 at ⊢
 generalize a.xAddr.xPath.length = m1 at ⊢
 generalize a.xPage.xAddr.xHost.length = m2 at ⊢
 generalize a.xPage.xAddr.xPath.length = m3 at ⊢
 generalize a.xPage.xPolicy.xScripts.length = m4 at ⊢
 generalize sumL List.length a.xPage.xPolicy.xScripts = m5 at ⊢
 generalize a.xPage.xPolicy.xStyles.length = m6 at ⊢
 generalize sumL List.length a.xPage.xPolicy.xStyles = m7 at ⊢
 generalize a.xPage.xPolicy.xImages.length = m8 at ⊢
 generalize sumL List.length a.xPage.xPolicy.xImages = m9 at ⊢
 generalize a.xPage.xPolicy.xNonce.length = m10 at ⊢
 generalize a.xPage.xTok.xRest.length = m11 at ⊢
 generalize a.xPage.xQueue.length = m12 at ⊢
 generalize sumL TToken.size a.xPage.xQueue = m13 at ⊢
 generalize a.xPage.xBuilder.xNodes.length = m14 at ⊢
 generalize sumL TNode.size a.xPage.xBuilder.xNodes = m15 at ⊢
 generalize a.xPage.xBuilder.xOpen.length = m16 at ⊢
 generalize a.xPage.xSlots.length = m17 at ⊢
 generalize sumL TSlot.size a.xPage.xSlots = m18 at ⊢
 generalize a.xPage.xMods.length = m19 at ⊢
 generalize sumL TModule.size a.xPage.xMods = m20 at ⊢
 generalize a.xPage.xEntries.length = m21 at ⊢
 generalize sumL TAddr.size a.xPage.xEntries = m22 at ⊢
 generalize a.xPage.xRan.length = m23 at ⊢
 generalize sumL TAddr.size a.xPage.xRan = m24 at ⊢
 generalize a.xPage.xLog.length = m25 at ⊢
 generalize sumL List.length a.xPage.xLog = m26 at ⊢
 omega
theorem mk77 : MarkOk Tryz.prog mt 77 (.sl [.str]) :=
 mark_sl (c := cfg) (subs := []) agree textOk (fun _ h => absurd h List.not_mem_nil) Tryz.func77 rfl rfl rfl (by kernel_rfl)
theorem mk132 : MarkOk Tryz.prog mt 132 (.sl kdAttr) :=
 mark_sl (c := cfg) (subs := []) agree textOk (fun _ h => absurd h List.not_mem_nil) Tryz.func132 rfl rfl rfl (by kernel_rfl)
theorem mk73 : MarkOk Tryz.prog mt 73 (.sl kdToken) :=
 mark_sl (c := cfg) (subs := [(132, .sl kdAttr)]) agree textOk (List.forall_mem_cons.2 ⟨mk132, fun _ h => absurd h List.not_mem_nil⟩) Tryz.func73 rfl rfl rfl (by kernel_rfl)
theorem mk130 : MarkOk Tryz.prog mt 130 (.sl kdNode) :=
 mark_sl (c := cfg) (subs := [(132, .sl kdAttr)]) agree textOk (List.forall_mem_cons.2 ⟨mk132, fun _ h => absurd h List.not_mem_nil⟩) Tryz.func130 rfl rfl rfl (by kernel_rfl)
theorem mk131 : MarkOk Tryz.prog mt 131 (.sl [.int]) :=
 mark_sl (c := cfg) (subs := []) agree textOk (fun _ h => absurd h List.not_mem_nil) Tryz.func131 rfl rfl rfl (by kernel_rfl)
theorem mk75 : MarkOk Tryz.prog mt 75 (.sl kdSlot) :=
 mark_sl (c := cfg) (subs := []) agree textOk (fun _ h => absurd h List.not_mem_nil) Tryz.func75 rfl rfl rfl (by kernel_rfl)
theorem mk76 : MarkOk Tryz.prog mt 76 (.sl kdModule) :=
 mark_sl (c := cfg) (subs := []) agree textOk (fun _ h => absurd h List.not_mem_nil) Tryz.func76 rfl rfl rfl (by kernel_rfl)
theorem mk27 : MarkOk Tryz.prog mt 27 (.sl kdAddr) :=
 mark_sl (c := cfg) (subs := []) agree textOk (fun _ h => absurd h List.not_mem_nil) Tryz.func27 rfl rfl rfl (by kernel_rfl)
theorem mk71 : MarkOk Tryz.prog mt 71 (.sl kdVisit) :=
 mark_sl (c := cfg) (subs := [(77, .sl [.str]), (73, .sl kdToken), (130, .sl kdNode), (131, .sl [.int]), (75, .sl kdSlot), (76, .sl kdModule), (27, .sl kdAddr)]) agree textOk (List.forall_mem_cons.2 ⟨mk77, List.forall_mem_cons.2 ⟨mk73, List.forall_mem_cons.2 ⟨mk130, List.forall_mem_cons.2 ⟨mk131, List.forall_mem_cons.2 ⟨mk75, List.forall_mem_cons.2 ⟨mk76, List.forall_mem_cons.2 ⟨mk27, fun _ h => absurd h List.not_mem_nil⟩⟩⟩⟩⟩⟩⟩) Tryz.func71 rfl rfl rfl (by kernel_rfl)
theorem mk15 : MarkAOk Tryz.prog mt 15 2 [(0, kdVisit)] :=
 mark_ag (c := cfg) (subs := [(71, kdVisit)]) (asubs := []) agree (List.forall_mem_cons.2 ⟨mk71, fun _ h => absurd h List.not_mem_nil⟩) (fun _ h => absurd h List.not_mem_nil) Tryz.func15 rfl rfl rfl (by kernel_rfl)
theorem mk72 : MarkAOk Tryz.prog mt 72 5 [(1, [.str]), (2, [.str]), (3, [.str])] :=
 mark_ag (c := cfg) (subs := [(77, [.str])]) (asubs := []) agree (List.forall_mem_cons.2 ⟨mk77, fun _ h => absurd h List.not_mem_nil⟩) (fun _ h => absurd h List.not_mem_nil) Tryz.func72 rfl rfl rfl (by kernel_rfl)
theorem mk74 : MarkAOk Tryz.prog mt 74 2 [(0, kdNode), (1, [.int])] :=
 mark_ag (c := cfg) (subs := [(130, kdNode), (131, [.int])]) (asubs := []) agree (List.forall_mem_cons.2 ⟨mk130, List.forall_mem_cons.2 ⟨mk131, fun _ h => absurd h List.not_mem_nil⟩⟩) (fun _ h => absurd h List.not_mem_nil) Tryz.func74 rfl rfl rfl (by kernel_rfl)
theorem mk16 : MarkAOk Tryz.prog mt 16 22 [(3, [.str]), (4, [.str]), (5, [.str]), (8, kdToken), (10, kdNode), (11, [.int]), (12, kdSlot), (13, kdModule), (14, kdAddr), (19, kdAddr), (20, [.str])] :=
 mark_ag (c := cfg) (subs := [(73, kdToken), (75, kdSlot), (76, kdModule), (27, kdAddr), (77, [.str])]) (asubs := [⟨72, 5, [(1, [.str]), (2, [.str]), (3, [.str])]⟩, ⟨74, 2, [(0, kdNode), (1, [.int])]⟩]) agree (List.forall_mem_cons.2 ⟨mk73, List.forall_mem_cons.2 ⟨mk75, List.forall_mem_cons.2 ⟨mk76, List.forall_mem_cons.2 ⟨mk27, List.forall_mem_cons.2 ⟨mk77, fun _ h => absurd h List.not_mem_nil⟩⟩⟩⟩⟩) (List.forall_mem_cons.2 ⟨mk72, List.forall_mem_cons.2 ⟨mk74, fun _ h => absurd h List.not_mem_nil⟩⟩) Tryz.func16 rfl rfl rfl (by kernel_rfl)
theorem hd133 : HeldOk Tryz.prog mt 133 (.sl [.str]) :=
 held_sl (c := cfg) (subs := []) (by kernel_rfl) agree textOk (fun _ h => absurd h List.not_mem_nil) Tryz.func133 rfl rfl rfl (by kernel_rfl)
theorem hd186 : HeldOk Tryz.prog mt 186 (.sl kdAttr) :=
 held_sl (c := cfg) (subs := []) (by kernel_rfl) agree textOk (fun _ h => absurd h List.not_mem_nil) Tryz.func186 rfl rfl rfl (by kernel_rfl)
theorem hd134 : HeldOk Tryz.prog mt 134 (.sl kdToken) :=
 held_sl (c := cfg) (subs := [(186, .sl kdAttr)]) (by kernel_rfl) agree textOk (List.forall_mem_cons.2 ⟨hd186, fun _ h => absurd h List.not_mem_nil⟩) Tryz.func134 rfl rfl rfl (by kernel_rfl)
theorem hd135 : HeldOk Tryz.prog mt 135 (.sl kdNode) :=
 held_sl (c := cfg) (subs := [(186, .sl kdAttr)]) (by kernel_rfl) agree textOk (List.forall_mem_cons.2 ⟨hd186, fun _ h => absurd h List.not_mem_nil⟩) Tryz.func135 rfl rfl rfl (by kernel_rfl)
theorem hd136 : HeldOk Tryz.prog mt 136 (.sl [.int]) :=
 held_sl (c := cfg) (subs := []) (by kernel_rfl) agree textOk (fun _ h => absurd h List.not_mem_nil) Tryz.func136 rfl rfl rfl (by kernel_rfl)
theorem hd137 : HeldOk Tryz.prog mt 137 (.sl kdSlot) :=
 held_sl (c := cfg) (subs := []) (by kernel_rfl) agree textOk (fun _ h => absurd h List.not_mem_nil) Tryz.func137 rfl rfl rfl (by kernel_rfl)
theorem hd138 : HeldOk Tryz.prog mt 138 (.sl kdModule) :=
 held_sl (c := cfg) (subs := []) (by kernel_rfl) agree textOk (fun _ h => absurd h List.not_mem_nil) Tryz.func138 rfl rfl rfl (by kernel_rfl)
theorem hd28 : HeldOk Tryz.prog mt 28 (.sl kdAddr) :=
 held_sl (c := cfg) (subs := []) (by kernel_rfl) agree textOk (fun _ h => absurd h List.not_mem_nil) Tryz.func28 rfl rfl rfl (by kernel_rfl)
theorem hd78 : HeldOk Tryz.prog mt 78 (.sl kdVisit) :=
 held_sl (c := cfg) (subs := [(133, .sl [.str]), (134, .sl kdToken), (135, .sl kdNode), (136, .sl [.int]), (137, .sl kdSlot), (138, .sl kdModule), (28, .sl kdAddr)]) (by kernel_rfl) agree textOk (List.forall_mem_cons.2 ⟨hd133, List.forall_mem_cons.2 ⟨hd134, List.forall_mem_cons.2 ⟨hd135, List.forall_mem_cons.2 ⟨hd136, List.forall_mem_cons.2 ⟨hd137, List.forall_mem_cons.2 ⟨hd138, List.forall_mem_cons.2 ⟨hd28, fun _ h => absurd h List.not_mem_nil⟩⟩⟩⟩⟩⟩⟩) Tryz.func78 rfl rfl rfl (by kernel_rfl)
theorem hd17 : HeldAOk Tryz.prog mt 17 2 [(0, kdVisit)] :=
 held_ag (c := cfg) (subs := [(78, kdVisit)]) (asubs := []) agree (List.forall_mem_cons.2 ⟨hd78, fun _ h => absurd h List.not_mem_nil⟩) (fun _ h => absurd h List.not_mem_nil) Tryz.func17 rfl rfl rfl (by kernel_rfl)
theorem handTTab (cl : Bool) (a : TTab) : Hand cl (.agg [.own 0 25 .clean (rows kVisit TVisit.row a.xVisits), .int .i64 a.xAt]) (.agg [.sl 25 false (rows kVisit TVisit.row a.xVisits), .int .i64 a.xAt]) :=
 Hands.agg (.cons (.own _ _ _ _ _ (fun _ => by decide) (fun h => by cases h)) (.cons (.same _ trivial) (.nil)))
theorem agvTTab (a : TTab) : ∃ cs, (.agg [.sl 25 false (rows kVisit TVisit.row a.xVisits), .int .i64 a.xAt] : V) = .agg cs ∧ cs.length = 2 ∧ allCell cs = true := ⟨_, rfl, rfl, rfl⟩
theorem handTPage (cl : Bool) (a : TPage) : Hand cl (.agg [.str a.xAddr.xHost, .str a.xAddr.xPath, .bool a.xPolicy.xSet, .own 3 1 .flat (rStr a.xPolicy.xScripts), .own 4 1 .flat (rStr a.xPolicy.xStyles), .own 5 1 .flat (rStr a.xPolicy.xImages), .str a.xPolicy.xNonce, .str a.xTok.xRest, .own 8 4 .clean (rows kToken TToken.row a.xQueue), .bool a.xEnded, .own 10 4 .clean (rows kNode TNode.row a.xBuilder.xNodes), .own 11 1 .flat (rInt a.xBuilder.xOpen), .own 12 8 .flat (rows kSlot TSlot.row a.xSlots), .own 13 5 .flat (rows kModule TModule.row a.xMods), .own 14 2 .flat (rows kAddr TAddr.row a.xEntries), .int .i64 a.xBlock, .int .i64 a.xInline, .int .i64 a.xDeferred, .int .i64 a.xEntered, .own 19 2 .flat (rows kAddr TAddr.row a.xRan), .own 20 1 .flat (rStr a.xLog), .bool a.xLoaded]) (.agg [.str a.xAddr.xHost, .str a.xAddr.xPath, .bool a.xPolicy.xSet, .sl 1 true (rStr a.xPolicy.xScripts), .sl 1 true (rStr a.xPolicy.xStyles), .sl 1 true (rStr a.xPolicy.xImages), .str a.xPolicy.xNonce, .str a.xTok.xRest, .sl 4 false (rows kToken TToken.row a.xQueue), .bool a.xEnded, .sl 4 false (rows kNode TNode.row a.xBuilder.xNodes), .sl 1 true (rInt a.xBuilder.xOpen), .sl 8 true (rows kSlot TSlot.row a.xSlots), .sl 5 true (rows kModule TModule.row a.xMods), .sl 2 true (rows kAddr TAddr.row a.xEntries), .int .i64 a.xBlock, .int .i64 a.xInline, .int .i64 a.xDeferred, .int .i64 a.xEntered, .sl 2 true (rows kAddr TAddr.row a.xRan), .sl 1 true (rStr a.xLog), .bool a.xLoaded]) :=
 Hands.agg (.cons (.same _ trivial) (.cons (.same _ trivial) (.cons (.same _ trivial) (.cons (.own _ _ _ _ _ (fun _ => by decide) (fun _ => flat_strs _)) (.cons (.own _ _ _ _ _ (fun _ => by decide) (fun _ => flat_strs _)) (.cons (.own _ _ _ _ _ (fun _ => by decide) (fun _ => flat_strs _)) (.cons (.same _ trivial) (.cons (.same _ trivial) (.cons (.own _ _ _ _ _ (fun _ => by decide) (fun h => by cases h)) (.cons (.same _ trivial) (.cons (.own _ _ _ _ _ (fun _ => by decide) (fun h => by cases h)) (.cons (.own _ _ _ _ _ (fun _ => by decide) (fun _ => flat_ints _)) (.cons (.own _ _ _ _ _ (fun _ => by decide) (fun _ => flat_rows _ (flat_plain rfl))) (.cons (.own _ _ _ _ _ (fun _ => by decide) (fun _ => flat_rows _ (flat_plain rfl))) (.cons (.own _ _ _ _ _ (fun _ => by decide) (fun _ => flat_rows _ (flat_plain rfl))) (.cons (.same _ trivial) (.cons (.same _ trivial) (.cons (.same _ trivial) (.cons (.same _ trivial) (.cons (.own _ _ _ _ _ (fun _ => by decide) (fun _ => flat_rows _ (flat_plain rfl))) (.cons (.own _ _ _ _ _ (fun _ => by decide) (fun _ => flat_strs _)) (.cons (.same _ trivial) (.nil)))))))))))))))))))))))
theorem agvTPage (a : TPage) : ∃ cs, (.agg [.str a.xAddr.xHost, .str a.xAddr.xPath, .bool a.xPolicy.xSet, .sl 1 true (rStr a.xPolicy.xScripts), .sl 1 true (rStr a.xPolicy.xStyles), .sl 1 true (rStr a.xPolicy.xImages), .str a.xPolicy.xNonce, .str a.xTok.xRest, .sl 4 false (rows kToken TToken.row a.xQueue), .bool a.xEnded, .sl 4 false (rows kNode TNode.row a.xBuilder.xNodes), .sl 1 true (rInt a.xBuilder.xOpen), .sl 8 true (rows kSlot TSlot.row a.xSlots), .sl 5 true (rows kModule TModule.row a.xMods), .sl 2 true (rows kAddr TAddr.row a.xEntries), .int .i64 a.xBlock, .int .i64 a.xInline, .int .i64 a.xDeferred, .int .i64 a.xEntered, .sl 2 true (rows kAddr TAddr.row a.xRan), .sl 1 true (rStr a.xLog), .bool a.xLoaded] : V) = .agg cs ∧ cs.length = 22 ∧ allCell cs = true := ⟨_, rfl, rfl, rfl⟩
theorem ownTTab (a : TTab) (h : a.size ≤ 1125899906842624) : ∃ n, (Shp.a 2 [(0, kdVisit)]).own (.agg [.own 0 25 .clean (rows kVisit TVisit.row a.xVisits), .int .i64 a.xAt]) n ∧ n ≤ 36028797018964000 := by
 simp only [TTab.size] at h
 have hh : OwnB [.own 0 25 .clean (rows kVisit TVisit.row a.xVisits), .int .i64 a.xAt] [(0, kdVisit)] [] _ := OwnB.cons false rfl (by decide) (by decide) (vkb_list (l := a.xVisits) (g := TVisit.row) (kds := kdVisit) rfl (by decide) (by omega) (fun x hx => vkVisit x (by have := sumL_mem (f := TVisit.size) hx; omega))) (OwnB.nil _ _)
 obtain ⟨n, h1, h2⟩ := hh.shp rfl
 exact ⟨n, h1, by omega⟩
theorem ownTPage (a : TPage) (h : a.size ≤ 1125899906842624) : ∃ n, (Shp.a 22 [(3, [.str]), (4, [.str]), (5, [.str]), (8, kdToken), (10, kdNode), (11, [.int]), (12, kdSlot), (13, kdModule), (14, kdAddr), (19, kdAddr), (20, [.str])]).own (.agg [.str a.xAddr.xHost, .str a.xAddr.xPath, .bool a.xPolicy.xSet, .own 3 1 .flat (rStr a.xPolicy.xScripts), .own 4 1 .flat (rStr a.xPolicy.xStyles), .own 5 1 .flat (rStr a.xPolicy.xImages), .str a.xPolicy.xNonce, .str a.xTok.xRest, .own 8 4 .clean (rows kToken TToken.row a.xQueue), .bool a.xEnded, .own 10 4 .clean (rows kNode TNode.row a.xBuilder.xNodes), .own 11 1 .flat (rInt a.xBuilder.xOpen), .own 12 8 .flat (rows kSlot TSlot.row a.xSlots), .own 13 5 .flat (rows kModule TModule.row a.xMods), .own 14 2 .flat (rows kAddr TAddr.row a.xEntries), .int .i64 a.xBlock, .int .i64 a.xInline, .int .i64 a.xDeferred, .int .i64 a.xEntered, .own 19 2 .flat (rows kAddr TAddr.row a.xRan), .own 20 1 .flat (rStr a.xLog), .bool a.xLoaded]) n ∧ n ≤ 36028797018964000 := by
 simp only [TPage.size, TAddr.size, TPolicy.size, TTokenizer.size, TBuilder.size] at h
 have hh : OwnB [.str a.xAddr.xHost, .str a.xAddr.xPath, .bool a.xPolicy.xSet, .own 3 1 .flat (rStr a.xPolicy.xScripts), .own 4 1 .flat (rStr a.xPolicy.xStyles), .own 5 1 .flat (rStr a.xPolicy.xImages), .str a.xPolicy.xNonce, .str a.xTok.xRest, .own 8 4 .clean (rows kToken TToken.row a.xQueue), .bool a.xEnded, .own 10 4 .clean (rows kNode TNode.row a.xBuilder.xNodes), .own 11 1 .flat (rInt a.xBuilder.xOpen), .own 12 8 .flat (rows kSlot TSlot.row a.xSlots), .own 13 5 .flat (rows kModule TModule.row a.xMods), .own 14 2 .flat (rows kAddr TAddr.row a.xEntries), .int .i64 a.xBlock, .int .i64 a.xInline, .int .i64 a.xDeferred, .int .i64 a.xEntered, .own 19 2 .flat (rows kAddr TAddr.row a.xRan), .own 20 1 .flat (rStr a.xLog), .bool a.xLoaded] [(3, [.str]), (4, [.str]), (5, [.str]), (8, kdToken), (10, kdNode), (11, [.int]), (12, kdSlot), (13, kdModule), (14, kdAddr), (19, kdAddr), (20, [.str])] [] _ := OwnB.cons true rfl (by decide) (by decide) (vkb_strs (l := a.xPolicy.xScripts) (by omega)) (OwnB.cons true rfl (by decide) (by decide) (vkb_strs (l := a.xPolicy.xStyles) (by omega)) (OwnB.cons true rfl (by decide) (by decide) (vkb_strs (l := a.xPolicy.xImages) (by omega)) (OwnB.cons false rfl (by decide) (by decide) (vkb_list (l := a.xQueue) (g := TToken.row) (kds := kdToken) rfl (by decide) (by omega) (fun x hx => vkToken x (by have := sumL_mem (f := TToken.size) hx; omega))) (OwnB.cons false rfl (by decide) (by decide) (vkb_list (l := a.xBuilder.xNodes) (g := TNode.row) (kds := kdNode) rfl (by decide) (by omega) (fun x hx => vkNode x (by have := sumL_mem (f := TNode.size) hx; omega))) (OwnB.cons true rfl (by decide) (by decide) (vkb_ints (l := a.xBuilder.xOpen) (by omega)) (OwnB.cons true rfl (by decide) (by decide) (vkb_list (l := a.xSlots) (g := TSlot.row) (kds := kdSlot) rfl (by decide) (by omega) (fun x hx => vkSlot x (by have := sumL_mem (f := TSlot.size) hx; omega))) (OwnB.cons true rfl (by decide) (by decide) (vkb_list (l := a.xMods) (g := TModule.row) (kds := kdModule) rfl (by decide) (by omega) (fun x hx => vkModule x (by have := sumL_mem (f := TModule.size) hx; omega))) (OwnB.cons true rfl (by decide) (by decide) (vkb_list (l := a.xEntries) (g := TAddr.row) (kds := kdAddr) rfl (by decide) (by omega) (fun x hx => vkAddr x (by have := sumL_mem (f := TAddr.size) hx; omega))) (OwnB.cons true rfl (by decide) (by decide) (vkb_list (l := a.xRan) (g := TAddr.row) (kds := kdAddr) rfl (by decide) (by omega) (fun x hx => vkAddr x (by have := sumL_mem (f := TAddr.size) hx; omega))) (OwnB.cons true rfl (by decide) (by decide) (vkb_strs (l := a.xLog) (by omega)) (OwnB.nil _ _)))))))))))
 obtain ⟨n, h1, h2⟩ := hh.shp rfl
 exact ⟨n, h1, by omega⟩
theorem d7 (a : TTab) (l : Int) (h0 : 0 ≤ l) (h1 : l ≤ 1048576) (h : a.ok) : D 7 [.agg [.sl 25 false (rows kVisit TVisit.row a.xVisits), .int .i64 a.xAt], .int .i64 l] = some (.int .i64 (szL l a.size)) :=
 fnok_any ok7 (show F7 V (rows kVisit TVisit.row a.xVisits) a.xAt l (fun y => some (.int .i64 y)) = _ from szTab a l h0 h1 h _)
theorem d8 (a : TPage) (l : Int) (h0 : 0 ≤ l) (h1 : l ≤ 1048576) (h : a.ok) : D 8 [.agg [.str a.xAddr.xHost, .str a.xAddr.xPath, .bool a.xPolicy.xSet, .sl 1 true (rStr a.xPolicy.xScripts), .sl 1 true (rStr a.xPolicy.xStyles), .sl 1 true (rStr a.xPolicy.xImages), .str a.xPolicy.xNonce, .str a.xTok.xRest, .sl 4 false (rows kToken TToken.row a.xQueue), .bool a.xEnded, .sl 4 false (rows kNode TNode.row a.xBuilder.xNodes), .sl 1 true (rInt a.xBuilder.xOpen), .sl 8 true (rows kSlot TSlot.row a.xSlots), .sl 5 true (rows kModule TModule.row a.xMods), .sl 2 true (rows kAddr TAddr.row a.xEntries), .int .i64 a.xBlock, .int .i64 a.xInline, .int .i64 a.xDeferred, .int .i64 a.xEntered, .sl 2 true (rows kAddr TAddr.row a.xRan), .sl 1 true (rStr a.xLog), .bool a.xLoaded], .int .i64 l] = some (.int .i64 (szL l a.size)) :=
 fnok_any ok8 (show F8 V a.xAddr.xHost a.xAddr.xPath a.xPolicy.xSet (rStr a.xPolicy.xScripts) (rStr a.xPolicy.xStyles) (rStr a.xPolicy.xImages) a.xPolicy.xNonce a.xTok.xRest (rows kToken TToken.row a.xQueue) a.xEnded (rows kNode TNode.row a.xBuilder.xNodes) (rInt a.xBuilder.xOpen) (rows kSlot TSlot.row a.xSlots) (rows kModule TModule.row a.xMods) (rows kAddr TAddr.row a.xEntries) a.xBlock a.xInline a.xDeferred a.xEntered (rows kAddr TAddr.row a.xRan) (rStr a.xLog) a.xLoaded l (fun y => some (.int .i64 y)) = _ from szPage a l h0 h1 h _)
theorem d10 (a : TTab) (h : a.size ≤ 1048576) : D 10 [.agg [.sl 25 false (rows kVisit TVisit.row a.xVisits), .int .i64 a.xAt]] = some (.agg [.own 0 25 .clean (rows kVisit TVisit.row a.xVisits), .int .i64 a.xAt]) :=
 fnok_any ok10 (show F10 V (rows kVisit TVisit.row a.xVisits) a.xAt (fun y0 y1 => some (.agg [.own 0 25 .clean y0, .int .i64 y1])) = _ from toTab a h _)
theorem d11 (a : TPage) (h : a.size ≤ 1048576) : D 11 [.agg [.str a.xAddr.xHost, .str a.xAddr.xPath, .bool a.xPolicy.xSet, .sl 1 true (rStr a.xPolicy.xScripts), .sl 1 true (rStr a.xPolicy.xStyles), .sl 1 true (rStr a.xPolicy.xImages), .str a.xPolicy.xNonce, .str a.xTok.xRest, .sl 4 false (rows kToken TToken.row a.xQueue), .bool a.xEnded, .sl 4 false (rows kNode TNode.row a.xBuilder.xNodes), .sl 1 true (rInt a.xBuilder.xOpen), .sl 8 true (rows kSlot TSlot.row a.xSlots), .sl 5 true (rows kModule TModule.row a.xMods), .sl 2 true (rows kAddr TAddr.row a.xEntries), .int .i64 a.xBlock, .int .i64 a.xInline, .int .i64 a.xDeferred, .int .i64 a.xEntered, .sl 2 true (rows kAddr TAddr.row a.xRan), .sl 1 true (rStr a.xLog), .bool a.xLoaded]] = some (.agg [.str a.xAddr.xHost, .str a.xAddr.xPath, .bool a.xPolicy.xSet, .own 3 1 .flat (rStr a.xPolicy.xScripts), .own 4 1 .flat (rStr a.xPolicy.xStyles), .own 5 1 .flat (rStr a.xPolicy.xImages), .str a.xPolicy.xNonce, .str a.xTok.xRest, .own 8 4 .clean (rows kToken TToken.row a.xQueue), .bool a.xEnded, .own 10 4 .clean (rows kNode TNode.row a.xBuilder.xNodes), .own 11 1 .flat (rInt a.xBuilder.xOpen), .own 12 8 .flat (rows kSlot TSlot.row a.xSlots), .own 13 5 .flat (rows kModule TModule.row a.xMods), .own 14 2 .flat (rows kAddr TAddr.row a.xEntries), .int .i64 a.xBlock, .int .i64 a.xInline, .int .i64 a.xDeferred, .int .i64 a.xEntered, .own 19 2 .flat (rows kAddr TAddr.row a.xRan), .own 20 1 .flat (rStr a.xLog), .bool a.xLoaded]) :=
 fnok_any ok11 (show F11 V a.xAddr.xHost a.xAddr.xPath a.xPolicy.xSet (rStr a.xPolicy.xScripts) (rStr a.xPolicy.xStyles) (rStr a.xPolicy.xImages) a.xPolicy.xNonce a.xTok.xRest (rows kToken TToken.row a.xQueue) a.xEnded (rows kNode TNode.row a.xBuilder.xNodes) (rInt a.xBuilder.xOpen) (rows kSlot TSlot.row a.xSlots) (rows kModule TModule.row a.xMods) (rows kAddr TAddr.row a.xEntries) a.xBlock a.xInline a.xDeferred a.xEntered (rows kAddr TAddr.row a.xRan) (rStr a.xLog) a.xLoaded (fun y0 y1 y2 y3 y4 y5 y6 y7 y8 y9 y10 y11 y12 y13 y14 y15 y16 y17 y18 y19 y20 y21 => some (.agg [.str y0, .str y1, .bool y2, .own 3 1 .flat y3, .own 4 1 .flat y4, .own 5 1 .flat y5, .str y6, .str y7, .own 8 4 .clean y8, .bool y9, .own 10 4 .clean y10, .own 11 1 .flat y11, .own 12 8 .flat y12, .own 13 5 .flat y13, .own 14 2 .flat y14, .int .i64 y15, .int .i64 y16, .int .i64 y17, .int .i64 y18, .own 19 2 .flat y19, .own 20 1 .flat y20, .bool y21])) = _ from toPage a h _)
theorem d9 (a0 : TTab) (a1 : TPage) {r : TTab} (e : sSetPresent a0 a1 = some r) : D 9 [.agg [.sl 25 false (rows kVisit TVisit.row a0.xVisits), .int .i64 a0.xAt], .agg [.str a1.xAddr.xHost, .str a1.xAddr.xPath, .bool a1.xPolicy.xSet, .sl 1 true (rStr a1.xPolicy.xScripts), .sl 1 true (rStr a1.xPolicy.xStyles), .sl 1 true (rStr a1.xPolicy.xImages), .str a1.xPolicy.xNonce, .str a1.xTok.xRest, .sl 4 false (rows kToken TToken.row a1.xQueue), .bool a1.xEnded, .sl 4 false (rows kNode TNode.row a1.xBuilder.xNodes), .sl 1 true (rInt a1.xBuilder.xOpen), .sl 8 true (rows kSlot TSlot.row a1.xSlots), .sl 5 true (rows kModule TModule.row a1.xMods), .sl 2 true (rows kAddr TAddr.row a1.xEntries), .int .i64 a1.xBlock, .int .i64 a1.xInline, .int .i64 a1.xDeferred, .int .i64 a1.xEntered, .sl 2 true (rows kAddr TAddr.row a1.xRan), .sl 1 true (rStr a1.xLog), .bool a1.xLoaded]] = some (.agg [.own 0 25 .clean (rows kVisit TVisit.row r.xVisits), .int .i64 r.xAt]) :=
 fnok_any ok9 (show F9 V (rows kVisit TVisit.row a0.xVisits) a0.xAt a1.xAddr.xHost a1.xAddr.xPath a1.xPolicy.xSet (rStr a1.xPolicy.xScripts) (rStr a1.xPolicy.xStyles) (rStr a1.xPolicy.xImages) a1.xPolicy.xNonce a1.xTok.xRest (rows kToken TToken.row a1.xQueue) a1.xEnded (rows kNode TNode.row a1.xBuilder.xNodes) (rInt a1.xBuilder.xOpen) (rows kSlot TSlot.row a1.xSlots) (rows kModule TModule.row a1.xMods) (rows kAddr TAddr.row a1.xEntries) a1.xBlock a1.xInline a1.xDeferred a1.xEntered (rows kAddr TAddr.row a1.xRan) (rStr a1.xLog) a1.xLoaded (fun y0 y1 => (some (.agg [.own 0 25 .clean y0, .int .i64 y1]) : Option V)) = _ from ei_sSetPresent a0 a1 (fun y0 y1 => (some (.agg [.own 0 25 .clean y0, .int .i64 y1]) : Option V)) _ e)
theorem d12 (a0 : TTab) (a1 : TPage) {r : TTab} (e : iSetPresent a0 a1 = some r) : D 12 [.agg [.sl 25 false (rows kVisit TVisit.row a0.xVisits), .int .i64 a0.xAt], .agg [.str a1.xAddr.xHost, .str a1.xAddr.xPath, .bool a1.xPolicy.xSet, .sl 1 true (rStr a1.xPolicy.xScripts), .sl 1 true (rStr a1.xPolicy.xStyles), .sl 1 true (rStr a1.xPolicy.xImages), .str a1.xPolicy.xNonce, .str a1.xTok.xRest, .sl 4 false (rows kToken TToken.row a1.xQueue), .bool a1.xEnded, .sl 4 false (rows kNode TNode.row a1.xBuilder.xNodes), .sl 1 true (rInt a1.xBuilder.xOpen), .sl 8 true (rows kSlot TSlot.row a1.xSlots), .sl 5 true (rows kModule TModule.row a1.xMods), .sl 2 true (rows kAddr TAddr.row a1.xEntries), .int .i64 a1.xBlock, .int .i64 a1.xInline, .int .i64 a1.xDeferred, .int .i64 a1.xEntered, .sl 2 true (rows kAddr TAddr.row a1.xRan), .sl 1 true (rStr a1.xLog), .bool a1.xLoaded]] = some (.agg [.own 0 25 .clean (rows kVisit TVisit.row r.xVisits), .int .i64 r.xAt]) :=
 fnok_any ok12 (show F12 V (rows kVisit TVisit.row a0.xVisits) a0.xAt a1.xAddr.xHost a1.xAddr.xPath a1.xPolicy.xSet (rStr a1.xPolicy.xScripts) (rStr a1.xPolicy.xStyles) (rStr a1.xPolicy.xImages) a1.xPolicy.xNonce a1.xTok.xRest (rows kToken TToken.row a1.xQueue) a1.xEnded (rows kNode TNode.row a1.xBuilder.xNodes) (rInt a1.xBuilder.xOpen) (rows kSlot TSlot.row a1.xSlots) (rows kModule TModule.row a1.xMods) (rows kAddr TAddr.row a1.xEntries) a1.xBlock a1.xInline a1.xDeferred a1.xEntered (rows kAddr TAddr.row a1.xRan) (rStr a1.xLog) a1.xLoaded (fun y0 y1 => (some (.agg [.own 0 25 .clean y0, .int .i64 y1]) : Option V)) = _ from ei_iSetPresent a0 a1 (fun y0 y1 => (some (.agg [.own 0 25 .clean y0, .int .i64 y1]) : Option V)) _ e)
theorem d13 (a : TTab) (h : a.ok) : D 13 [.agg [.sl 25 false (rows kVisit TVisit.row a.xVisits), .int .i64 a.xAt], .agg [.sl 25 false (rows kVisit TVisit.row a.xVisits), .int .i64 a.xAt]] = some (.bool true) :=
 fnok_any ok13 (show F13 V (rows kVisit TVisit.row a.xVisits) a.xAt (rows kVisit TVisit.row a.xVisits) a.xAt (fun y => some (.bool y)) = _ from (eqTab a a h _).trans (by rw [decide_eq_true rfl]))
theorem d14 (a : TPage) (h : a.ok) : D 14 [.agg [.str a.xAddr.xHost, .str a.xAddr.xPath, .bool a.xPolicy.xSet, .sl 1 true (rStr a.xPolicy.xScripts), .sl 1 true (rStr a.xPolicy.xStyles), .sl 1 true (rStr a.xPolicy.xImages), .str a.xPolicy.xNonce, .str a.xTok.xRest, .sl 4 false (rows kToken TToken.row a.xQueue), .bool a.xEnded, .sl 4 false (rows kNode TNode.row a.xBuilder.xNodes), .sl 1 true (rInt a.xBuilder.xOpen), .sl 8 true (rows kSlot TSlot.row a.xSlots), .sl 5 true (rows kModule TModule.row a.xMods), .sl 2 true (rows kAddr TAddr.row a.xEntries), .int .i64 a.xBlock, .int .i64 a.xInline, .int .i64 a.xDeferred, .int .i64 a.xEntered, .sl 2 true (rows kAddr TAddr.row a.xRan), .sl 1 true (rStr a.xLog), .bool a.xLoaded], .agg [.str a.xAddr.xHost, .str a.xAddr.xPath, .bool a.xPolicy.xSet, .sl 1 true (rStr a.xPolicy.xScripts), .sl 1 true (rStr a.xPolicy.xStyles), .sl 1 true (rStr a.xPolicy.xImages), .str a.xPolicy.xNonce, .str a.xTok.xRest, .sl 4 false (rows kToken TToken.row a.xQueue), .bool a.xEnded, .sl 4 false (rows kNode TNode.row a.xBuilder.xNodes), .sl 1 true (rInt a.xBuilder.xOpen), .sl 8 true (rows kSlot TSlot.row a.xSlots), .sl 5 true (rows kModule TModule.row a.xMods), .sl 2 true (rows kAddr TAddr.row a.xEntries), .int .i64 a.xBlock, .int .i64 a.xInline, .int .i64 a.xDeferred, .int .i64 a.xEntered, .sl 2 true (rows kAddr TAddr.row a.xRan), .sl 1 true (rStr a.xLog), .bool a.xLoaded]] = some (.bool true) :=
 fnok_any ok14 (show F14 V a.xAddr.xHost a.xAddr.xPath a.xPolicy.xSet (rStr a.xPolicy.xScripts) (rStr a.xPolicy.xStyles) (rStr a.xPolicy.xImages) a.xPolicy.xNonce a.xTok.xRest (rows kToken TToken.row a.xQueue) a.xEnded (rows kNode TNode.row a.xBuilder.xNodes) (rInt a.xBuilder.xOpen) (rows kSlot TSlot.row a.xSlots) (rows kModule TModule.row a.xMods) (rows kAddr TAddr.row a.xEntries) a.xBlock a.xInline a.xDeferred a.xEntered (rows kAddr TAddr.row a.xRan) (rStr a.xLog) a.xLoaded a.xAddr.xHost a.xAddr.xPath a.xPolicy.xSet (rStr a.xPolicy.xScripts) (rStr a.xPolicy.xStyles) (rStr a.xPolicy.xImages) a.xPolicy.xNonce a.xTok.xRest (rows kToken TToken.row a.xQueue) a.xEnded (rows kNode TNode.row a.xBuilder.xNodes) (rInt a.xBuilder.xOpen) (rows kSlot TSlot.row a.xSlots) (rows kModule TModule.row a.xMods) (rows kAddr TAddr.row a.xEntries) a.xBlock a.xInline a.xDeferred a.xEntered (rows kAddr TAddr.row a.xRan) (rStr a.xLog) a.xLoaded (fun y => some (.bool y)) = _ from (eqPage a a h _).trans (by rw [decide_eq_true rfl]))
theorem lawg3 {va0TTab va1TPage vrTTab oa0TTab oa1TPage orTTab : V} {n5 n6 n7 : Nat} {z0 z1 : Int} (gva0TTab : ∃ cs, va0TTab = .agg cs ∧ cs.length = 2 ∧ allCell cs = true) (gva1TPage : ∃ cs, va1TPage = .agg cs ∧ cs.length = 22 ∧ allCell cs = true) (gvrTTab : ∃ cs, vrTTab = .agg cs ∧ cs.length = 2 ∧ allCell cs = true)
  (h0 : D 7 [va0TTab, .int .i64 1048576] = some (.int .i64 z0))
  (h1 : 0 ≤ z0 → D 8 [va1TPage, .int .i64 z0] = some (.int .i64 z1))
  (h2 : 0 ≤ z0 → 0 ≤ z1 → D 10 [va0TTab] = some (oa0TTab))
  (h3 : 0 ≤ z0 → 0 ≤ z1 → Hand false oa0TTab va0TTab)
  (h4 : 0 ≤ z0 → 0 ≤ z1 → D 11 [va1TPage] = some (oa1TPage))
  (h5 : 0 ≤ z0 → 0 ≤ z1 → Hand false oa1TPage va1TPage)
  (h6 : 0 ≤ z0 → 0 ≤ z1 → D 9 [va0TTab, va1TPage] = some (orTTab))
  (h7 : 0 ≤ z0 → 0 ≤ z1 → Hand false orTTab vrTTab)
  (h8 : 0 ≤ z0 → 0 ≤ z1 → Hand true oa0TTab va0TTab)
  (h9 : 0 ≤ z0 → 0 ≤ z1 → (Shp.a 2 [(0, kdVisit)]).own oa0TTab n5)
  (h10 : 0 ≤ z0 → 0 ≤ z1 → Hand true oa1TPage va1TPage)
  (h11 : 0 ≤ z0 → 0 ≤ z1 → (Shp.a 22 [(3, [.str]), (4, [.str]), (5, [.str]), (8, kdToken), (10, kdNode), (11, [.int]), (12, kdSlot), (13, kdModule), (14, kdAddr), (19, kdAddr), (20, [.str])]).own oa1TPage n6)
  (h12 : 0 ≤ z0 → 0 ≤ z1 → D 12 [va0TTab, va1TPage] = some (orTTab))
  (h13 : 0 ≤ z0 → 0 ≤ z1 → Hand true orTTab vrTTab)
  (h14 : 0 ≤ z0 → 0 ≤ z1 → (Shp.a 2 [(0, kdVisit)]).own orTTab n7)
  (h15 : 0 ≤ z0 → 0 ≤ z1 → D 13 [vrTTab, vrTTab] = some (.bool true))
  (h16 : 0 ≤ z0 → 0 ≤ z1 → D 13 [va0TTab, va0TTab] = some (.bool true))
  (h17 : 0 ≤ z0 → 0 ≤ z1 → D 14 [va1TPage, va1TPage] = some (.bool true))
  (h18 : 0 ≤ z0 → 0 ≤ z1 → n5 ≤ 36028797018964000)
  (h19 : 0 ≤ z0 → 0 ≤ z1 → n6 ≤ 36028797018964000)
  (h20 : 0 ≤ z0 → 0 ≤ z1 → n7 ≤ 36028797018964000)
  (R : Nat → Prop) (w : World) (vals : Array Value) (hg : globOk w) (hR : ∀ k, R k → k < w.heap.size) (hl : 2 = vals.size) (hv : ∀ (i : Nat) (v : Value), vals[i]? = some v → Rd w R ([va0TTab, va1TPage, va0TTab, va1TPage, vrTTab, va0TTab, va1TPage, vrTTab, va0TTab, va1TPage, va0TTab, va1TPage, vrTTab].getD i .undef) v) :
  Calls Tryz.prog 3 vals w fun
   | .returned x, w' => Answer R w (.bool true) x w'
   | _, _ => False := by
 refine law_marks (c := cfg) (P := Tryz.prog) (D := D) (mt := mt) (Vh := fun i => [va0TTab, va1TPage, va0TTab, va1TPage, vrTTab, va0TTab, va1TPage, vrTTab, va0TTab, va1TPage, va0TTab, va1TPage, vrTTab].getD i .undef) (Vo := fun i => [.undef, .undef, oa0TTab, oa1TPage, orTTab, oa0TTab, oa1TPage, orTTab, oa0TTab, oa1TPage, oa0TTab, oa1TPage, orTTab].getD i .undef) (nn := fun j => if j = 5 then n5 else if j = 6 then n6 else if j = 7 then n7 else 0) (shp := fun j => if j = 5 then .a 2 [(0, kdVisit)] else if j = 6 then .a 22 [(3, [.str]), (4, [.str]), (5, [.str]), (8, kdToken), (10, kdNode), (11, [.int]), (12, kdSlot), (13, kdModule), (14, kdAddr), (19, kdAddr), (20, [.str])] else if j = 7 then .a 2 [(0, kdVisit)] else .s []) (ag := [some 2, some 22, some 2, some 22, some 2, some 2, some 22, some 2, some 2, some 22, some 2, some 22, some 2]) (Z := fun i => ([z0, z1] : List Int).getD i 0) (k := 2) (fn := Tryz.f3)
  (es := [.sz 7 0 (.ki 1048576) 0, .low 0, .sz 8 1 (.zi 0) 1, .low 1, .mk 10 [0] true 2, .mk 11 [1] true 3, .mk 9 [2, 3] true 4, .mk 10 [0] false 5, .mk 11 [1] false 6, .mk 12 [5, 6] false 7, .tt 13 [7, 4], .mk 10 [0] true 8, .tt 13 [5, 8], .mk 11 [1] true 9, .tt 14 [6, 9], .mark 15 5 [], .mark 16 6 [5], .tt 13 [7, 4], .mark 15 7 [], .held 17 7 [], .mk 10 [0] true 10, .mk 11 [1] true 11, .mk 12 [10, 11] true 12, .tt 13 [12, 4], .held 17 7 []])
  (by kernel_rfl) answers agree (fun j n hj => ?_) Tryz.func3 rfl rfl (by decide) (fun R w => ?_) (by kernel_rfl) R w vals hg hR hl hv
 ·match j, hj with
  | 0, hj => injection hj with hj; injection hj with hj; subst hj; exact gva0TTab
  | 1, hj => injection hj with hj; injection hj with hj; subst hj; exact gva1TPage
  | 2, hj => injection hj with hj; injection hj with hj; subst hj; exact gva0TTab
  | 3, hj => injection hj with hj; injection hj with hj; subst hj; exact gva1TPage
  | 4, hj => injection hj with hj; injection hj with hj; subst hj; exact gvrTTab
  | 5, hj => injection hj with hj; injection hj with hj; subst hj; exact gva0TTab
  | 6, hj => injection hj with hj; injection hj with hj; subst hj; exact gva1TPage
  | 7, hj => injection hj with hj; injection hj with hj; subst hj; exact gvrTTab
  | 8, hj => injection hj with hj; injection hj with hj; subst hj; exact gva0TTab
  | 9, hj => injection hj with hj; injection hj with hj; subst hj; exact gva1TPage
  | 10, hj => injection hj with hj; injection hj with hj; subst hj; exact gva0TTab
  | 11, hj => injection hj with hj; injection hj with hj; subst hj; exact gva1TPage
  | 12, hj => injection hj with hj; injection hj with hj; subst hj; exact gvrTTab
  | j + 13, hj => simp at hj
 ·exact LX.H_sz (1048576) rfl (h0) (LX.H_low fun q0 => (LX.H_sz z0 rfl (h1 q0) (LX.H_low fun q1 => (LX.H_sh (h2 q0 q1) (h3 q0 q1) (LX.H_sh (h4 q0 q1) (h5 q0 q1) (LX.H_sh (h6 q0 q1) (h7 q0 q1) (LX.H_nw (h2 q0 q1) (h8 q0 q1) (h9 q0 q1) (LX.H_nw (h4 q0 q1) (h10 q0 q1) (h11 q0 q1) (LX.H_nw (h12 q0 q1) (h13 q0 q1) (h14 q0 q1) (LX.H_tt (h15 q0 q1) (LX.H_sh (h2 q0 q1) (h3 q0 q1) (LX.H_tt (h16 q0 q1) (LX.H_sh (h4 q0 q1) (h5 q0 q1) (LX.H_tt (h17 q0 q1) (LX.H_mark mk15 (by have b0 := (h18 q0 q1); show 1 + (0) + n5 ≤ _; simp only [Nat.add_zero]; omega) (LX.H_mark mk16 (by have b0 := (h19 q0 q1); have b1 := (h18 q0 q1); show 1 + ([n5].sum) + n6 ≤ _; simp only [List.sum_cons, List.sum_nil]; omega) (LX.H_tt (h15 q0 q1) (LX.H_mark mk15 (by have b0 := (h20 q0 q1); show 1 + (0) + n7 ≤ _; simp only [Nat.add_zero]; omega) (LX.H_held hd17 (by have b0 := (h20 q0 q1); show 1 + (0) + n7 ≤ _; simp only [Nat.add_zero]; omega) (LX.H_sh (h2 q0 q1) (h3 q0 q1) (LX.H_sh (h4 q0 q1) (h5 q0 q1) (LX.H_sh (h12 q0 q1) (h7 q0 q1) (LX.H_tt (h15 q0 q1) (LX.H_held hd17 (by have b0 := (h20 q0 q1); show 1 + (0) + n7 ≤ _; simp only [Nat.add_zero]; omega) (LX.H_nil)))))))))))))))))))))))))
def Told3 (args : List V) : Prop := ∀ (R : Nat → Prop) (w : World) (vals : Array Value), globOk w → (∀ k, R k → k < w.heap.size) → args.length = vals.size → (∀ (i : Nat) (c : V) (v : Value), args[i]? = some c → vals[i]? = some v → Rd w R c v) →
  Calls Tryz.prog 3 vals w fun
   | .returned x, w' => Answer R w (.bool true) x w'
   | _, _ => False
open Classical in
noncomputable def D3 : Nat → List V → Option V := fun f args => if f = 3 ∧ Told3 args then some (.bool true) else D f args
theorem answers3 : Answers Tryz.prog D3 := by
 intro f args r h
 unfold D3 at h
 split at h
 ·rename_i hc
  obtain ⟨rfl, ht⟩ := hc
  injection h with h
  subst h
  exact ⟨⟨Tryz.f3, Tryz.func3, rfl, by decide⟩, ht⟩
 ·exact answers f args r h
theorem law3 (a0 : TTab) (a1 : TPage) (o0 : a0.ok) (o1 : a1.ok) : D3 3 [.agg [.sl 25 false (rows kVisit TVisit.row a0.xVisits), .int .i64 a0.xAt], .agg [.str a1.xAddr.xHost, .str a1.xAddr.xPath, .bool a1.xPolicy.xSet, .sl 1 true (rStr a1.xPolicy.xScripts), .sl 1 true (rStr a1.xPolicy.xStyles), .sl 1 true (rStr a1.xPolicy.xImages), .str a1.xPolicy.xNonce, .str a1.xTok.xRest, .sl 4 false (rows kToken TToken.row a1.xQueue), .bool a1.xEnded, .sl 4 false (rows kNode TNode.row a1.xBuilder.xNodes), .sl 1 true (rInt a1.xBuilder.xOpen), .sl 8 true (rows kSlot TSlot.row a1.xSlots), .sl 5 true (rows kModule TModule.row a1.xMods), .sl 2 true (rows kAddr TAddr.row a1.xEntries), .int .i64 a1.xBlock, .int .i64 a1.xInline, .int .i64 a1.xDeferred, .int .i64 a1.xEntered, .sl 2 true (rows kAddr TAddr.row a1.xRan), .sl 1 true (rStr a1.xLog), .bool a1.xLoaded]] = some (.bool true) := by
 refine if_pos ⟨rfl, ?_⟩
 intro R w vals hg hR hl hv
 obtain ⟨r, hr⟩ := under (P := a0.size ≤ 1048576 ∧ a1.size ≤ 1048576) (⟨[], 0⟩ : TTab) (fun h => eq_SetPresent a0 a1 o0 o1 h)
 obtain ⟨n5, b5⟩ := under (P := a0.size ≤ 1048576 ∧ a1.size ≤ 1048576) 0 (fun h => ownTTab a0 (by omega))
 obtain ⟨n6, b6⟩ := under (P := a0.size ≤ 1048576 ∧ a1.size ≤ 1048576) 0 (fun h => ownTPage a1 (by omega))
 obtain ⟨n7, b7⟩ := under (P := a0.size ≤ 1048576 ∧ a1.size ≤ 1048576) 0 (fun h => ownTTab r (by have := (hr h).2.2.1; omega))
 have two : ∀ {l : Int} {n : Nat}, 0 ≤ szL l n → (n : Int) ≤ l ∧ szL l n = l - n := fun {l n} h => by
  unfold szL at h ⊢
  split at h
  ·omega
  ·rename_i hc; rw [if_neg hc]; omega
 have hval : ∀ (i : Nat) (v : Value), vals[i]? = some v → Rd w R ([.agg [.sl 25 false (rows kVisit TVisit.row a0.xVisits), .int .i64 a0.xAt], .agg [.str a1.xAddr.xHost, .str a1.xAddr.xPath, .bool a1.xPolicy.xSet, .sl 1 true (rStr a1.xPolicy.xScripts), .sl 1 true (rStr a1.xPolicy.xStyles), .sl 1 true (rStr a1.xPolicy.xImages), .str a1.xPolicy.xNonce, .str a1.xTok.xRest, .sl 4 false (rows kToken TToken.row a1.xQueue), .bool a1.xEnded, .sl 4 false (rows kNode TNode.row a1.xBuilder.xNodes), .sl 1 true (rInt a1.xBuilder.xOpen), .sl 8 true (rows kSlot TSlot.row a1.xSlots), .sl 5 true (rows kModule TModule.row a1.xMods), .sl 2 true (rows kAddr TAddr.row a1.xEntries), .int .i64 a1.xBlock, .int .i64 a1.xInline, .int .i64 a1.xDeferred, .int .i64 a1.xEntered, .sl 2 true (rows kAddr TAddr.row a1.xRan), .sl 1 true (rStr a1.xLog), .bool a1.xLoaded], .agg [.sl 25 false (rows kVisit TVisit.row a0.xVisits), .int .i64 a0.xAt], .agg [.str a1.xAddr.xHost, .str a1.xAddr.xPath, .bool a1.xPolicy.xSet, .sl 1 true (rStr a1.xPolicy.xScripts), .sl 1 true (rStr a1.xPolicy.xStyles), .sl 1 true (rStr a1.xPolicy.xImages), .str a1.xPolicy.xNonce, .str a1.xTok.xRest, .sl 4 false (rows kToken TToken.row a1.xQueue), .bool a1.xEnded, .sl 4 false (rows kNode TNode.row a1.xBuilder.xNodes), .sl 1 true (rInt a1.xBuilder.xOpen), .sl 8 true (rows kSlot TSlot.row a1.xSlots), .sl 5 true (rows kModule TModule.row a1.xMods), .sl 2 true (rows kAddr TAddr.row a1.xEntries), .int .i64 a1.xBlock, .int .i64 a1.xInline, .int .i64 a1.xDeferred, .int .i64 a1.xEntered, .sl 2 true (rows kAddr TAddr.row a1.xRan), .sl 1 true (rStr a1.xLog), .bool a1.xLoaded], .agg [.sl 25 false (rows kVisit TVisit.row r.xVisits), .int .i64 r.xAt], .agg [.sl 25 false (rows kVisit TVisit.row a0.xVisits), .int .i64 a0.xAt], .agg [.str a1.xAddr.xHost, .str a1.xAddr.xPath, .bool a1.xPolicy.xSet, .sl 1 true (rStr a1.xPolicy.xScripts), .sl 1 true (rStr a1.xPolicy.xStyles), .sl 1 true (rStr a1.xPolicy.xImages), .str a1.xPolicy.xNonce, .str a1.xTok.xRest, .sl 4 false (rows kToken TToken.row a1.xQueue), .bool a1.xEnded, .sl 4 false (rows kNode TNode.row a1.xBuilder.xNodes), .sl 1 true (rInt a1.xBuilder.xOpen), .sl 8 true (rows kSlot TSlot.row a1.xSlots), .sl 5 true (rows kModule TModule.row a1.xMods), .sl 2 true (rows kAddr TAddr.row a1.xEntries), .int .i64 a1.xBlock, .int .i64 a1.xInline, .int .i64 a1.xDeferred, .int .i64 a1.xEntered, .sl 2 true (rows kAddr TAddr.row a1.xRan), .sl 1 true (rStr a1.xLog), .bool a1.xLoaded], .agg [.sl 25 false (rows kVisit TVisit.row r.xVisits), .int .i64 r.xAt], .agg [.sl 25 false (rows kVisit TVisit.row a0.xVisits), .int .i64 a0.xAt], .agg [.str a1.xAddr.xHost, .str a1.xAddr.xPath, .bool a1.xPolicy.xSet, .sl 1 true (rStr a1.xPolicy.xScripts), .sl 1 true (rStr a1.xPolicy.xStyles), .sl 1 true (rStr a1.xPolicy.xImages), .str a1.xPolicy.xNonce, .str a1.xTok.xRest, .sl 4 false (rows kToken TToken.row a1.xQueue), .bool a1.xEnded, .sl 4 false (rows kNode TNode.row a1.xBuilder.xNodes), .sl 1 true (rInt a1.xBuilder.xOpen), .sl 8 true (rows kSlot TSlot.row a1.xSlots), .sl 5 true (rows kModule TModule.row a1.xMods), .sl 2 true (rows kAddr TAddr.row a1.xEntries), .int .i64 a1.xBlock, .int .i64 a1.xInline, .int .i64 a1.xDeferred, .int .i64 a1.xEntered, .sl 2 true (rows kAddr TAddr.row a1.xRan), .sl 1 true (rStr a1.xLog), .bool a1.xLoaded], .agg [.sl 25 false (rows kVisit TVisit.row a0.xVisits), .int .i64 a0.xAt], .agg [.str a1.xAddr.xHost, .str a1.xAddr.xPath, .bool a1.xPolicy.xSet, .sl 1 true (rStr a1.xPolicy.xScripts), .sl 1 true (rStr a1.xPolicy.xStyles), .sl 1 true (rStr a1.xPolicy.xImages), .str a1.xPolicy.xNonce, .str a1.xTok.xRest, .sl 4 false (rows kToken TToken.row a1.xQueue), .bool a1.xEnded, .sl 4 false (rows kNode TNode.row a1.xBuilder.xNodes), .sl 1 true (rInt a1.xBuilder.xOpen), .sl 8 true (rows kSlot TSlot.row a1.xSlots), .sl 5 true (rows kModule TModule.row a1.xMods), .sl 2 true (rows kAddr TAddr.row a1.xEntries), .int .i64 a1.xBlock, .int .i64 a1.xInline, .int .i64 a1.xDeferred, .int .i64 a1.xEntered, .sl 2 true (rows kAddr TAddr.row a1.xRan), .sl 1 true (rStr a1.xLog), .bool a1.xLoaded], .agg [.sl 25 false (rows kVisit TVisit.row r.xVisits), .int .i64 r.xAt]].getD i .undef) v := fun i v h => by
  have hi : i < vals.size := (Array.getElem?_eq_some_iff.1 h).1
  have hi : i < 2 := by rw [← hl] at hi; exact hi
  match i, hi with
  | 0, _ => exact hv 0 _ v rfl h
  | 1, _ => exact hv 1 _ v rfl h
 exact lawg3 (agvTTab a0) (agvTPage a1) (agvTTab r)
  (d7 a0 1048576 (by omega) (by omega) o0)
  (fun q0 => d8 a1 (szL 1048576 a0.size) (by assumption) (by have t0 := two q0; omega) o1)
  (fun q0 q1 => d10 a0 (by have t0 := two q0; have t1 := two q1; omega))
  (fun q0 q1 => handTTab _ a0)
  (fun q0 q1 => d11 a1 (by have t0 := two q0; have t1 := two q1; omega))
  (fun q0 q1 => handTPage _ a1)
  (fun q0 q1 => d9 a0 a1 (hr (by have t0 := two q0; have t1 := two q1; exact ⟨by omega, by omega⟩)).1)
  (fun q0 q1 => handTTab _ r)
  (fun q0 q1 => handTTab _ a0)
  (fun q0 q1 => (b5 (by have t0 := two q0; have t1 := two q1; exact ⟨by omega, by omega⟩)).1)
  (fun q0 q1 => handTPage _ a1)
  (fun q0 q1 => (b6 (by have t0 := two q0; have t1 := two q1; exact ⟨by omega, by omega⟩)).1)
  (fun q0 q1 => d12 a0 a1 (hr (by have t0 := two q0; have t1 := two q1; exact ⟨by omega, by omega⟩)).2.1)
  (fun q0 q1 => handTTab _ r)
  (fun q0 q1 => (b7 (by have t0 := two q0; have t1 := two q1; exact ⟨by omega, by omega⟩)).1)
  (fun q0 q1 => d13 r (hr (by have t0 := two q0; have t1 := two q1; exact ⟨by omega, by omega⟩)).2.2.2)
  (fun q0 q1 => d13 a0 o0)
  (fun q0 q1 => d14 a1 o1)
  (fun q0 q1 => (b5 (by have t0 := two q0; have t1 := two q1; exact ⟨by omega, by omega⟩)).2)
  (fun q0 q1 => (b6 (by have t0 := two q0; have t1 := two q1; exact ⟨by omega, by omega⟩)).2)
  (fun q0 q1 => (b7 (by have t0 := two q0; have t1 := two q1; exact ⟨by omega, by omega⟩)).2)
  R w vals hg hR hl hval
end Go.Am

/-
  Laws that mark what they were given and what they were handed: the data's kinds, the functions that mark and that look for marks, the laws' own code. Written by program (walklaw3.py).
-/
import Derived.Test.YthncjpkjmgmdlaaqgAmWp
import Derived.Test.YthncjpkjmgmdlaaqgAmVk
set_option linter.unusedVariables false
set_option linter.unusedSimpArgs false
set_option maxRecDepth 100000
namespace Go.Am
open Go Go.Proofs
theorem textOk : TextOk Try.prog mt 28 := by
 refine ⟨⟨Try.f28, Try.func28, rfl, by decide⟩, fun k w hk hg => ?_⟩
 have hd : D 28 [.int .i64 (k : Int)] = some (.str (mt k)) := fnok_any ok28 (show F28 V (k : Int) (fun y => some (.str y)) = _ from ei_lmarkText (k : Int) (fun y => some (V.str y)) _ (mt_eq k hk))
 refine ((answers _ _ _ hd).2 (fun _ => False) w #[.int .i64 (k : Int)] hg (fun _ h => h.elim) rfl (fun i c v h1 h2 => ?_)).mono (fun e w' h => ?_)
 ·match i, h1, h2 with
  | 0, h1, h2 => injection h1 with h1; injection h2 with h2; subst h1; subst h2; exact .int _ _
  | i + 1, h1, _ => simp at h1
 ·cases e with
  | returned x =>
   obtain ⟨Γ, hv, _⟩ := h.val
   cases hv with
   | rd _ _ hr => cases hr with | str _ s hs => exact ⟨s, rfl, hs, kept_of h⟩
  | _ => exact h.elim
def kdAttr : List Kd := [.str, .str]
theorem vkAttr (a : TAttr) (h : a.size ≤ 1125899906842624) : VKrow (cellsEnc kAttr a.row) kdAttr (32 + 32 * a.size) := by
 simp only [TAttr.size] at h ⊢
 have hh : VKrow [.str a.xName, .str a.xValue] kdAttr _ := .cons (vk_s a.xName) (.cons (vk_s a.xValue) (.nil 0))
 refine VKrow.mono hh ?_
 clear hh h
 omega
def kdToken : List Kd := [.int, .str, .sl kdAttr, .str]
theorem vkToken (a : TToken) (h : a.size ≤ 1125899906842624) : VKrow (cellsEnc kToken a.row) kdToken (32 + 32 * a.size) := by
 simp only [TToken.size] at h ⊢
 have hh : VKrow [.int .i64 a.xKind, .str a.xName, .sl 2 true (rows kAttr TAttr.row a.xAttrs), .str a.xText] kdToken _ := .cons (vk_i a.xKind) (.cons (vk_s a.xName) (.cons (vkb_list (l := a.xAttrs) (g := TAttr.row) (kds := kdAttr) rfl (by decide) (by omega) (fun x hx => vkAttr x (by have := sumL_mem (f := TAttr.size) hx; omega))) (.cons (vk_s a.xText) (.nil 0))))
 refine VKrow.mono hh ?_
 clear hh h
 omega
def kdNode : List Kd := [.str, .str, .int, .sl kdAttr]
theorem vkNode (a : TNode) (h : a.size ≤ 1125899906842624) : VKrow (cellsEnc kNode a.row) kdNode (32 + 32 * a.size) := by
 simp only [TNode.size] at h ⊢
 have hh : VKrow [.str a.xName, .str a.xText, .int .i64 a.xParent, .sl 2 true (rows kAttr TAttr.row a.xAttrs)] kdNode _ := .cons (vk_s a.xName) (.cons (vk_s a.xText) (.cons (vk_i a.xParent) (.cons (vkb_list (l := a.xAttrs) (g := TAttr.row) (kds := kdAttr) rfl (by decide) (by omega) (fun x hx => vkAttr x (by have := sumL_mem (f := TAttr.size) hx; omega))) (.nil 0))))
 refine VKrow.mono hh ?_
 clear hh h
 omega
def kdSlot : List Kd := [.int, .str, .str, .str, .int, .bool, .int, .str]
theorem vkSlot (a : TSlot) (h : a.size ≤ 1125899906842624) : VKrow (cellsEnc kSlot a.row) kdSlot (32 + 32 * a.size) := by
 simp only [TSlot.size, TAddr.size] at h ⊢
 have hh : VKrow [.int .i64 a.xMode, .str a.xTo.xHost, .str a.xTo.xPath, .str a.xDigest, .int .i64 a.xNode, .bool a.xDone, .int .i64 a.xCode, .str a.xBody] kdSlot _ := .cons (vk_i a.xMode) (.cons (vk_s a.xTo.xHost) (.cons (vk_s a.xTo.xPath) (.cons (vk_s a.xDigest) (.cons (vk_i a.xNode) (.cons (vk_b a.xDone) (.cons (vk_i a.xCode) (.cons (vk_s a.xBody) (.nil 0))))))))
 refine VKrow.mono hh ?_
 clear hh h
 omega
def kdModule : List Kd := [.str, .str, .bool, .int, .str]
theorem vkModule (a : TModule) (h : a.size ≤ 1125899906842624) : VKrow (cellsEnc kModule a.row) kdModule (32 + 32 * a.size) := by
 simp only [TModule.size, TAddr.size] at h ⊢
 have hh : VKrow [.str a.xTo.xHost, .str a.xTo.xPath, .bool a.xDone, .int .i64 a.xCode, .str a.xBody] kdModule _ := .cons (vk_s a.xTo.xHost) (.cons (vk_s a.xTo.xPath) (.cons (vk_b a.xDone) (.cons (vk_i a.xCode) (.cons (vk_s a.xBody) (.nil 0)))))
 refine VKrow.mono hh ?_
 clear hh h
 omega
def kdAddr : List Kd := [.str, .str]
theorem vkAddr (a : TAddr) (h : a.size ≤ 1125899906842624) : VKrow (cellsEnc kAddr a.row) kdAddr (32 + 32 * a.size) := by
 simp only [TAddr.size] at h ⊢
 have hh : VKrow [.str a.xHost, .str a.xPath] kdAddr _ := .cons (vk_s a.xHost) (.cons (vk_s a.xPath) (.nil 0))
 refine VKrow.mono hh ?_
 clear hh h
 omega
def kdVisit : List Kd := [.str, .str, .str, .str, .bool, .sl [.str], .sl [.str], .sl [.str], .str, .str, .sl kdToken, .bool, .sl kdNode, .sl [.int], .sl kdSlot, .sl kdModule, .sl kdAddr, .int, .int, .int, .int, .sl kdAddr, .sl [.str], .bool, .bool]
set_option maxHeartbeats 1000000 in
theorem vkVisit (a : TVisit) (h : a.size ≤ 1125899906842624) : VKrow (cellsEnc kVisit a.row) kdVisit (32 + 32 * a.size) := by
 simp only [TVisit.size, TAddr.size, TPage.size, TPolicy.size, TTokenizer.size, TBuilder.size] at h ⊢
 have hh : VKrow (.str a.xAddr.xHost :: .str a.xAddr.xPath :: .str a.xPage.xAddr.xHost :: .str a.xPage.xAddr.xPath :: .bool a.xPage.xPolicy.xSet :: .sl 1 true (rStr a.xPage.xPolicy.xScripts) :: .sl 1 true (rStr a.xPage.xPolicy.xStyles) :: .sl 1 true (rStr a.xPage.xPolicy.xImages) :: .str a.xPage.xPolicy.xNonce :: .str a.xPage.xTok.xRest :: .sl 4 false (rows kToken TToken.row a.xPage.xQueue) :: .bool a.xPage.xEnded :: .sl 4 false (rows kNode TNode.row a.xPage.xBuilder.xNodes) :: .sl 1 true (rInt a.xPage.xBuilder.xOpen) :: .sl 8 true (rows kSlot TSlot.row a.xPage.xSlots) :: .sl 5 true (rows kModule TModule.row a.xPage.xMods) :: .sl 2 true (rows kAddr TAddr.row a.xPage.xEntries) :: .int .i64 a.xPage.xBlock :: .int .i64 a.xPage.xInline :: .int .i64 a.xPage.xDeferred :: .int .i64 a.xPage.xEntered :: .sl 2 true (rows kAddr TAddr.row a.xPage.xRan) :: .sl 1 true (rStr a.xPage.xLog) :: .bool a.xPage.xLoaded :: .bool a.xKept :: []) kdVisit _ := .cons (vk_s a.xAddr.xHost) (.cons (vk_s a.xAddr.xPath) (.cons (vk_s a.xPage.xAddr.xHost) (.cons (vk_s a.xPage.xAddr.xPath) (.cons (vk_b a.xPage.xPolicy.xSet) (.cons (vkb_strs (l := a.xPage.xPolicy.xScripts) (by omega)) (.cons (vkb_strs (l := a.xPage.xPolicy.xStyles) (by omega)) (.cons (vkb_strs (l := a.xPage.xPolicy.xImages) (by omega)) (.cons (vk_s a.xPage.xPolicy.xNonce) (.cons (vk_s a.xPage.xTok.xRest) (.cons (vkb_list (l := a.xPage.xQueue) (g := TToken.row) (kds := kdToken) rfl (by decide) (by omega) (fun x hx => vkToken x (by have := sumL_mem (f := TToken.size) hx; omega))) (.cons (vk_b a.xPage.xEnded) (.cons (vkb_list (l := a.xPage.xBuilder.xNodes) (g := TNode.row) (kds := kdNode) rfl (by decide) (by omega) (fun x hx => vkNode x (by have := sumL_mem (f := TNode.size) hx; omega))) (.cons (vkb_ints (l := a.xPage.xBuilder.xOpen) (by omega)) (.cons (vkb_list (l := a.xPage.xSlots) (g := TSlot.row) (kds := kdSlot) rfl (by decide) (by omega) (fun x hx => vkSlot x (by have := sumL_mem (f := TSlot.size) hx; omega))) (.cons (vkb_list (l := a.xPage.xMods) (g := TModule.row) (kds := kdModule) rfl (by decide) (by omega) (fun x hx => vkModule x (by have := sumL_mem (f := TModule.size) hx; omega))) (.cons (vkb_list (l := a.xPage.xEntries) (g := TAddr.row) (kds := kdAddr) rfl (by decide) (by omega) (fun x hx => vkAddr x (by have := sumL_mem (f := TAddr.size) hx; omega))) (.cons (vk_i a.xPage.xBlock) (.cons (vk_i a.xPage.xInline) (.cons (vk_i a.xPage.xDeferred) (.cons (vk_i a.xPage.xEntered) (.cons (vkb_list (l := a.xPage.xRan) (g := TAddr.row) (kds := kdAddr) rfl (by decide) (by omega) (fun x hx => vkAddr x (by have := sumL_mem (f := TAddr.size) hx; omega))) (.cons (vkb_strs (l := a.xPage.xLog) (by omega)) (.cons (vk_b a.xPage.xLoaded) (.cons (vk_b a.xKept) (.nil 0)))))))))))))))))))))))))
 refine VKrow.mono hh ?_
 clear hh h
 generalize a.xAddr.xHost.length = m0 at ⊢
 generalize a.xAddr.xPath.length = m1 at ⊢
 generalize a.xPage.xAddr.xHost.length = m2 at ⊢
 generalize a.xPage.xAddr.xPath.length = m3 at ⊢
 generalize a.xPage.xPolicy.xScripts.length = m4 at ⊢
 generalize sumL List.length a.xPage.xPolicy.xScripts = m5 at ⊢
 generalize a.xPage.xPolicy.xStyles.length = m6 at ⊢
 generalize sumL List.length a.xPage.xPolicy.xStyles = m7 at ⊢
 generalize a.xPage.xPolicy.xImages.length = m8 at ⊢
 generalize sumL List.length a.xPage.xPolicy.xImages = m9 at ⊢
 generalize a.xPage.xPolicy.xNonce.length = m10 at ⊢
 generalize a.xPage.xTok.xRest.length = m11 at ⊢
 generalize a.xPage.xQueue.length = m12 at ⊢
 generalize sumL TToken.size a.xPage.xQueue = m13 at ⊢
 generalize a.xPage.xBuilder.xNodes.length = m14 at ⊢
 generalize sumL TNode.size a.xPage.xBuilder.xNodes = m15 at ⊢
 generalize a.xPage.xBuilder.xOpen.length = m16 at ⊢
 generalize a.xPage.xSlots.length = m17 at ⊢
 generalize sumL TSlot.size a.xPage.xSlots = m18 at ⊢
 generalize a.xPage.xMods.length = m19 at ⊢
 generalize sumL TModule.size a.xPage.xMods = m20 at ⊢
 generalize a.xPage.xEntries.length = m21 at ⊢
 generalize sumL TAddr.size a.xPage.xEntries = m22 at ⊢
 generalize a.xPage.xRan.length = m23 at ⊢
 generalize sumL TAddr.size a.xPage.xRan = m24 at ⊢
 generalize a.xPage.xLog.length = m25 at ⊢
 generalize sumL List.length a.xPage.xLog = m26 at ⊢
 omega
theorem mk60 : MarkOk Try.prog mt 60 (.sl [.str]) :=
 mark_sl (c := cfg) (subs := []) agree textOk (fun _ h => absurd h List.not_mem_nil) Try.func60 rfl rfl rfl (by kernel_rfl)
theorem mk102 : MarkOk Try.prog mt 102 (.sl kdAttr) :=
 mark_sl (c := cfg) (subs := []) agree textOk (fun _ h => absurd h List.not_mem_nil) Try.func102 rfl rfl rfl (by kernel_rfl)
theorem mk61 : MarkOk Try.prog mt 61 (.sl kdToken) :=
 mark_sl (c := cfg) (subs := [(102, .sl kdAttr)]) agree textOk (List.forall_mem_cons.2 ⟨mk102, fun _ h => absurd h List.not_mem_nil⟩) Try.func61 rfl rfl rfl (by kernel_rfl)
theorem mk62 : MarkOk Try.prog mt 62 (.sl kdNode) :=
 mark_sl (c := cfg) (subs := [(102, .sl kdAttr)]) agree textOk (List.forall_mem_cons.2 ⟨mk102, fun _ h => absurd h List.not_mem_nil⟩) Try.func62 rfl rfl rfl (by kernel_rfl)
theorem mk63 : MarkOk Try.prog mt 63 (.sl [.int]) :=
 mark_sl (c := cfg) (subs := []) agree textOk (fun _ h => absurd h List.not_mem_nil) Try.func63 rfl rfl rfl (by kernel_rfl)
theorem mk64 : MarkOk Try.prog mt 64 (.sl kdSlot) :=
 mark_sl (c := cfg) (subs := []) agree textOk (fun _ h => absurd h List.not_mem_nil) Try.func64 rfl rfl rfl (by kernel_rfl)
theorem mk65 : MarkOk Try.prog mt 65 (.sl kdModule) :=
 mark_sl (c := cfg) (subs := []) agree textOk (fun _ h => absurd h List.not_mem_nil) Try.func65 rfl rfl rfl (by kernel_rfl)
theorem mk66 : MarkOk Try.prog mt 66 (.sl kdAddr) :=
 mark_sl (c := cfg) (subs := []) agree textOk (fun _ h => absurd h List.not_mem_nil) Try.func66 rfl rfl rfl (by kernel_rfl)
theorem mk37 : MarkOk Try.prog mt 37 (.sl kdVisit) :=
 mark_sl (c := cfg) (subs := [(60, .sl [.str]), (61, .sl kdToken), (62, .sl kdNode), (63, .sl [.int]), (64, .sl kdSlot), (65, .sl kdModule), (66, .sl kdAddr)]) agree textOk (List.forall_mem_cons.2 ⟨mk60, List.forall_mem_cons.2 ⟨mk61, List.forall_mem_cons.2 ⟨mk62, List.forall_mem_cons.2 ⟨mk63, List.forall_mem_cons.2 ⟨mk64, List.forall_mem_cons.2 ⟨mk65, List.forall_mem_cons.2 ⟨mk66, fun _ h => absurd h List.not_mem_nil⟩⟩⟩⟩⟩⟩⟩) Try.func37 rfl rfl rfl (by kernel_rfl)
theorem mk16 : MarkAOk Try.prog mt 16 2 [(0, kdVisit)] :=
 mark_ag (c := cfg) (subs := [(37, kdVisit)]) (asubs := []) agree (List.forall_mem_cons.2 ⟨mk37, fun _ h => absurd h List.not_mem_nil⟩) (fun _ h => absurd h List.not_mem_nil) Try.func16 rfl rfl rfl (by kernel_rfl)
theorem hd67 : HeldOk Try.prog mt 67 (.sl [.str]) :=
 held_sl (c := cfg) (subs := []) (by kernel_rfl) agree textOk (fun _ h => absurd h List.not_mem_nil) Try.func67 rfl rfl rfl (by kernel_rfl)
theorem hd103 : HeldOk Try.prog mt 103 (.sl kdAttr) :=
 held_sl (c := cfg) (subs := []) (by kernel_rfl) agree textOk (fun _ h => absurd h List.not_mem_nil) Try.func103 rfl rfl rfl (by kernel_rfl)
theorem hd68 : HeldOk Try.prog mt 68 (.sl kdToken) :=
 held_sl (c := cfg) (subs := [(103, .sl kdAttr)]) (by kernel_rfl) agree textOk (List.forall_mem_cons.2 ⟨hd103, fun _ h => absurd h List.not_mem_nil⟩) Try.func68 rfl rfl rfl (by kernel_rfl)
theorem hd69 : HeldOk Try.prog mt 69 (.sl kdNode) :=
 held_sl (c := cfg) (subs := [(103, .sl kdAttr)]) (by kernel_rfl) agree textOk (List.forall_mem_cons.2 ⟨hd103, fun _ h => absurd h List.not_mem_nil⟩) Try.func69 rfl rfl rfl (by kernel_rfl)
theorem hd70 : HeldOk Try.prog mt 70 (.sl [.int]) :=
 held_sl (c := cfg) (subs := []) (by kernel_rfl) agree textOk (fun _ h => absurd h List.not_mem_nil) Try.func70 rfl rfl rfl (by kernel_rfl)
theorem hd71 : HeldOk Try.prog mt 71 (.sl kdSlot) :=
 held_sl (c := cfg) (subs := []) (by kernel_rfl) agree textOk (fun _ h => absurd h List.not_mem_nil) Try.func71 rfl rfl rfl (by kernel_rfl)
theorem hd72 : HeldOk Try.prog mt 72 (.sl kdModule) :=
 held_sl (c := cfg) (subs := []) (by kernel_rfl) agree textOk (fun _ h => absurd h List.not_mem_nil) Try.func72 rfl rfl rfl (by kernel_rfl)
theorem hd73 : HeldOk Try.prog mt 73 (.sl kdAddr) :=
 held_sl (c := cfg) (subs := []) (by kernel_rfl) agree textOk (fun _ h => absurd h List.not_mem_nil) Try.func73 rfl rfl rfl (by kernel_rfl)
theorem hd38 : HeldOk Try.prog mt 38 (.sl kdVisit) :=
 held_sl (c := cfg) (subs := [(67, .sl [.str]), (68, .sl kdToken), (69, .sl kdNode), (70, .sl [.int]), (71, .sl kdSlot), (72, .sl kdModule), (73, .sl kdAddr)]) (by kernel_rfl) agree textOk (List.forall_mem_cons.2 ⟨hd67, List.forall_mem_cons.2 ⟨hd68, List.forall_mem_cons.2 ⟨hd69, List.forall_mem_cons.2 ⟨hd70, List.forall_mem_cons.2 ⟨hd71, List.forall_mem_cons.2 ⟨hd72, List.forall_mem_cons.2 ⟨hd73, fun _ h => absurd h List.not_mem_nil⟩⟩⟩⟩⟩⟩⟩) Try.func38 rfl rfl rfl (by kernel_rfl)
theorem hd17 : HeldAOk Try.prog mt 17 2 [(0, kdVisit)] :=
 held_ag (c := cfg) (subs := [(38, kdVisit)]) (asubs := []) agree (List.forall_mem_cons.2 ⟨hd38, fun _ h => absurd h List.not_mem_nil⟩) (fun _ h => absurd h List.not_mem_nil) Try.func17 rfl rfl rfl (by kernel_rfl)
theorem handTTab (cl : Bool) (a : TTab) : Hand cl (.agg [.own 0 25 .clean (rows kVisit TVisit.row a.xVisits), .int .i64 a.xAt]) (.agg [.sl 25 false (rows kVisit TVisit.row a.xVisits), .int .i64 a.xAt]) :=
 Hands.agg (.cons (.own _ _ _ _ _ (fun _ => by decide) (fun h => by cases h)) (.cons (.same _ trivial) (.nil)))
theorem agvTTab (a : TTab) : ∃ cs, (.agg [.sl 25 false (rows kVisit TVisit.row a.xVisits), .int .i64 a.xAt] : V) = .agg cs ∧ cs.length = 2 ∧ allCell cs = true := ⟨_, rfl, rfl, rfl⟩
set_option maxHeartbeats 2000000 in
theorem ownTTab (a : TTab) (h : a.size ≤ 1125899906842624) : ∃ n, (Shp.a 2 [(0, kdVisit)]).own (.agg [.own 0 25 .clean (rows kVisit TVisit.row a.xVisits), .int .i64 a.xAt]) n ∧ n ≤ 36028797018964000 := by
 simp only [TTab.size] at h
 have hh : OwnB [.own 0 25 .clean (rows kVisit TVisit.row a.xVisits), .int .i64 a.xAt] [(0, kdVisit)] [] _ := OwnB.cons false rfl (by decide) (by decide) (vkb_list (l := a.xVisits) (g := TVisit.row) (kds := kdVisit) rfl (by decide) (by omega) (fun x hx => vkVisit x (by have := sumL_mem (f := TVisit.size) hx; omega))) (OwnB.nil _ _)
 have hh : OwnB [.own 0 25 .clean (rows kVisit TVisit.row a.xVisits), .int .i64 a.xAt] [(0, kdVisit)] [] (32 + 32 * (((a.xVisits.length + sumL TVisit.size a.xVisits)) + (0))) := by
  refine OwnB.mono hh ?_
  clear hh h
  generalize a.xVisits.length = m0 at ⊢
  generalize sumL TVisit.size a.xVisits = m1 at ⊢
  omega
 obtain ⟨n, h1, h2⟩ := hh.shp rfl
 exact ⟨n, h1, by omega⟩
theorem d11 (a : TTab) (l : Int) (h0 : 0 ≤ l) (h1 : l ≤ 1048576) (h : a.ok) : D 11 [.agg [.sl 25 false (rows kVisit TVisit.row a.xVisits), .int .i64 a.xAt], .int .i64 l] = some (.int .i64 (szL l a.size)) :=
 fnok_any ok11 (show F11 V (rows kVisit TVisit.row a.xVisits) a.xAt l (fun y => some (.int .i64 y)) = _ from szTab a l h0 h1 h _)
theorem d13 (a : TTab) (h : a.size ≤ 1048576) : D 13 [.agg [.sl 25 false (rows kVisit TVisit.row a.xVisits), .int .i64 a.xAt]] = some (.agg [.own 0 25 .clean (rows kVisit TVisit.row a.xVisits), .int .i64 a.xAt]) :=
 fnok_any ok13 (show F13 V (rows kVisit TVisit.row a.xVisits) a.xAt (fun y0 y1 => some (.agg [.own 0 25 .clean y0, .int .i64 y1])) = _ from toTab a h _)
theorem d12 (a0 : TTab) (a1 : Int) {r : TTab} (e : sGiveUp a0 a1 = some r) : D 12 [.agg [.sl 25 false (rows kVisit TVisit.row a0.xVisits), .int .i64 a0.xAt], .int .i64 a1] = some (.agg [.own 0 25 .clean (rows kVisit TVisit.row r.xVisits), .int .i64 r.xAt]) :=
 fnok_any ok12 (show F12 V (rows kVisit TVisit.row a0.xVisits) a0.xAt a1 (fun y0 y1 => (some (.agg [.own 0 25 .clean y0, .int .i64 y1]) : Option V)) = _ from ei_sGiveUp a0 a1 (fun y0 y1 => (some (.agg [.own 0 25 .clean y0, .int .i64 y1]) : Option V)) _ e)
theorem d14 (a0 : TTab) (a1 : Int) {r : TTab} (e : iGiveUp a0 a1 = some r) : D 14 [.agg [.sl 25 false (rows kVisit TVisit.row a0.xVisits), .int .i64 a0.xAt], .int .i64 a1] = some (.agg [.own 0 25 .clean (rows kVisit TVisit.row r.xVisits), .int .i64 r.xAt]) :=
 fnok_any ok14 (show F14 V (rows kVisit TVisit.row a0.xVisits) a0.xAt a1 (fun y0 y1 => (some (.agg [.own 0 25 .clean y0, .int .i64 y1]) : Option V)) = _ from ei_iGiveUp a0 a1 (fun y0 y1 => (some (.agg [.own 0 25 .clean y0, .int .i64 y1]) : Option V)) _ e)
theorem d15 (a : TTab) (h : a.ok) : D 15 [.agg [.sl 25 false (rows kVisit TVisit.row a.xVisits), .int .i64 a.xAt], .agg [.sl 25 false (rows kVisit TVisit.row a.xVisits), .int .i64 a.xAt]] = some (.bool true) :=
 fnok_any ok15 (show F15 V (rows kVisit TVisit.row a.xVisits) a.xAt (rows kVisit TVisit.row a.xVisits) a.xAt (fun y => some (.bool y)) = _ from (eqTab a a h _).trans (by rw [decide_eq_true rfl]))
theorem lawg4 {va0TTab va1Int vrTTab oa0TTab orTTab : V} {n4 n5 : Nat} {z0 : Int} (gva0TTab : ∃ cs, va0TTab = .agg cs ∧ cs.length = 2 ∧ allCell cs = true) (gvrTTab : ∃ cs, vrTTab = .agg cs ∧ cs.length = 2 ∧ allCell cs = true)
  (h0 : D 11 [va0TTab, .int .i64 1048576] = some (.int .i64 z0))
  (h1 : 0 ≤ z0 → D 13 [va0TTab] = some (oa0TTab))
  (h2 : 0 ≤ z0 → Hand false oa0TTab va0TTab)
  (h3 : 0 ≤ z0 → D 12 [va0TTab, va1Int] = some (orTTab))
  (h4 : 0 ≤ z0 → Hand false orTTab vrTTab)
  (h5 : 0 ≤ z0 → Hand true oa0TTab va0TTab)
  (h6 : 0 ≤ z0 → (Shp.a 2 [(0, kdVisit)]).own oa0TTab n4)
  (h7 : 0 ≤ z0 → D 14 [va0TTab, va1Int] = some (orTTab))
  (h8 : 0 ≤ z0 → Hand true orTTab vrTTab)
  (h9 : 0 ≤ z0 → (Shp.a 2 [(0, kdVisit)]).own orTTab n5)
  (h10 : 0 ≤ z0 → D 15 [vrTTab, vrTTab] = some (.bool true))
  (h11 : 0 ≤ z0 → D 15 [va0TTab, va0TTab] = some (.bool true))
  (h12 : 0 ≤ z0 → n4 ≤ 36028797018964000)
  (h13 : 0 ≤ z0 → n5 ≤ 36028797018964000)
  (R : Nat → Prop) (w : World) (vals : Array Value) (hg : globOk w) (hR : ∀ k, R k → k < w.heap.size) (hl : 2 = vals.size) (hv : ∀ (i : Nat) (v : Value), vals[i]? = some v → Rd w R ([va0TTab, va1Int, va0TTab, vrTTab, va0TTab, vrTTab, va0TTab, va0TTab, vrTTab].getD i .undef) v) :
  Calls Try.prog 4 vals w fun
   | .returned x, w' => Answer R w (.bool true) x w'
   | _, _ => False := by
 refine law_marks (c := cfg) (P := Try.prog) (D := D) (mt := mt) (Vh := fun i => [va0TTab, va1Int, va0TTab, vrTTab, va0TTab, vrTTab, va0TTab, va0TTab, vrTTab].getD i .undef) (Vo := fun i => [.undef, .undef, oa0TTab, orTTab, oa0TTab, orTTab, oa0TTab, oa0TTab, orTTab].getD i .undef) (nn := fun j => if j = 4 then n4 else if j = 5 then n5 else 0) (shp := fun j => if j = 4 then .a 2 [(0, kdVisit)] else if j = 5 then .a 2 [(0, kdVisit)] else .s []) (ag := [some 2, none, some 2, some 2, some 2, some 2, some 2, some 2, some 2]) (Z := fun i => ([z0] : List Int).getD i 0) (k := 2) (fn := Try.f4)
  (es := [.sz 11 0 (.ki 1048576) 0, .low 0, .mk 13 [0] true 2, .mk 12 [2, 1] true 3, .mk 13 [0] false 4, .mk 14 [4, 1] false 5, .tt 15 [5, 3], .mk 13 [0] true 6, .tt 15 [4, 6], .mark 16 4 [], .tt 15 [5, 3], .mark 16 5 [], .held 17 5 [], .mk 13 [0] true 7, .mk 14 [7, 1] true 8, .tt 15 [8, 3], .held 17 5 []])
  (by kernel_rfl) answers agree (fun j n hj => ?_) Try.func4 rfl rfl (by decide) (fun R w => ?_) (by kernel_rfl) R w vals hg hR hl hv
 ·match j, hj with
  | 0, hj => injection hj with hj; injection hj with hj; subst hj; exact gva0TTab
  | 1, hj => injection hj with hj; cases hj
  | 2, hj => injection hj with hj; injection hj with hj; subst hj; exact gva0TTab
  | 3, hj => injection hj with hj; injection hj with hj; subst hj; exact gvrTTab
  | 4, hj => injection hj with hj; injection hj with hj; subst hj; exact gva0TTab
  | 5, hj => injection hj with hj; injection hj with hj; subst hj; exact gvrTTab
  | 6, hj => injection hj with hj; injection hj with hj; subst hj; exact gva0TTab
  | 7, hj => injection hj with hj; injection hj with hj; subst hj; exact gva0TTab
  | 8, hj => injection hj with hj; injection hj with hj; subst hj; exact gvrTTab
  | j + 9, hj => simp at hj
 ·exact LX.H_sz (1048576) rfl (h0) (LX.H_low fun q0 => (LX.H_sh (h1 q0) (h2 q0) (LX.H_sh (h3 q0) (h4 q0) (LX.H_nw (h1 q0) (h5 q0) (h6 q0) (LX.H_nw (h7 q0) (h8 q0) (h9 q0) (LX.H_tt (h10 q0) (LX.H_sh (h1 q0) (h2 q0) (LX.H_tt (h11 q0) (LX.H_mark mk16 (by have b0 := (h12 q0); show 1 + (0) + n4 ≤ _; simp only [Nat.add_zero]; omega) (LX.H_tt (h10 q0) (LX.H_mark mk16 (by have b0 := (h13 q0); show 1 + (0) + n5 ≤ _; simp only [Nat.add_zero]; omega) (LX.H_held hd17 (by have b0 := (h13 q0); show 1 + (0) + n5 ≤ _; simp only [Nat.add_zero]; omega) (LX.H_sh (h1 q0) (h2 q0) (LX.H_sh (h7 q0) (h4 q0) (LX.H_tt (h10 q0) (LX.H_held hd17 (by have b0 := (h13 q0); show 1 + (0) + n5 ≤ _; simp only [Nat.add_zero]; omega) (LX.H_nil)))))))))))))))))
def Told4 (args : List V) : Prop := ∀ (R : Nat → Prop) (w : World) (vals : Array Value), globOk w → (∀ k, R k → k < w.heap.size) → args.length = vals.size → (∀ (i : Nat) (c : V) (v : Value), args[i]? = some c → vals[i]? = some v → Rd w R c v) →
  Calls Try.prog 4 vals w fun
   | .returned x, w' => Answer R w (.bool true) x w'
   | _, _ => False
open Classical in
noncomputable def D4 : Nat → List V → Option V := fun f args => if f = 4 ∧ Told4 args then some (.bool true) else D f args
theorem answers4 : Answers Try.prog D4 := by
 intro f args r h
 unfold D4 at h
 split at h
 ·rename_i hc
  obtain ⟨rfl, ht⟩ := hc
  injection h with h
  subst h
  exact ⟨⟨Try.f4, Try.func4, rfl, by decide⟩, ht⟩
 ·exact answers f args r h
theorem law4 (a0 : TTab) (a1 : Int) (o0 : a0.ok) (o1 : okI a1) : D4 4 [.agg [.sl 25 false (rows kVisit TVisit.row a0.xVisits), .int .i64 a0.xAt], .int .i64 a1] = some (.bool true) := by
 refine if_pos ⟨rfl, ?_⟩
 intro R w vals hg hR hl hv
 obtain ⟨r, hr⟩ := under (P := a0.size ≤ 1048576) (⟨[], 0⟩ : TTab) (fun h => eq_GiveUp a0 a1 o0 o1 h)
 obtain ⟨n4, b4⟩ := under (P := a0.size ≤ 1048576) 0 (fun h => ownTTab a0 (by omega))
 obtain ⟨n5, b5⟩ := under (P := a0.size ≤ 1048576) 0 (fun h => ownTTab r (by have := (hr h).2.2.1; omega))
 have two : ∀ {l : Int} {n : Nat}, 0 ≤ szL l n → (n : Int) ≤ l ∧ szL l n = l - n := fun {l n} h => by
  unfold szL at h ⊢
  split at h
  ·omega
  ·rename_i hc; rw [if_neg hc]; omega
 have hval : ∀ (i : Nat) (v : Value), vals[i]? = some v → Rd w R ([.agg [.sl 25 false (rows kVisit TVisit.row a0.xVisits), .int .i64 a0.xAt], .int .i64 a1, .agg [.sl 25 false (rows kVisit TVisit.row a0.xVisits), .int .i64 a0.xAt], .agg [.sl 25 false (rows kVisit TVisit.row r.xVisits), .int .i64 r.xAt], .agg [.sl 25 false (rows kVisit TVisit.row a0.xVisits), .int .i64 a0.xAt], .agg [.sl 25 false (rows kVisit TVisit.row r.xVisits), .int .i64 r.xAt], .agg [.sl 25 false (rows kVisit TVisit.row a0.xVisits), .int .i64 a0.xAt], .agg [.sl 25 false (rows kVisit TVisit.row a0.xVisits), .int .i64 a0.xAt], .agg [.sl 25 false (rows kVisit TVisit.row r.xVisits), .int .i64 r.xAt]].getD i .undef) v := fun i v h => by
  have hi : i < vals.size := (Array.getElem?_eq_some_iff.1 h).1
  have hi : i < 2 := by rw [← hl] at hi; exact hi
  match i, hi with
  | 0, _ => exact hv 0 _ v rfl h
  | 1, _ => exact hv 1 _ v rfl h
 exact lawg4 (agvTTab a0) (agvTTab r)
  (d11 a0 1048576 (by omega) (by omega) o0)
  (fun q0 => d13 a0 (by have t0 := two q0; omega))
  (fun q0 => handTTab _ a0)
  (fun q0 => d12 a0 a1 (hr (by have t0 := two q0; exact by omega)).1)
  (fun q0 => handTTab _ r)
  (fun q0 => handTTab _ a0)
  (fun q0 => (b4 (by have t0 := two q0; exact by omega)).1)
  (fun q0 => d14 a0 a1 (hr (by have t0 := two q0; exact by omega)).2.1)
  (fun q0 => handTTab _ r)
  (fun q0 => (b5 (by have t0 := two q0; exact by omega)).1)
  (fun q0 => d15 r (hr (by have t0 := two q0; exact by omega)).2.2.2)
  (fun q0 => d15 a0 o0)
  (fun q0 => (b4 (by have t0 := two q0; exact by omega)).2)
  (fun q0 => (b5 (by have t0 := two q0; exact by omega)).2)
  R w vals hg hR hl hval
end Go.Am

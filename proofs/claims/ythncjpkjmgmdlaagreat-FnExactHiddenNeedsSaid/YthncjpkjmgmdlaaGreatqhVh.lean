/-
  Laws that mark what they were given and what they were handed: the data's kinds, the functions that mark and that look for marks, the laws' own code. Written by program (walklaw3.py).
-/
import Derived.Test.YthncjpkjmgmdlaaGreatqhAmTree
import Derived.Test.YthncjpkjmgmdlaaGreatqhAmVk
set_option linter.unusedVariables false
set_option linter.unusedSimpArgs false
set_option maxRecDepth 100000
namespace Go.Am
open Go Go.Proofs
theorem textOk : TextOk Tryz.prog mt 97 := by
 refine ⟨⟨Tryz.f97, Tryz.func97, rfl, by decide⟩, fun k w hk hg => ?_⟩
 have hd : D 97 [.int .i64 (k : Int)] = some (.str (mt k)) := fnok_any ok97 (show F97 V (k : Int) (fun y => some (.str y)) = _ from ei_lmarkText (k : Int) (fun y => some (V.str y)) _ (mt_eq k hk))
 refine ((answers _ _ _ hd).2 (fun _ => False) w #[.int .i64 (k : Int)] hg (fun _ h => h.elim) rfl (fun i c v h1 h2 => ?_)).mono (fun e w' h => ?_)
 ·match i, h1, h2 with
  | 0, h1, h2 => injection h1 with h1; injection h2 with h2; subst h1; subst h2; exact .int _ _
  | i + 1, h1, _ => simp at h1
 ·cases e with
  | returned x =>
   obtain ⟨Γ, hv, _⟩ := h.val
   cases hv with
   | rd _ _ hr => cases hr with | str _ s hs => exact ⟨s, rfl, hs, kept_of h⟩
  | _ => exact h.elim
abbrev hvHidden (a : THidden) : V := .agg (.bool a.xReady :: .str a.xPage.xAddr.xHost :: .str a.xPage.xAddr.xPath :: .bool a.xPage.xPolicy.xSet :: .sl 1 true (rStr a.xPage.xPolicy.xScripts) :: .sl 1 true (rStr a.xPage.xPolicy.xStyles) :: .sl 1 true (rStr a.xPage.xPolicy.xImages) :: .str a.xPage.xPolicy.xNonce :: .str a.xPage.xTok.xRest :: .sl 4 false (rows kToken TToken.row a.xPage.xQueue) :: .bool a.xPage.xEnded :: .sl 4 false (rows kNode TNode.row a.xPage.xBuilder.xNodes) :: .sl 1 true (rInt a.xPage.xBuilder.xOpen) :: .sl 8 true (rows kSlot TSlot.row a.xPage.xSlots) :: .sl 5 true (rows kModule TModule.row a.xPage.xMods) :: .sl 2 true (rows kAddr TAddr.row a.xPage.xEntries) :: .int .i64 a.xPage.xBlock :: .int .i64 a.xPage.xInline :: .int .i64 a.xPage.xDeferred :: .int .i64 a.xPage.xEntered :: .sl 2 true (rows kAddr TAddr.row a.xPage.xRan) :: .sl 1 true (rStr a.xPage.xLog) :: .bool a.xPage.xLoaded :: .sl 8 true (rows kKept TKept.row a.xTaken) :: .sl 2 false (rows kServer TServer.row a.xServers) :: .int .i64 a.xNow :: [])
abbrev ovHidden (a : THidden) : V := .agg (.bool a.xReady :: .str a.xPage.xAddr.xHost :: .str a.xPage.xAddr.xPath :: .bool a.xPage.xPolicy.xSet :: .own 4 1 .flat (rStr a.xPage.xPolicy.xScripts) :: .own 5 1 .flat (rStr a.xPage.xPolicy.xStyles) :: .own 6 1 .flat (rStr a.xPage.xPolicy.xImages) :: .str a.xPage.xPolicy.xNonce :: .str a.xPage.xTok.xRest :: .own 9 4 .clean (rows kToken TToken.row a.xPage.xQueue) :: .bool a.xPage.xEnded :: .own 11 4 .clean (rows kNode TNode.row a.xPage.xBuilder.xNodes) :: .own 12 1 .flat (rInt a.xPage.xBuilder.xOpen) :: .own 13 8 .flat (rows kSlot TSlot.row a.xPage.xSlots) :: .own 14 5 .flat (rows kModule TModule.row a.xPage.xMods) :: .own 15 2 .flat (rows kAddr TAddr.row a.xPage.xEntries) :: .int .i64 a.xPage.xBlock :: .int .i64 a.xPage.xInline :: .int .i64 a.xPage.xDeferred :: .int .i64 a.xPage.xEntered :: .own 20 2 .flat (rows kAddr TAddr.row a.xPage.xRan) :: .own 21 1 .flat (rStr a.xPage.xLog) :: .bool a.xPage.xLoaded :: .own 23 8 .flat (rows kKept TKept.row a.xTaken) :: .own 24 2 .clean (rows kServer TServer.row a.xServers) :: .int .i64 a.xNow :: [])
def kdAttr : List Kd := [.str, .str]
theorem vkAttr (a : TAttr) (h : a.size ≤ 1125899906842624) : VKrow (cellsEnc kAttr a.row) kdAttr (32 + 32 * a.size) := by
 simp only [TAttr.size] at h ⊢
 have hh : VKrow [.str a.xName, .str a.xValue] kdAttr _ := .cons (vk_s a.xName) (.cons (vk_s a.xValue) (.nil 0))
 refine VKrow.mono hh ?_
 clear hh h
 omega
def kdToken : List Kd := [.int, .str, .sl kdAttr, .str]
theorem vkToken (a : TToken) (h : a.size ≤ 1125899906842624) : VKrow (cellsEnc kToken a.row) kdToken (32 + 32 * a.size) := by
 simp only [TToken.size] at h ⊢
 have hh : VKrow [.int .i64 a.xKind, .str a.xName, .sl 2 true (rows kAttr TAttr.row a.xAttrs), .str a.xText] kdToken _ := .cons (vk_i a.xKind) (.cons (vk_s a.xName) (.cons (vkb_list (l := a.xAttrs) (g := TAttr.row) (kds := kdAttr) rfl (by decide) (by omega) (fun x hx => vkAttr x (by have := sumL_mem (f := TAttr.size) hx; omega))) (.cons (vk_s a.xText) (.nil 0))))
 refine VKrow.mono hh ?_
 clear hh h
 omega
def kdNode : List Kd := [.str, .str, .int, .sl kdAttr]
theorem vkNode (a : TNode) (h : a.size ≤ 1125899906842624) : VKrow (cellsEnc kNode a.row) kdNode (32 + 32 * a.size) := by
 simp only [TNode.size] at h ⊢
 have hh : VKrow [.str a.xName, .str a.xText, .int .i64 a.xParent, .sl 2 true (rows kAttr TAttr.row a.xAttrs)] kdNode _ := .cons (vk_s a.xName) (.cons (vk_s a.xText) (.cons (vk_i a.xParent) (.cons (vkb_list (l := a.xAttrs) (g := TAttr.row) (kds := kdAttr) rfl (by decide) (by omega) (fun x hx => vkAttr x (by have := sumL_mem (f := TAttr.size) hx; omega))) (.nil 0))))
 refine VKrow.mono hh ?_
 clear hh h
 omega
def kdSlot : List Kd := [.int, .str, .str, .str, .int, .bool, .int, .str]
theorem vkSlot (a : TSlot) (h : a.size ≤ 1125899906842624) : VKrow (cellsEnc kSlot a.row) kdSlot (32 + 32 * a.size) := by
 simp only [TSlot.size, TAddr.size] at h ⊢
 have hh : VKrow [.int .i64 a.xMode, .str a.xTo.xHost, .str a.xTo.xPath, .str a.xDigest, .int .i64 a.xNode, .bool a.xDone, .int .i64 a.xCode, .str a.xBody] kdSlot _ := .cons (vk_i a.xMode) (.cons (vk_s a.xTo.xHost) (.cons (vk_s a.xTo.xPath) (.cons (vk_s a.xDigest) (.cons (vk_i a.xNode) (.cons (vk_b a.xDone) (.cons (vk_i a.xCode) (.cons (vk_s a.xBody) (.nil 0))))))))
 refine VKrow.mono hh ?_
 clear hh h
 omega
def kdModule : List Kd := [.str, .str, .bool, .int, .str]
theorem vkModule (a : TModule) (h : a.size ≤ 1125899906842624) : VKrow (cellsEnc kModule a.row) kdModule (32 + 32 * a.size) := by
 simp only [TModule.size, TAddr.size] at h ⊢
 have hh : VKrow [.str a.xTo.xHost, .str a.xTo.xPath, .bool a.xDone, .int .i64 a.xCode, .str a.xBody] kdModule _ := .cons (vk_s a.xTo.xHost) (.cons (vk_s a.xTo.xPath) (.cons (vk_b a.xDone) (.cons (vk_i a.xCode) (.cons (vk_s a.xBody) (.nil 0)))))
 refine VKrow.mono hh ?_
 clear hh h
 omega
def kdAddr : List Kd := [.str, .str]
theorem vkAddr (a : TAddr) (h : a.size ≤ 1125899906842624) : VKrow (cellsEnc kAddr a.row) kdAddr (32 + 32 * a.size) := by
 simp only [TAddr.size] at h ⊢
 have hh : VKrow [.str a.xHost, .str a.xPath] kdAddr _ := .cons (vk_s a.xHost) (.cons (vk_s a.xPath) (.nil 0))
 refine VKrow.mono hh ?_
 clear hh h
 omega
def kdKept : List Kd := [.str, .str, .int, .int, .str, .int, .bool, .str]
theorem vkKept (a : TKept) (h : a.size ≤ 1125899906842624) : VKrow (cellsEnc kKept a.row) kdKept (32 + 32 * a.size) := by
 simp only [TKept.size, TAddr.size, TResponse.size] at h ⊢
 have hh : VKrow [.str a.xTo.xHost, .str a.xTo.xPath, .int .i64 a.xResponse.xStatus, .int .i64 a.xResponse.xKind, .str a.xResponse.xBody, .int .i64 a.xResponse.xAge, .bool a.xResponse.xShares, .str a.xResponse.xPolicy] kdKept _ := .cons (vk_s a.xTo.xHost) (.cons (vk_s a.xTo.xPath) (.cons (vk_i a.xResponse.xStatus) (.cons (vk_i a.xResponse.xKind) (.cons (vk_s a.xResponse.xBody) (.cons (vk_i a.xResponse.xAge) (.cons (vk_b a.xResponse.xShares) (.cons (vk_s a.xResponse.xPolicy) (.nil 0))))))))
 refine VKrow.mono hh ?_
 clear hh h
 omega
def kdFile : List Kd := [.str, .int, .int, .str, .int, .bool, .str]
theorem vkFile (a : TFile) (h : a.size ≤ 1125899906842624) : VKrow (cellsEnc kFile a.row) kdFile (32 + 32 * a.size) := by
 simp only [TFile.size, TResponse.size] at h ⊢
 have hh : VKrow [.str a.xPath, .int .i64 a.xResponse.xStatus, .int .i64 a.xResponse.xKind, .str a.xResponse.xBody, .int .i64 a.xResponse.xAge, .bool a.xResponse.xShares, .str a.xResponse.xPolicy] kdFile _ := .cons (vk_s a.xPath) (.cons (vk_i a.xResponse.xStatus) (.cons (vk_i a.xResponse.xKind) (.cons (vk_s a.xResponse.xBody) (.cons (vk_i a.xResponse.xAge) (.cons (vk_b a.xResponse.xShares) (.cons (vk_s a.xResponse.xPolicy) (.nil 0)))))))
 refine VKrow.mono hh ?_
 clear hh h
 omega
def kdServer : List Kd := [.str, .sl kdFile]
theorem vkServer (a : TServer) (h : a.size ≤ 1125899906842624) : VKrow (cellsEnc kServer a.row) kdServer (32 + 32 * a.size) := by
 simp only [TServer.size] at h ⊢
 have hh : VKrow [.str a.xHost, .sl 7 true (rows kFile TFile.row a.xFiles)] kdServer _ := .cons (vk_s a.xHost) (.cons (vkb_list (l := a.xFiles) (g := TFile.row) (kds := kdFile) rfl (by decide) (by omega) (fun x hx => vkFile x (by have := sumL_mem (f := TFile.size) hx; omega))) (.nil 0))
 refine VKrow.mono hh ?_
 clear hh h
 omega
theorem mk77 : MarkOk Tryz.prog mt 77 (.sl [.str]) :=
 mark_sl (c := cfg) (subs := []) agree textOk (fun _ h => absurd h List.not_mem_nil) Tryz.func77 rfl rfl rfl (by kernel_rfl)
theorem mk72 : MarkAOk Tryz.prog mt 72 5 [(1, [.str]), (2, [.str]), (3, [.str])] :=
 mark_ag (c := cfg) (subs := [(77, [.str])]) (asubs := []) agree (List.forall_mem_cons.2 ⟨mk77, fun _ h => absurd h List.not_mem_nil⟩) (fun _ h => absurd h List.not_mem_nil) Tryz.func72 rfl rfl rfl (by kernel_rfl)
theorem mk132 : MarkOk Tryz.prog mt 132 (.sl kdAttr) :=
 mark_sl (c := cfg) (subs := []) agree textOk (fun _ h => absurd h List.not_mem_nil) Tryz.func132 rfl rfl rfl (by kernel_rfl)
theorem mk73 : MarkOk Tryz.prog mt 73 (.sl kdToken) :=
 mark_sl (c := cfg) (subs := [(132, .sl kdAttr)]) agree textOk (List.forall_mem_cons.2 ⟨mk132, fun _ h => absurd h List.not_mem_nil⟩) Tryz.func73 rfl rfl rfl (by kernel_rfl)
theorem mk130 : MarkOk Tryz.prog mt 130 (.sl kdNode) :=
 mark_sl (c := cfg) (subs := [(132, .sl kdAttr)]) agree textOk (List.forall_mem_cons.2 ⟨mk132, fun _ h => absurd h List.not_mem_nil⟩) Tryz.func130 rfl rfl rfl (by kernel_rfl)
theorem mk131 : MarkOk Tryz.prog mt 131 (.sl [.int]) :=
 mark_sl (c := cfg) (subs := []) agree textOk (fun _ h => absurd h List.not_mem_nil) Tryz.func131 rfl rfl rfl (by kernel_rfl)
theorem mk74 : MarkAOk Tryz.prog mt 74 2 [(0, kdNode), (1, [.int])] :=
 mark_ag (c := cfg) (subs := [(130, kdNode), (131, [.int])]) (asubs := []) agree (List.forall_mem_cons.2 ⟨mk130, List.forall_mem_cons.2 ⟨mk131, fun _ h => absurd h List.not_mem_nil⟩⟩) (fun _ h => absurd h List.not_mem_nil) Tryz.func74 rfl rfl rfl (by kernel_rfl)
theorem mk75 : MarkOk Tryz.prog mt 75 (.sl kdSlot) :=
 mark_sl (c := cfg) (subs := []) agree textOk (fun _ h => absurd h List.not_mem_nil) Tryz.func75 rfl rfl rfl (by kernel_rfl)
theorem mk76 : MarkOk Tryz.prog mt 76 (.sl kdModule) :=
 mark_sl (c := cfg) (subs := []) agree textOk (fun _ h => absurd h List.not_mem_nil) Tryz.func76 rfl rfl rfl (by kernel_rfl)
theorem mk27 : MarkOk Tryz.prog mt 27 (.sl kdAddr) :=
 mark_sl (c := cfg) (subs := []) agree textOk (fun _ h => absurd h List.not_mem_nil) Tryz.func27 rfl rfl rfl (by kernel_rfl)
theorem mk16 : MarkAOk Tryz.prog mt 16 22 [(3, [.str]), (4, [.str]), (5, [.str]), (8, kdToken), (10, kdNode), (11, [.int]), (12, kdSlot), (13, kdModule), (14, kdAddr), (19, kdAddr), (20, [.str])] :=
 mark_ag (c := cfg) (subs := [(73, kdToken), (75, kdSlot), (76, kdModule), (27, kdAddr), (77, [.str])]) (asubs := [⟨72, 5, [(1, [.str]), (2, [.str]), (3, [.str])]⟩, ⟨74, 2, [(0, kdNode), (1, [.int])]⟩]) agree (List.forall_mem_cons.2 ⟨mk73, List.forall_mem_cons.2 ⟨mk75, List.forall_mem_cons.2 ⟨mk76, List.forall_mem_cons.2 ⟨mk27, List.forall_mem_cons.2 ⟨mk77, fun _ h => absurd h List.not_mem_nil⟩⟩⟩⟩⟩) (List.forall_mem_cons.2 ⟨mk72, List.forall_mem_cons.2 ⟨mk74, fun _ h => absurd h List.not_mem_nil⟩⟩) Tryz.func16 rfl rfl rfl (by kernel_rfl)
theorem mk95 : MarkOk Tryz.prog mt 95 (.sl kdKept) :=
 mark_sl (c := cfg) (subs := []) agree textOk (fun _ h => absurd h List.not_mem_nil) Tryz.func95 rfl rfl rfl (by kernel_rfl)
theorem mk160 : MarkOk Tryz.prog mt 160 (.sl kdFile) :=
 mark_sl (c := cfg) (subs := []) agree textOk (fun _ h => absurd h List.not_mem_nil) Tryz.func160 rfl rfl rfl (by kernel_rfl)
theorem mk96 : MarkOk Tryz.prog mt 96 (.sl kdServer) :=
 mark_sl (c := cfg) (subs := [(160, .sl kdFile)]) agree textOk (List.forall_mem_cons.2 ⟨mk160, fun _ h => absurd h List.not_mem_nil⟩) Tryz.func96 rfl rfl rfl (by kernel_rfl)
theorem mk26 : MarkAOk Tryz.prog mt 26 26 [(4, [.str]), (5, [.str]), (6, [.str]), (9, kdToken), (11, kdNode), (12, [.int]), (13, kdSlot), (14, kdModule), (15, kdAddr), (20, kdAddr), (21, [.str]), (23, kdKept), (24, kdServer)] :=
 mark_ag (c := cfg) (subs := [(95, kdKept), (96, kdServer)]) (asubs := [⟨16, 22, [(3, [.str]), (4, [.str]), (5, [.str]), (8, kdToken), (10, kdNode), (11, [.int]), (12, kdSlot), (13, kdModule), (14, kdAddr), (19, kdAddr), (20, [.str])]⟩]) agree (List.forall_mem_cons.2 ⟨mk95, List.forall_mem_cons.2 ⟨mk96, fun _ h => absurd h List.not_mem_nil⟩⟩) (List.forall_mem_cons.2 ⟨mk16, fun _ h => absurd h List.not_mem_nil⟩) Tryz.func26 rfl rfl rfl (by kernel_rfl)
theorem hd28 : HeldOk Tryz.prog mt 28 (.sl kdAddr) :=
 held_sl (c := cfg) (subs := []) (by kernel_rfl) agree textOk (fun _ h => absurd h List.not_mem_nil) Tryz.func28 rfl rfl rfl (by kernel_rfl)
theorem handTHidden (cl : Bool) (a : THidden) : Hand cl (ovHidden a) (hvHidden a) :=
 Hands.agg (.cons (.same _ trivial) (.cons (.same _ trivial) (.cons (.same _ trivial) (.cons (.same _ trivial) (.cons (.own _ _ _ _ _ (fun _ => by decide) (fun _ => flat_strs _)) (.cons (.own _ _ _ _ _ (fun _ => by decide) (fun _ => flat_strs _)) (.cons (.own _ _ _ _ _ (fun _ => by decide) (fun _ => flat_strs _)) (.cons (.same _ trivial) (.cons (.same _ trivial) (.cons (.own _ _ _ _ _ (fun _ => by decide) (fun h => by cases h)) (.cons (.same _ trivial) (.cons (.own _ _ _ _ _ (fun _ => by decide) (fun h => by cases h)) (.cons (.own _ _ _ _ _ (fun _ => by decide) (fun _ => flat_ints _)) (.cons (.own _ _ _ _ _ (fun _ => by decide) (fun _ => flat_rows _ (flat_plain rfl))) (.cons (.own _ _ _ _ _ (fun _ => by decide) (fun _ => flat_rows _ (flat_plain rfl))) (.cons (.own _ _ _ _ _ (fun _ => by decide) (fun _ => flat_rows _ (flat_plain rfl))) (.cons (.same _ trivial) (.cons (.same _ trivial) (.cons (.same _ trivial) (.cons (.same _ trivial) (.cons (.own _ _ _ _ _ (fun _ => by decide) (fun _ => flat_rows _ (flat_plain rfl))) (.cons (.own _ _ _ _ _ (fun _ => by decide) (fun _ => flat_strs _)) (.cons (.same _ trivial) (.cons (.own _ _ _ _ _ (fun _ => by decide) (fun _ => flat_rows _ (flat_plain rfl))) (.cons (.own _ _ _ _ _ (fun _ => by decide) (fun h => by cases h)) (.cons (.same _ trivial) (.nil)))))))))))))))))))))))))))
theorem agvTHidden (a : THidden) : ∃ cs, (hvHidden a : V) = .agg cs ∧ cs.length = 26 ∧ allCell cs = true := ⟨_, rfl, rfl, rfl⟩
theorem handListTAddr (cl : Bool) (a : List TAddr) : Hand cl (.own 0 2 .flat (rows kAddr TAddr.row a)) (.sl 2 true (rows kAddr TAddr.row a)) :=
 .own _ _ _ _ _ (fun _ => by decide) (fun _ => flat_rows _ (flat_plain rfl))
set_option maxHeartbeats 2000000 in
theorem ownTHidden (a : THidden) (h : a.size ≤ 1125899906842624) : ∃ n, (Shp.a 26 [(4, [.str]), (5, [.str]), (6, [.str]), (9, kdToken), (11, kdNode), (12, [.int]), (13, kdSlot), (14, kdModule), (15, kdAddr), (20, kdAddr), (21, [.str]), (23, kdKept), (24, kdServer)]).own (ovHidden a) n ∧ n ≤ 36028797018964000 := by
 simp only [THidden.size, TPage.size, TAddr.size, TPolicy.size, TTokenizer.size, TBuilder.size] at h
 have hh : OwnB (.bool a.xReady :: .str a.xPage.xAddr.xHost :: .str a.xPage.xAddr.xPath :: .bool a.xPage.xPolicy.xSet :: .own 4 1 .flat (rStr a.xPage.xPolicy.xScripts) :: .own 5 1 .flat (rStr a.xPage.xPolicy.xStyles) :: .own 6 1 .flat (rStr a.xPage.xPolicy.xImages) :: .str a.xPage.xPolicy.xNonce :: .str a.xPage.xTok.xRest :: .own 9 4 .clean (rows kToken TToken.row a.xPage.xQueue) :: .bool a.xPage.xEnded :: .own 11 4 .clean (rows kNode TNode.row a.xPage.xBuilder.xNodes) :: .own 12 1 .flat (rInt a.xPage.xBuilder.xOpen) :: .own 13 8 .flat (rows kSlot TSlot.row a.xPage.xSlots) :: .own 14 5 .flat (rows kModule TModule.row a.xPage.xMods) :: .own 15 2 .flat (rows kAddr TAddr.row a.xPage.xEntries) :: .int .i64 a.xPage.xBlock :: .int .i64 a.xPage.xInline :: .int .i64 a.xPage.xDeferred :: .int .i64 a.xPage.xEntered :: .own 20 2 .flat (rows kAddr TAddr.row a.xPage.xRan) :: .own 21 1 .flat (rStr a.xPage.xLog) :: .bool a.xPage.xLoaded :: .own 23 8 .flat (rows kKept TKept.row a.xTaken) :: .own 24 2 .clean (rows kServer TServer.row a.xServers) :: .int .i64 a.xNow :: []) [(4, [.str]), (5, [.str]), (6, [.str]), (9, kdToken), (11, kdNode), (12, [.int]), (13, kdSlot), (14, kdModule), (15, kdAddr), (20, kdAddr), (21, [.str]), (23, kdKept), (24, kdServer)] [] _ := OwnB.cons true rfl (by decide) (by decide) (vkb_strs (l := a.xPage.xPolicy.xScripts) (by omega)) (OwnB.cons true rfl (by decide) (by decide) (vkb_strs (l := a.xPage.xPolicy.xStyles) (by omega)) (OwnB.cons true rfl (by decide) (by decide) (vkb_strs (l := a.xPage.xPolicy.xImages) (by omega)) (OwnB.cons false rfl (by decide) (by decide) (vkb_list (l := a.xPage.xQueue) (g := TToken.row) (kds := kdToken) rfl (by decide) (by omega) (fun x hx => vkToken x (by have := sumL_mem (f := TToken.size) hx; omega))) (OwnB.cons false rfl (by decide) (by decide) (vkb_list (l := a.xPage.xBuilder.xNodes) (g := TNode.row) (kds := kdNode) rfl (by decide) (by omega) (fun x hx => vkNode x (by have := sumL_mem (f := TNode.size) hx; omega))) (OwnB.cons true rfl (by decide) (by decide) (vkb_ints (l := a.xPage.xBuilder.xOpen) (by omega)) (OwnB.cons true rfl (by decide) (by decide) (vkb_list (l := a.xPage.xSlots) (g := TSlot.row) (kds := kdSlot) rfl (by decide) (by omega) (fun x hx => vkSlot x (by have := sumL_mem (f := TSlot.size) hx; omega))) (OwnB.cons true rfl (by decide) (by decide) (vkb_list (l := a.xPage.xMods) (g := TModule.row) (kds := kdModule) rfl (by decide) (by omega) (fun x hx => vkModule x (by have := sumL_mem (f := TModule.size) hx; omega))) (OwnB.cons true rfl (by decide) (by decide) (vkb_list (l := a.xPage.xEntries) (g := TAddr.row) (kds := kdAddr) rfl (by decide) (by omega) (fun x hx => vkAddr x (by have := sumL_mem (f := TAddr.size) hx; omega))) (OwnB.cons true rfl (by decide) (by decide) (vkb_list (l := a.xPage.xRan) (g := TAddr.row) (kds := kdAddr) rfl (by decide) (by omega) (fun x hx => vkAddr x (by have := sumL_mem (f := TAddr.size) hx; omega))) (OwnB.cons true rfl (by decide) (by decide) (vkb_strs (l := a.xPage.xLog) (by omega)) (OwnB.cons true rfl (by decide) (by decide) (vkb_list (l := a.xTaken) (g := TKept.row) (kds := kdKept) rfl (by decide) (by omega) (fun x hx => vkKept x (by have := sumL_mem (f := TKept.size) hx; omega))) (OwnB.cons false rfl (by decide) (by decide) (vkb_list (l := a.xServers) (g := TServer.row) (kds := kdServer) rfl (by decide) (by omega) (fun x hx => vkServer x (by have := sumL_mem (f := TServer.size) hx; omega))) (OwnB.nil _ _)))))))))))))
 have hh : OwnB (.bool a.xReady :: .str a.xPage.xAddr.xHost :: .str a.xPage.xAddr.xPath :: .bool a.xPage.xPolicy.xSet :: .own 4 1 .flat (rStr a.xPage.xPolicy.xScripts) :: .own 5 1 .flat (rStr a.xPage.xPolicy.xStyles) :: .own 6 1 .flat (rStr a.xPage.xPolicy.xImages) :: .str a.xPage.xPolicy.xNonce :: .str a.xPage.xTok.xRest :: .own 9 4 .clean (rows kToken TToken.row a.xPage.xQueue) :: .bool a.xPage.xEnded :: .own 11 4 .clean (rows kNode TNode.row a.xPage.xBuilder.xNodes) :: .own 12 1 .flat (rInt a.xPage.xBuilder.xOpen) :: .own 13 8 .flat (rows kSlot TSlot.row a.xPage.xSlots) :: .own 14 5 .flat (rows kModule TModule.row a.xPage.xMods) :: .own 15 2 .flat (rows kAddr TAddr.row a.xPage.xEntries) :: .int .i64 a.xPage.xBlock :: .int .i64 a.xPage.xInline :: .int .i64 a.xPage.xDeferred :: .int .i64 a.xPage.xEntered :: .own 20 2 .flat (rows kAddr TAddr.row a.xPage.xRan) :: .own 21 1 .flat (rStr a.xPage.xLog) :: .bool a.xPage.xLoaded :: .own 23 8 .flat (rows kKept TKept.row a.xTaken) :: .own 24 2 .clean (rows kServer TServer.row a.xServers) :: .int .i64 a.xNow :: []) [(4, [.str]), (5, [.str]), (6, [.str]), (9, kdToken), (11, kdNode), (12, [.int]), (13, kdSlot), (14, kdModule), (15, kdAddr), (20, kdAddr), (21, [.str]), (23, kdKept), (24, kdServer)] [] (32 + 32 * (((a.xPage.xAddr.xHost.length + (a.xPage.xAddr.xPath.length + (0))) + ((((a.xPage.xPolicy.xScripts.length + sumL List.length a.xPage.xPolicy.xScripts)) + (((a.xPage.xPolicy.xStyles.length + sumL List.length a.xPage.xPolicy.xStyles)) + (((a.xPage.xPolicy.xImages.length + sumL List.length a.xPage.xPolicy.xImages)) + (a.xPage.xPolicy.xNonce.length + (0))))) + ((a.xPage.xTok.xRest.length + (0)) + (((a.xPage.xQueue.length + sumL TToken.size a.xPage.xQueue)) + ((((a.xPage.xBuilder.xNodes.length + sumL TNode.size a.xPage.xBuilder.xNodes)) + (a.xPage.xBuilder.xOpen.length + (0))) + (((a.xPage.xSlots.length + sumL TSlot.size a.xPage.xSlots)) + (((a.xPage.xMods.length + sumL TModule.size a.xPage.xMods)) + (((a.xPage.xEntries.length + sumL TAddr.size a.xPage.xEntries)) + (((a.xPage.xRan.length + sumL TAddr.size a.xPage.xRan)) + (((a.xPage.xLog.length + sumL List.length a.xPage.xLog)) + (0))))))))))) + (((a.xTaken.length + sumL TKept.size a.xTaken)) + (((a.xServers.length + sumL TServer.size a.xServers)) + (0))))) := by
  refine OwnB.mono hh ?_
  clear hh h
  generalize a.xPage.xAddr.xHost.length = m0 at ⊢
  generalize a.xPage.xAddr.xPath.length = m1 at ⊢
  generalize a.xPage.xPolicy.xScripts.length = m2 at ⊢
  generalize sumL List.length a.xPage.xPolicy.xScripts = m3 at ⊢
  generalize a.xPage.xPolicy.xStyles.length = m4 at ⊢
  generalize sumL List.length a.xPage.xPolicy.xStyles = m5 at ⊢
  generalize a.xPage.xPolicy.xImages.length = m6 at ⊢
  generalize sumL List.length a.xPage.xPolicy.xImages = m7 at ⊢
  generalize a.xPage.xPolicy.xNonce.length = m8 at ⊢
  generalize a.xPage.xTok.xRest.length = m9 at ⊢
  generalize a.xPage.xQueue.length = m10 at ⊢
  generalize sumL TToken.size a.xPage.xQueue = m11 at ⊢
  generalize a.xPage.xBuilder.xNodes.length = m12 at ⊢
  generalize sumL TNode.size a.xPage.xBuilder.xNodes = m13 at ⊢
  generalize a.xPage.xBuilder.xOpen.length = m14 at ⊢
  generalize a.xPage.xSlots.length = m15 at ⊢
  generalize sumL TSlot.size a.xPage.xSlots = m16 at ⊢
  generalize a.xPage.xMods.length = m17 at ⊢
  generalize sumL TModule.size a.xPage.xMods = m18 at ⊢
  generalize a.xPage.xEntries.length = m19 at ⊢
  generalize sumL TAddr.size a.xPage.xEntries = m20 at ⊢
  generalize a.xPage.xRan.length = m21 at ⊢
  generalize sumL TAddr.size a.xPage.xRan = m22 at ⊢
  generalize a.xPage.xLog.length = m23 at ⊢
  generalize sumL List.length a.xPage.xLog = m24 at ⊢
  generalize a.xTaken.length = m25 at ⊢
  generalize sumL TKept.size a.xTaken = m26 at ⊢
  generalize a.xServers.length = m27 at ⊢
  generalize sumL TServer.size a.xServers = m28 at ⊢
  omega
 obtain ⟨n, h1, h2⟩ := hh.shp rfl
 exact ⟨n, h1, by omega⟩
set_option maxHeartbeats 2000000 in
theorem ownListTAddr (a : List TAddr) (h : (a.length + sumL TAddr.size a) ≤ 1125899906842624) : ∃ n, (Shp.s kdAddr).own (.own 0 2 .flat (rows kAddr TAddr.row a)) n ∧ n ≤ 36028797018964000 := by
 have hh : VKb (.sl 2 true (rows kAddr TAddr.row a)) (.sl kdAddr) _ := (vkb_list (l := a) (g := TAddr.row) (kds := kdAddr) rfl (by decide) (by omega) (fun x hx => vkAddr x (by have := sumL_mem (f := TAddr.size) hx; omega)))
 obtain ⟨n, h1, h2⟩ := shp_s (b := 0) (q := .flat) true (by decide) hh
 exact ⟨n, h1, by omega⟩
theorem d20 (a : THidden) (l : Int) (h0 : 0 ≤ l) (h1 : l ≤ 1048576) (h : a.ok) : D 20 [hvHidden a, .int .i64 l] = some (.int .i64 (szL l a.size)) :=
 fnok_any ok20 (show F20 V a.xReady a.xPage.xAddr.xHost a.xPage.xAddr.xPath a.xPage.xPolicy.xSet (rStr a.xPage.xPolicy.xScripts) (rStr a.xPage.xPolicy.xStyles) (rStr a.xPage.xPolicy.xImages) a.xPage.xPolicy.xNonce a.xPage.xTok.xRest (rows kToken TToken.row a.xPage.xQueue) a.xPage.xEnded (rows kNode TNode.row a.xPage.xBuilder.xNodes) (rInt a.xPage.xBuilder.xOpen) (rows kSlot TSlot.row a.xPage.xSlots) (rows kModule TModule.row a.xPage.xMods) (rows kAddr TAddr.row a.xPage.xEntries) a.xPage.xBlock a.xPage.xInline a.xPage.xDeferred a.xPage.xEntered (rows kAddr TAddr.row a.xPage.xRan) (rStr a.xPage.xLog) a.xPage.xLoaded (rows kKept TKept.row a.xTaken) (rows kServer TServer.row a.xServers) a.xNow l (fun y => some (.int .i64 y)) = _ from szHidden a l h0 h1 h _)
theorem d22 (a : THidden) (h : a.size ≤ 1048576) : D 22 [hvHidden a] = some (ovHidden a) :=
 fnok_any ok22 (show F22 V a.xReady a.xPage.xAddr.xHost a.xPage.xAddr.xPath a.xPage.xPolicy.xSet (rStr a.xPage.xPolicy.xScripts) (rStr a.xPage.xPolicy.xStyles) (rStr a.xPage.xPolicy.xImages) a.xPage.xPolicy.xNonce a.xPage.xTok.xRest (rows kToken TToken.row a.xPage.xQueue) a.xPage.xEnded (rows kNode TNode.row a.xPage.xBuilder.xNodes) (rInt a.xPage.xBuilder.xOpen) (rows kSlot TSlot.row a.xPage.xSlots) (rows kModule TModule.row a.xPage.xMods) (rows kAddr TAddr.row a.xPage.xEntries) a.xPage.xBlock a.xPage.xInline a.xPage.xDeferred a.xPage.xEntered (rows kAddr TAddr.row a.xPage.xRan) (rStr a.xPage.xLog) a.xPage.xLoaded (rows kKept TKept.row a.xTaken) (rows kServer TServer.row a.xServers) a.xNow (fun y0 y1 y2 y3 y4 y5 y6 y7 y8 y9 y10 y11 y12 y13 y14 y15 y16 y17 y18 y19 y20 y21 y22 y23 y24 y25 => some (.agg (.bool y0 :: .str y1 :: .str y2 :: .bool y3 :: .own 4 1 .flat y4 :: .own 5 1 .flat y5 :: .own 6 1 .flat y6 :: .str y7 :: .str y8 :: .own 9 4 .clean y9 :: .bool y10 :: .own 11 4 .clean y11 :: .own 12 1 .flat y12 :: .own 13 8 .flat y13 :: .own 14 5 .flat y14 :: .own 15 2 .flat y15 :: .int .i64 y16 :: .int .i64 y17 :: .int .i64 y18 :: .int .i64 y19 :: .own 20 2 .flat y20 :: .own 21 1 .flat y21 :: .bool y22 :: .own 23 8 .flat y23 :: .own 24 2 .clean y24 :: .int .i64 y25 :: []))) = _ from toHidden a h _)
theorem d21 (a0 : THidden) {r : List TAddr} (e : sHiddenNeeds a0 = some r) : D 21 [hvHidden a0] = some (.own 0 2 .flat (rows kAddr TAddr.row r)) :=
 fnok_any ok21 (show F21 V a0.xReady a0.xPage.xAddr.xHost a0.xPage.xAddr.xPath a0.xPage.xPolicy.xSet (rStr a0.xPage.xPolicy.xScripts) (rStr a0.xPage.xPolicy.xStyles) (rStr a0.xPage.xPolicy.xImages) a0.xPage.xPolicy.xNonce a0.xPage.xTok.xRest (rows kToken TToken.row a0.xPage.xQueue) a0.xPage.xEnded (rows kNode TNode.row a0.xPage.xBuilder.xNodes) (rInt a0.xPage.xBuilder.xOpen) (rows kSlot TSlot.row a0.xPage.xSlots) (rows kModule TModule.row a0.xPage.xMods) (rows kAddr TAddr.row a0.xPage.xEntries) a0.xPage.xBlock a0.xPage.xInline a0.xPage.xDeferred a0.xPage.xEntered (rows kAddr TAddr.row a0.xPage.xRan) (rStr a0.xPage.xLog) a0.xPage.xLoaded (rows kKept TKept.row a0.xTaken) (rows kServer TServer.row a0.xServers) a0.xNow (fun y0 => (some (.own 0 2 .flat y0) : Option V)) = _ from ei_sHiddenNeeds a0 (fun y0 => (some (.own 0 2 .flat y0) : Option V)) _ e)
theorem d23 (a0 : THidden) {r : List TAddr} (e : iHiddenNeeds a0 = some r) : D 23 [hvHidden a0] = some (.own 0 2 .flat (rows kAddr TAddr.row r)) :=
 fnok_any ok23 (show F23 V a0.xReady a0.xPage.xAddr.xHost a0.xPage.xAddr.xPath a0.xPage.xPolicy.xSet (rStr a0.xPage.xPolicy.xScripts) (rStr a0.xPage.xPolicy.xStyles) (rStr a0.xPage.xPolicy.xImages) a0.xPage.xPolicy.xNonce a0.xPage.xTok.xRest (rows kToken TToken.row a0.xPage.xQueue) a0.xPage.xEnded (rows kNode TNode.row a0.xPage.xBuilder.xNodes) (rInt a0.xPage.xBuilder.xOpen) (rows kSlot TSlot.row a0.xPage.xSlots) (rows kModule TModule.row a0.xPage.xMods) (rows kAddr TAddr.row a0.xPage.xEntries) a0.xPage.xBlock a0.xPage.xInline a0.xPage.xDeferred a0.xPage.xEntered (rows kAddr TAddr.row a0.xPage.xRan) (rStr a0.xPage.xLog) a0.xPage.xLoaded (rows kKept TKept.row a0.xTaken) (rows kServer TServer.row a0.xServers) a0.xNow (fun y0 => (some (.own 0 2 .flat y0) : Option V)) = _ from ei_iHiddenNeeds a0 (fun y0 => (some (.own 0 2 .flat y0) : Option V)) _ e)
theorem d24 (a : List TAddr) (h : okL TAddr.ok a) : D 24 [.sl 2 true (rows kAddr TAddr.row a), .sl 2 true (rows kAddr TAddr.row a)] = some (.bool true) :=
 fnok_any ok24 (show F24 V (rows kAddr TAddr.row a) (rows kAddr TAddr.row a) (fun y => some (.bool y)) = _ from (eqAddrS a a h _).trans (by rw [decide_eq_true rfl]))
theorem d25 (a : THidden) (h : a.ok) : D 25 [hvHidden a, hvHidden a] = some (.bool true) :=
 fnok_any ok25 (show F25 V a.xReady a.xPage.xAddr.xHost a.xPage.xAddr.xPath a.xPage.xPolicy.xSet (rStr a.xPage.xPolicy.xScripts) (rStr a.xPage.xPolicy.xStyles) (rStr a.xPage.xPolicy.xImages) a.xPage.xPolicy.xNonce a.xPage.xTok.xRest (rows kToken TToken.row a.xPage.xQueue) a.xPage.xEnded (rows kNode TNode.row a.xPage.xBuilder.xNodes) (rInt a.xPage.xBuilder.xOpen) (rows kSlot TSlot.row a.xPage.xSlots) (rows kModule TModule.row a.xPage.xMods) (rows kAddr TAddr.row a.xPage.xEntries) a.xPage.xBlock a.xPage.xInline a.xPage.xDeferred a.xPage.xEntered (rows kAddr TAddr.row a.xPage.xRan) (rStr a.xPage.xLog) a.xPage.xLoaded (rows kKept TKept.row a.xTaken) (rows kServer TServer.row a.xServers) a.xNow a.xReady a.xPage.xAddr.xHost a.xPage.xAddr.xPath a.xPage.xPolicy.xSet (rStr a.xPage.xPolicy.xScripts) (rStr a.xPage.xPolicy.xStyles) (rStr a.xPage.xPolicy.xImages) a.xPage.xPolicy.xNonce a.xPage.xTok.xRest (rows kToken TToken.row a.xPage.xQueue) a.xPage.xEnded (rows kNode TNode.row a.xPage.xBuilder.xNodes) (rInt a.xPage.xBuilder.xOpen) (rows kSlot TSlot.row a.xPage.xSlots) (rows kModule TModule.row a.xPage.xMods) (rows kAddr TAddr.row a.xPage.xEntries) a.xPage.xBlock a.xPage.xInline a.xPage.xDeferred a.xPage.xEntered (rows kAddr TAddr.row a.xPage.xRan) (rStr a.xPage.xLog) a.xPage.xLoaded (rows kKept TKept.row a.xTaken) (rows kServer TServer.row a.xServers) a.xNow (fun y => some (.bool y)) = _ from (eqHidden a a h _).trans (by rw [decide_eq_true rfl]))
theorem lawg5 {va0THidden vrListTAddr oa0THidden orListTAddr : V} {n3 n4 : Nat} {z0 : Int} (gva0THidden : ∃ cs, va0THidden = .agg cs ∧ cs.length = 26 ∧ allCell cs = true)
  (h0 : D 20 [va0THidden, .int .i64 1048576] = some (.int .i64 z0))
  (h1 : 0 ≤ z0 → D 22 [va0THidden] = some (oa0THidden))
  (h2 : 0 ≤ z0 → Hand false oa0THidden va0THidden)
  (h3 : 0 ≤ z0 → D 21 [va0THidden] = some (orListTAddr))
  (h4 : 0 ≤ z0 → Hand false orListTAddr vrListTAddr)
  (h5 : 0 ≤ z0 → Hand true oa0THidden va0THidden)
  (h6 : 0 ≤ z0 → (Shp.a 26 [(4, [.str]), (5, [.str]), (6, [.str]), (9, kdToken), (11, kdNode), (12, [.int]), (13, kdSlot), (14, kdModule), (15, kdAddr), (20, kdAddr), (21, [.str]), (23, kdKept), (24, kdServer)]).own oa0THidden n3)
  (h7 : 0 ≤ z0 → D 23 [va0THidden] = some (orListTAddr))
  (h8 : 0 ≤ z0 → Hand true orListTAddr vrListTAddr)
  (h9 : 0 ≤ z0 → (Shp.s kdAddr).own orListTAddr n4)
  (h10 : 0 ≤ z0 → D 24 [vrListTAddr, vrListTAddr] = some (.bool true))
  (h11 : 0 ≤ z0 → D 25 [va0THidden, va0THidden] = some (.bool true))
  (h12 : 0 ≤ z0 → n3 ≤ 36028797018964000)
  (h13 : 0 ≤ z0 → n4 ≤ 36028797018964000)
  (R : Nat → Prop) (w : World) (vals : Array Value) (hg : globOk w) (hR : ∀ k, R k → k < w.heap.size) (hl : 1 = vals.size) (hv : ∀ (i : Nat) (v : Value), vals[i]? = some v → Rd w R ([va0THidden, va0THidden, vrListTAddr, va0THidden, vrListTAddr, va0THidden, va0THidden, vrListTAddr].getD i .undef) v) :
  Calls Tryz.prog 5 vals w fun
   | .returned x, w' => Answer R w (.bool true) x w'
   | _, _ => False := by
 refine law_marks (c := cfg) (P := Tryz.prog) (D := D) (mt := mt) (Vh := fun i => [va0THidden, va0THidden, vrListTAddr, va0THidden, vrListTAddr, va0THidden, va0THidden, vrListTAddr].getD i .undef) (Vo := fun i => [.undef, oa0THidden, orListTAddr, oa0THidden, orListTAddr, oa0THidden, oa0THidden, orListTAddr].getD i .undef) (nn := fun j => if j = 3 then n3 else if j = 4 then n4 else 0) (shp := fun j => if j = 3 then .a 26 [(4, [.str]), (5, [.str]), (6, [.str]), (9, kdToken), (11, kdNode), (12, [.int]), (13, kdSlot), (14, kdModule), (15, kdAddr), (20, kdAddr), (21, [.str]), (23, kdKept), (24, kdServer)] else if j = 4 then .s kdAddr else .s []) (ag := [some 26, some 26, none, some 26, none, some 26, some 26, none]) (Z := fun i => ([z0] : List Int).getD i 0) (k := 1) (fn := Tryz.f5)
  (es := [.sz 20 0 (.ki 1048576) 0, .low 0, .mk 22 [0] true 1, .mk 21 [1] true 2, .mk 22 [0] false 3, .mk 23 [3] false 4, .tt 24 [4, 2], .mk 22 [0] true 5, .tt 25 [3, 5], .mark 26 3 [], .tt 24 [4, 2], .mark 27 4 [], .held 28 4 [], .mk 22 [0] true 6, .mk 23 [6] true 7, .tt 24 [7, 2], .held 28 4 []])
  (by kernel_rfl) answers agree (fun j n hj => ?_) Tryz.func5 rfl rfl (by decide) (fun R w => ?_) (by kernel_rfl) R w vals hg hR hl hv
 ·match j, hj with
  | 0, hj => injection hj with hj; injection hj with hj; subst hj; exact gva0THidden
  | 1, hj => injection hj with hj; injection hj with hj; subst hj; exact gva0THidden
  | 2, hj => injection hj with hj; cases hj
  | 3, hj => injection hj with hj; injection hj with hj; subst hj; exact gva0THidden
  | 4, hj => injection hj with hj; cases hj
  | 5, hj => injection hj with hj; injection hj with hj; subst hj; exact gva0THidden
  | 6, hj => injection hj with hj; injection hj with hj; subst hj; exact gva0THidden
  | 7, hj => injection hj with hj; cases hj
  | j + 8, hj => simp at hj
 ·exact LX.H_sz (1048576) rfl (h0) (LX.H_low fun q0 => (LX.H_sh (h1 q0) (h2 q0) (LX.H_sh (h3 q0) (h4 q0) (LX.H_nw (h1 q0) (h5 q0) (h6 q0) (LX.H_nw (h7 q0) (h8 q0) (h9 q0) (LX.H_tt (h10 q0) (LX.H_sh (h1 q0) (h2 q0) (LX.H_tt (h11 q0) (LX.H_mark mk26 (by have b0 := (h12 q0); show 1 + (0) + n3 ≤ _; simp only [Nat.add_zero]; omega) (LX.H_tt (h10 q0) (LX.H_mark mk27 (by have b0 := (h13 q0); show 1 + (0) + n4 ≤ _; simp only [Nat.add_zero]; omega) (LX.H_held hd28 (by have b0 := (h13 q0); show 1 + (0) + n4 ≤ _; simp only [Nat.add_zero]; omega) (LX.H_sh (h1 q0) (h2 q0) (LX.H_sh (h7 q0) (h4 q0) (LX.H_tt (h10 q0) (LX.H_held hd28 (by have b0 := (h13 q0); show 1 + (0) + n4 ≤ _; simp only [Nat.add_zero]; omega) (LX.H_nil)))))))))))))))))
def Told5 (args : List V) : Prop := ∀ (R : Nat → Prop) (w : World) (vals : Array Value), globOk w → (∀ k, R k → k < w.heap.size) → args.length = vals.size → (∀ (i : Nat) (c : V) (v : Value), args[i]? = some c → vals[i]? = some v → Rd w R c v) →
  Calls Tryz.prog 5 vals w fun
   | .returned x, w' => Answer R w (.bool true) x w'
   | _, _ => False
open Classical in
noncomputable def D5 : Nat → List V → Option V := fun f args => if f = 5 ∧ Told5 args then some (.bool true) else D f args
theorem answers5 : Answers Tryz.prog D5 := by
 intro f args r h
 unfold D5 at h
 split at h
 ·rename_i hc
  obtain ⟨rfl, ht⟩ := hc
  injection h with h
  subst h
  exact ⟨⟨Tryz.f5, Tryz.func5, rfl, by decide⟩, ht⟩
 ·exact answers f args r h
theorem law5 (a0 : THidden) (o0 : a0.ok) : D5 5 [hvHidden a0] = some (.bool true) := by
 refine if_pos ⟨rfl, ?_⟩
 intro R w vals hg hR hl hv
 obtain ⟨r, hr⟩ := under (P := a0.size ≤ 1048576) ([] : List TAddr) (fun h => eq_HiddenNeeds a0 o0 h)
 obtain ⟨n3, b3⟩ := under (P := a0.size ≤ 1048576) 0 (fun h => ownTHidden a0 (by omega))
 obtain ⟨n4, b4⟩ := under (P := a0.size ≤ 1048576) 0 (fun h => ownListTAddr r (by have := (hr h).2.2.1; omega))
 have two : ∀ {l : Int} {n : Nat}, 0 ≤ szL l n → (n : Int) ≤ l ∧ szL l n = l - n := fun {l n} h => by
  unfold szL at h ⊢
  split at h
  ·omega
  ·rename_i hc; rw [if_neg hc]; omega
 have hval : ∀ (i : Nat) (v : Value), vals[i]? = some v → Rd w R ([hvHidden a0, hvHidden a0, .sl 2 true (rows kAddr TAddr.row r), hvHidden a0, .sl 2 true (rows kAddr TAddr.row r), hvHidden a0, hvHidden a0, .sl 2 true (rows kAddr TAddr.row r)].getD i .undef) v := fun i v h => by
  have hi : i < vals.size := (Array.getElem?_eq_some_iff.1 h).1
  have hi : i < 1 := by rw [← hl] at hi; exact hi
  match i, hi with
  | 0, _ => exact hv 0 _ v rfl h
 exact lawg5 (agvTHidden a0)
  (d20 a0 1048576 (by omega) (by omega) o0)
  (fun q0 => d22 a0 (by have t0 := two q0; omega))
  (fun q0 => handTHidden _ a0)
  (fun q0 => d21 a0 (hr (by have t0 := two q0; exact by omega)).1)
  (fun q0 => handListTAddr _ r)
  (fun q0 => handTHidden _ a0)
  (fun q0 => (b3 (by have t0 := two q0; exact by omega)).1)
  (fun q0 => d23 a0 (hr (by have t0 := two q0; exact by omega)).2.1)
  (fun q0 => handListTAddr _ r)
  (fun q0 => (b4 (by have t0 := two q0; exact by omega)).1)
  (fun q0 => d24 r (hr (by have t0 := two q0; exact by omega)).2.2.2)
  (fun q0 => d25 a0 o0)
  (fun q0 => (b3 (by have t0 := two q0; exact by omega)).2)
  (fun q0 => (b4 (by have t0 := two q0; exact by omega)).2)
  R w vals hg hR hl hval
end Go.Am

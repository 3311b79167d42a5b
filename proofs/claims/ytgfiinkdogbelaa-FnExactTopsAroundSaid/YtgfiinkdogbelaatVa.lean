/-
  Laws that mark what they were given and what they were handed: the data's kinds, the functions that mark and that look for marks, the laws' own code. Written by program (walklaw3.py).
-/
import Derived.Test.YtgfiinkdogbelaatDel
import Derived.Test.YtgfiinkdogbelaatTa
import Derived.Test.YtgfiinkdogbelaatAmTree
import Derived.Test.YtgfiinkdogbelaatAmVk
set_option linter.unusedVariables false
set_option linter.unusedSimpArgs false
set_option maxRecDepth 100000
namespace Go.Am
open Go Go.Proofs
theorem textOk : TextOk Try.prog mt 29 := by
 refine ⟨⟨Try.f29, Try.func29, rfl, by decide⟩, fun k w hk hg => ?_⟩
 have hd : D 29 [.int .i64 (k : Int)] = some (.str (mt k)) := fnok_any ok29 (show F29 V (k : Int) (fun y => some (.str y)) = _ from ei_lmarkText (k : Int) (fun y => some (V.str y)) _ (mt_eq k hk))
 refine ((answers _ _ _ hd).2 (fun _ => False) w #[.int .i64 (k : Int)] hg (fun _ h => h.elim) rfl (fun i c v h1 h2 => ?_)).mono (fun e w' h => ?_)
 ·match i, h1, h2 with
  | 0, h1, h2 => injection h1 with h1; injection h2 with h2; subst h1; subst h2; exact .int _ _
  | i + 1, h1, _ => simp at h1
 ·cases e with
  | returned x =>
   obtain ⟨Γ, hv, _⟩ := h.val
   cases hv with
   | rd _ _ hr => cases hr with | str _ s hs => exact ⟨s, rfl, hs, kept_of h⟩
  | _ => exact h.elim
def kdFile : List Kd := [.str, .int, .int, .str, .int, .bool, .str]
theorem vkFile (a : TFile) (h : a.size ≤ 1125899906842624) : VKrow (cellsEnc kFile a.row) kdFile (32 + 32 * a.size) := by
 simp only [TFile.size, TResponse.size] at h ⊢
 have hh : VKrow [.str a.xPath, .int .i64 a.xResponse.xStatus, .int .i64 a.xResponse.xKind, .str a.xResponse.xBody, .int .i64 a.xResponse.xAge, .bool a.xResponse.xShares, .str a.xResponse.xPolicy] kdFile _ := .cons (vk_s a.xPath) (.cons (vk_i a.xResponse.xStatus) (.cons (vk_i a.xResponse.xKind) (.cons (vk_s a.xResponse.xBody) (.cons (vk_i a.xResponse.xAge) (.cons (vk_b a.xResponse.xShares) (.cons (vk_s a.xResponse.xPolicy) (.nil 0)))))))
 refine VKrow.mono hh ?_
 clear hh h
 omega
def kdServer : List Kd := [.str, .sl kdFile]
theorem vkServer (a : TServer) (h : a.size ≤ 1125899906842624) : VKrow (cellsEnc kServer a.row) kdServer (32 + 32 * a.size) := by
 simp only [TServer.size] at h ⊢
 have hh : VKrow [.str a.xHost, .sl 7 true (rows kFile TFile.row a.xFiles)] kdServer _ := .cons (vk_s a.xHost) (.cons (vkb_list (l := a.xFiles) (g := TFile.row) (kds := kdFile) rfl (by decide) (by omega) (fun x hx => vkFile x (by have := sumL_mem (f := TFile.size) hx; omega))) (.nil 0))
 refine VKrow.mono hh ?_
 clear hh h
 omega
def kdEntry : List Kd := [.str, .str, .str, .int, .int, .str, .int, .bool, .str, .int]
theorem vkEntry (a : TEntry) (h : a.size ≤ 1125899906842624) : VKrow (cellsEnc kEntry a.row) kdEntry (32 + 32 * a.size) := by
 simp only [TEntry.size, TAddr.size, TResponse.size] at h ⊢
 have hh : VKrow [.str a.xTop, .str a.xTo.xHost, .str a.xTo.xPath, .int .i64 a.xResponse.xStatus, .int .i64 a.xResponse.xKind, .str a.xResponse.xBody, .int .i64 a.xResponse.xAge, .bool a.xResponse.xShares, .str a.xResponse.xPolicy, .int .i64 a.xUntil] kdEntry _ := .cons (vk_s a.xTop) (.cons (vk_s a.xTo.xHost) (.cons (vk_s a.xTo.xPath) (.cons (vk_i a.xResponse.xStatus) (.cons (vk_i a.xResponse.xKind) (.cons (vk_s a.xResponse.xBody) (.cons (vk_i a.xResponse.xAge) (.cons (vk_b a.xResponse.xShares) (.cons (vk_s a.xResponse.xPolicy) (.cons (vk_i a.xUntil) (.nil 0))))))))))
 refine VKrow.mono hh ?_
 clear hh h
 omega
def kdSent : List Kd := [.str, .str, .str, .bool]
theorem vkSent (a : TSent) (h : a.size ≤ 1125899906842624) : VKrow (cellsEnc kSent a.row) kdSent (32 + 32 * a.size) := by
 simp only [TSent.size, TAddr.size] at h ⊢
 have hh : VKrow [.str a.xTop, .str a.xTo.xHost, .str a.xTo.xPath, .bool a.xGuess] kdSent _ := .cons (vk_s a.xTop) (.cons (vk_s a.xTo.xHost) (.cons (vk_s a.xTo.xPath) (.cons (vk_b a.xGuess) (.nil 0))))
 refine VKrow.mono hh ?_
 clear hh h
 omega
theorem mk44 : MarkOk Try.prog mt 44 (.sl kdFile) :=
 mark_sl (c := cfg) (subs := []) agree textOk (fun _ h => absurd h List.not_mem_nil) Try.func44 rfl rfl rfl (by kernel_rfl)
theorem mk26 : MarkOk Try.prog mt 26 (.sl kdServer) :=
 mark_sl (c := cfg) (subs := [(44, .sl kdFile)]) agree textOk (List.forall_mem_cons.2 ⟨mk44, fun _ h => absurd h List.not_mem_nil⟩) Try.func26 rfl rfl rfl (by kernel_rfl)
theorem mk45 : MarkOk Try.prog mt 45 (.sl kdEntry) :=
 mark_sl (c := cfg) (subs := []) agree textOk (fun _ h => absurd h List.not_mem_nil) Try.func45 rfl rfl rfl (by kernel_rfl)
theorem mk27 : MarkAOk Try.prog mt 27 1 [(0, kdEntry)] :=
 mark_ag (c := cfg) (subs := [(45, kdEntry)]) (asubs := []) agree (List.forall_mem_cons.2 ⟨mk45, fun _ h => absurd h List.not_mem_nil⟩) (fun _ h => absurd h List.not_mem_nil) Try.func27 rfl rfl rfl (by kernel_rfl)
theorem mk28 : MarkOk Try.prog mt 28 (.sl kdSent) :=
 mark_sl (c := cfg) (subs := []) agree textOk (fun _ h => absurd h List.not_mem_nil) Try.func28 rfl rfl rfl (by kernel_rfl)
theorem mk10 : MarkAOk Try.prog mt 10 4 [(0, kdServer), (1, kdEntry), (2, kdSent)] :=
 mark_ag (c := cfg) (subs := [(26, kdServer), (28, kdSent)]) (asubs := [⟨27, 1, [(0, kdEntry)]⟩]) agree (List.forall_mem_cons.2 ⟨mk26, List.forall_mem_cons.2 ⟨mk28, fun _ h => absurd h List.not_mem_nil⟩⟩) (List.forall_mem_cons.2 ⟨mk27, fun _ h => absurd h List.not_mem_nil⟩) Try.func10 rfl rfl rfl (by kernel_rfl)
theorem mk11 : MarkOk Try.prog mt 11 (.sl [.str]) :=
 mark_sl (c := cfg) (subs := []) agree textOk (fun _ h => absurd h List.not_mem_nil) Try.func11 rfl rfl rfl (by kernel_rfl)
theorem hd12 : HeldOk Try.prog mt 12 (.sl [.str]) :=
 held_sl (c := cfg) (subs := []) (by kernel_rfl) agree textOk (fun _ h => absurd h List.not_mem_nil) Try.func12 rfl rfl rfl (by kernel_rfl)
theorem handTNet (cl : Bool) (a : TNet) : Hand cl (.agg [.own 0 2 .clean (rows kServer TServer.row a.xServers), .own 1 10 .flat (rows kEntry TEntry.row a.xCache.xEntries), .own 2 4 .flat (rows kSent TSent.row a.xLog), .int .i64 a.xNow]) (.agg [.sl 2 false (rows kServer TServer.row a.xServers), .sl 10 true (rows kEntry TEntry.row a.xCache.xEntries), .sl 4 true (rows kSent TSent.row a.xLog), .int .i64 a.xNow]) :=
 Hands.agg (.cons (.own _ _ _ _ _ (fun _ => by decide) (fun h => by cases h)) (.cons (.own _ _ _ _ _ (fun _ => by decide) (fun _ => flat_rows _ (flat_plain rfl))) (.cons (.own _ _ _ _ _ (fun _ => by decide) (fun _ => flat_rows _ (flat_plain rfl))) (.cons (.same _ trivial) (.nil)))))
theorem agvTNet (a : TNet) : ∃ cs, (.agg [.sl 2 false (rows kServer TServer.row a.xServers), .sl 10 true (rows kEntry TEntry.row a.xCache.xEntries), .sl 4 true (rows kSent TSent.row a.xLog), .int .i64 a.xNow] : V) = .agg cs ∧ cs.length = 4 ∧ allCell cs = true := ⟨_, rfl, rfl, rfl⟩
theorem handListListUInt8 (cl : Bool) (a : List (List UInt8)) : Hand cl (.own 0 1 .flat (rStr a)) (.sl 1 true (rStr a)) :=
 .own _ _ _ _ _ (fun _ => by decide) (fun _ => flat_strs _)
set_option maxHeartbeats 2000000 in
theorem ownTNet (a : TNet) (h : a.size ≤ 1125899906842624) : ∃ n, (Shp.a 4 [(0, kdServer), (1, kdEntry), (2, kdSent)]).own (.agg [.own 0 2 .clean (rows kServer TServer.row a.xServers), .own 1 10 .flat (rows kEntry TEntry.row a.xCache.xEntries), .own 2 4 .flat (rows kSent TSent.row a.xLog), .int .i64 a.xNow]) n ∧ n ≤ 36028797018964000 := by
 simp only [TNet.size, TCache.size] at h
 have hh : OwnB [.own 0 2 .clean (rows kServer TServer.row a.xServers), .own 1 10 .flat (rows kEntry TEntry.row a.xCache.xEntries), .own 2 4 .flat (rows kSent TSent.row a.xLog), .int .i64 a.xNow] [(0, kdServer), (1, kdEntry), (2, kdSent)] [] _ := OwnB.cons false rfl (by decide) (by decide) (vkb_list (l := a.xServers) (g := TServer.row) (kds := kdServer) rfl (by decide) (by omega) (fun x hx => vkServer x (by have := sumL_mem (f := TServer.size) hx; omega))) (OwnB.cons true rfl (by decide) (by decide) (vkb_list (l := a.xCache.xEntries) (g := TEntry.row) (kds := kdEntry) rfl (by decide) (by omega) (fun x hx => vkEntry x (by have := sumL_mem (f := TEntry.size) hx; omega))) (OwnB.cons true rfl (by decide) (by decide) (vkb_list (l := a.xLog) (g := TSent.row) (kds := kdSent) rfl (by decide) (by omega) (fun x hx => vkSent x (by have := sumL_mem (f := TSent.size) hx; omega))) (OwnB.nil _ _)))
 have hh : OwnB [.own 0 2 .clean (rows kServer TServer.row a.xServers), .own 1 10 .flat (rows kEntry TEntry.row a.xCache.xEntries), .own 2 4 .flat (rows kSent TSent.row a.xLog), .int .i64 a.xNow] [(0, kdServer), (1, kdEntry), (2, kdSent)] [] (32 + 32 * (((a.xServers.length + sumL TServer.size a.xServers)) + ((((a.xCache.xEntries.length + sumL TEntry.size a.xCache.xEntries)) + (0)) + (((a.xLog.length + sumL TSent.size a.xLog)) + (0))))) := by
  refine OwnB.mono hh ?_
  clear hh h
  generalize a.xServers.length = m0 at ⊢
  generalize sumL TServer.size a.xServers = m1 at ⊢
  generalize a.xCache.xEntries.length = m2 at ⊢
  generalize sumL TEntry.size a.xCache.xEntries = m3 at ⊢
  generalize a.xLog.length = m4 at ⊢
  generalize sumL TSent.size a.xLog = m5 at ⊢
  omega
 obtain ⟨n, h1, h2⟩ := hh.shp rfl
 exact ⟨n, h1, by omega⟩
set_option maxHeartbeats 2000000 in
theorem ownListListUInt8 (a : List (List UInt8)) (h : (a.length + sumL List.length a) ≤ 1125899906842624) : ∃ n, (Shp.s [.str]).own (.own 0 1 .flat (rStr a)) n ∧ n ≤ 36028797018964000 := by
 have hh : VKb (.sl 1 true (rStr a)) (.sl [.str]) _ := (vkb_strs (l := a) (by omega))
 obtain ⟨n, h1, h2⟩ := shp_s (b := 0) (q := .flat) true (by decide) hh
 exact ⟨n, h1, by omega⟩
theorem d4 (a : TNet) (l : Int) (h0 : 0 ≤ l) (h1 : l ≤ 1048576) (h : a.ok) : D 4 [.agg [.sl 2 false (rows kServer TServer.row a.xServers), .sl 10 true (rows kEntry TEntry.row a.xCache.xEntries), .sl 4 true (rows kSent TSent.row a.xLog), .int .i64 a.xNow], .int .i64 l] = some (.int .i64 (szL l a.size)) :=
 fnok_any ok4 (show F4 V (rows kServer TServer.row a.xServers) (rows kEntry TEntry.row a.xCache.xEntries) (rows kSent TSent.row a.xLog) a.xNow l (fun y => some (.int .i64 y)) = _ from szNet a l h0 h1 h _)
theorem d6 (a : TNet) (h : a.size ≤ 1048576) : D 6 [.agg [.sl 2 false (rows kServer TServer.row a.xServers), .sl 10 true (rows kEntry TEntry.row a.xCache.xEntries), .sl 4 true (rows kSent TSent.row a.xLog), .int .i64 a.xNow]] = some (.agg [.own 0 2 .clean (rows kServer TServer.row a.xServers), .own 1 10 .flat (rows kEntry TEntry.row a.xCache.xEntries), .own 2 4 .flat (rows kSent TSent.row a.xLog), .int .i64 a.xNow]) :=
 fnok_any ok6 (show F6 V (rows kServer TServer.row a.xServers) (rows kEntry TEntry.row a.xCache.xEntries) (rows kSent TSent.row a.xLog) a.xNow (fun y0 y1 y2 y3 => some (.agg [.own 0 2 .clean y0, .own 1 10 .flat y1, .own 2 4 .flat y2, .int .i64 y3])) = _ from toNet a h _)
theorem d5 (a0 : TNet) (a1 : List UInt8) {r : List (List UInt8)} (e : sTopsAround a0 a1 = some r) : D 5 [.agg [.sl 2 false (rows kServer TServer.row a0.xServers), .sl 10 true (rows kEntry TEntry.row a0.xCache.xEntries), .sl 4 true (rows kSent TSent.row a0.xLog), .int .i64 a0.xNow], .str a1] = some (.own 0 1 .flat (rStr r)) :=
 fnok_any ok5 (show F5 V (rows kServer TServer.row a0.xServers) (rows kEntry TEntry.row a0.xCache.xEntries) (rows kSent TSent.row a0.xLog) a0.xNow a1 (fun y0 => (some (.own 0 1 .flat y0) : Option V)) = _ from ei_sTopsAround a0 a1 (fun y0 => (some (.own 0 1 .flat y0) : Option V)) _ e)
theorem d8 (a : List (List UInt8)) (h : okL okS a) : D 8 [.sl 1 true (rStr a), .sl 1 true (rStr a)] = some (.bool true) :=
 fnok_any ok8 (show F8 V (rStr a) (rStr a) (fun y => some (.bool y)) = _ from (eqStringS a a h _).trans (by rw [decide_eq_true rfl]))
theorem d9 (a : TNet) (h : a.ok) : D 9 [.agg [.sl 2 false (rows kServer TServer.row a.xServers), .sl 10 true (rows kEntry TEntry.row a.xCache.xEntries), .sl 4 true (rows kSent TSent.row a.xLog), .int .i64 a.xNow], .agg [.sl 2 false (rows kServer TServer.row a.xServers), .sl 10 true (rows kEntry TEntry.row a.xCache.xEntries), .sl 4 true (rows kSent TSent.row a.xLog), .int .i64 a.xNow]] = some (.bool true) :=
 fnok_any ok9 (show F9 V (rows kServer TServer.row a.xServers) (rows kEntry TEntry.row a.xCache.xEntries) (rows kSent TSent.row a.xLog) a.xNow (rows kServer TServer.row a.xServers) (rows kEntry TEntry.row a.xCache.xEntries) (rows kSent TSent.row a.xLog) a.xNow (fun y => some (.bool y)) = _ from (eqNet a a h _).trans (by rw [decide_eq_true rfl]))
noncomputable def DX : Nat → List V → Option V := fun f args => if f = 7 then aroundV (D 21) args else D f args
theorem answersX : Answers Try.prog DX := by
 intro f args r h
 unfold DX at h
 split at h
 ·rename_i hf
  subst hf
  exact Try.around_ok answers args r h
 ·exact answers f args r h
theorem dx {f : Nat} {args : List V} {r : V} (hf : f ≠ 7) (h : D f args = some r) : DX f args = some r := (if_neg hf).trans h
theorem d21 (a0 : TNet) (a1 : List UInt8) {r : List (List UInt8)} (e : isortedTops a0 a1 = some r) : D 21 [.agg [.sl 2 false (rows kServer TServer.row a0.xServers), .sl 10 true (rows kEntry TEntry.row a0.xCache.xEntries), .sl 4 true (rows kSent TSent.row a0.xLog), .int .i64 a0.xNow], .str a1] = some (.own 0 1 .flat (rStr r)) :=
 fnok_any ok21 (show F21 V (rows kServer TServer.row a0.xServers) (rows kEntry TEntry.row a0.xCache.xEntries) (rows kSent TSent.row a0.xLog) a0.xNow a1 (fun y => some (.own 0 1 .flat y)) = _ from ei_isortedTops a0 a1 (fun y => (some (.own 0 1 .flat y) : Option V)) _ e)
theorem d7 (a0 : TNet) (a1 : List UInt8) {r : List (List UInt8)} (e : iTopsAround a0 a1 = some r) : DX 7 [.agg [.sl 2 false (rows kServer TServer.row a0.xServers), .sl 10 true (rows kEntry TEntry.row a0.xCache.xEntries), .sl 4 true (rows kSent TSent.row a0.xLog), .int .i64 a0.xNow], .str a1] = some (.own 0 1 .flat (rStr r)) := by
 obtain ⟨l, h1, h2⟩ := bind_inv e
 refine (if_pos rfl).trans ?_
 show (D 21 [.agg [.sl 2 false (rows kServer TServer.row a0.xServers), .sl 10 true (rows kEntry TEntry.row a0.xCache.xEntries), .sl 4 true (rows kSent TSent.row a0.xLog), .int .i64 a0.xNow], .str a1]).bind (aroundV1 a1) = _
 rw [d21 a0 a1 h1, Option.bind_some]
 split at h2
 ·rename_i hl
  injection h2 with h2
  subst h2
  unfold aroundV1
  simp only [strsOf_rStr]
  rw [if_pos hl]
 ·cases h2
theorem lawg3 {va0TNet va1ListUInt8 vrListListUInt8 oa0TNet orListListUInt8 : V} {n4 n5 : Nat} {z0 z1 : Int} (gva0TNet : ∃ cs, va0TNet = .agg cs ∧ cs.length = 4 ∧ allCell cs = true)
  (h0 : ∃ s, va1ListUInt8 = .str s ∧ z0 = s.length)
  (h1 : z0 ≤ 1048576 → DX 4 [va0TNet, .int .i64 1048576] = some (.int .i64 z1))
  (h2 : z0 ≤ 1048576 → 0 ≤ z1 → DX 6 [va0TNet] = some (oa0TNet))
  (h3 : z0 ≤ 1048576 → 0 ≤ z1 → Hand false oa0TNet va0TNet)
  (h4 : z0 ≤ 1048576 → 0 ≤ z1 → DX 5 [va0TNet, va1ListUInt8] = some (orListListUInt8))
  (h5 : z0 ≤ 1048576 → 0 ≤ z1 → Hand false orListListUInt8 vrListListUInt8)
  (h6 : z0 ≤ 1048576 → 0 ≤ z1 → Hand true oa0TNet va0TNet)
  (h7 : z0 ≤ 1048576 → 0 ≤ z1 → (Shp.a 4 [(0, kdServer), (1, kdEntry), (2, kdSent)]).own oa0TNet n4)
  (h8 : z0 ≤ 1048576 → 0 ≤ z1 → DX 7 [va0TNet, va1ListUInt8] = some (orListListUInt8))
  (h9 : z0 ≤ 1048576 → 0 ≤ z1 → Hand true orListListUInt8 vrListListUInt8)
  (h10 : z0 ≤ 1048576 → 0 ≤ z1 → (Shp.s [.str]).own orListListUInt8 n5)
  (h11 : z0 ≤ 1048576 → 0 ≤ z1 → DX 8 [vrListListUInt8, vrListListUInt8] = some (.bool true))
  (h12 : z0 ≤ 1048576 → 0 ≤ z1 → DX 9 [va0TNet, va0TNet] = some (.bool true))
  (h13 : z0 ≤ 1048576 → 0 ≤ z1 → n4 ≤ 36028797018964000)
  (h14 : z0 ≤ 1048576 → 0 ≤ z1 → n5 ≤ 36028797018964000)
  (R : Nat → Prop) (w : World) (vals : Array Value) (hg : globOk w) (hR : ∀ k, R k → k < w.heap.size) (hl : 2 = vals.size) (hv : ∀ (i : Nat) (v : Value), vals[i]? = some v → Rd w R ([va0TNet, va1ListUInt8, va0TNet, vrListListUInt8, va0TNet, vrListListUInt8, va0TNet, va0TNet, vrListListUInt8].getD i .undef) v) :
  Calls Try.prog 3 vals w fun
   | .returned x, w' => Answer R w (.bool true) x w'
   | _, _ => False := by
 refine law_marks (c := cfg) (P := Try.prog) (D := DX) (mt := mt) (Vh := fun i => [va0TNet, va1ListUInt8, va0TNet, vrListListUInt8, va0TNet, vrListListUInt8, va0TNet, va0TNet, vrListListUInt8].getD i .undef) (Vo := fun i => [.undef, .undef, oa0TNet, orListListUInt8, oa0TNet, orListListUInt8, oa0TNet, oa0TNet, orListListUInt8].getD i .undef) (nn := fun j => if j = 4 then n4 else if j = 5 then n5 else 0) (shp := fun j => if j = 4 then .a 4 [(0, kdServer), (1, kdEntry), (2, kdSent)] else if j = 5 then .s [.str] else .s []) (ag := [some 4, none, some 4, none, some 4, none, some 4, some 4, none]) (Z := fun i => ([z0, z1] : List Int).getD i 0) (k := 2) (fn := Try.f3)
  (es := [.len 1 0 true, .big 0 1048576, .sz 4 0 (.ki 1048576) 1, .low 1, .mk 6 [0] true 2, .mk 5 [2, 1] true 3, .mk 6 [0] false 4, .mk 7 [4, 1] false 5, .tt 8 [5, 3], .mk 6 [0] true 6, .tt 9 [4, 6], .mark 10 4 [], .tt 8 [5, 3], .mark 11 5 [], .held 12 5 [], .mk 6 [0] true 7, .mk 7 [7, 1] true 8, .tt 8 [8, 3], .held 12 5 []])
  (by kernel_rfl) answersX agree (fun j n hj => ?_) Try.func3 rfl rfl (by decide) (fun R w => ?_) (by kernel_rfl) R w vals hg hR hl hv
 ·match j, hj with
  | 0, hj => injection hj with hj; injection hj with hj; subst hj; exact gva0TNet
  | 1, hj => injection hj with hj; cases hj
  | 2, hj => injection hj with hj; injection hj with hj; subst hj; exact gva0TNet
  | 3, hj => injection hj with hj; cases hj
  | 4, hj => injection hj with hj; injection hj with hj; subst hj; exact gva0TNet
  | 5, hj => injection hj with hj; cases hj
  | 6, hj => injection hj with hj; injection hj with hj; subst hj; exact gva0TNet
  | 7, hj => injection hj with hj; injection hj with hj; subst hj; exact gva0TNet
  | 8, hj => injection hj with hj; cases hj
  | j + 9, hj => simp at hj
 ·exact LX.H_lenS (h0) (LX.H_big fun q0 => (LX.H_sz (1048576) rfl (h1 q0) (LX.H_low fun q1 => (LX.H_sh (h2 q0 q1) (h3 q0 q1) (LX.H_sh (h4 q0 q1) (h5 q0 q1) (LX.H_nw (h2 q0 q1) (h6 q0 q1) (h7 q0 q1) (LX.H_nw (h8 q0 q1) (h9 q0 q1) (h10 q0 q1) (LX.H_tt (h11 q0 q1) (LX.H_sh (h2 q0 q1) (h3 q0 q1) (LX.H_tt (h12 q0 q1) (LX.H_mark mk10 (by have b0 := (h13 q0 q1); show 1 + (0) + n4 ≤ _; simp only [Nat.add_zero]; omega) (LX.H_tt (h11 q0 q1) (LX.H_mark mk11 (by have b0 := (h14 q0 q1); show 1 + (0) + n5 ≤ _; simp only [Nat.add_zero]; omega) (LX.H_held hd12 (by have b0 := (h14 q0 q1); show 1 + (0) + n5 ≤ _; simp only [Nat.add_zero]; omega) (LX.H_sh (h2 q0 q1) (h3 q0 q1) (LX.H_sh (h8 q0 q1) (h5 q0 q1) (LX.H_tt (h11 q0 q1) (LX.H_held hd12 (by have b0 := (h14 q0 q1); show 1 + (0) + n5 ≤ _; simp only [Nat.add_zero]; omega) (LX.H_nil)))))))))))))))))))
def Told3 (args : List V) : Prop := ∀ (R : Nat → Prop) (w : World) (vals : Array Value), globOk w → (∀ k, R k → k < w.heap.size) → args.length = vals.size → (∀ (i : Nat) (c : V) (v : Value), args[i]? = some c → vals[i]? = some v → Rd w R c v) →
  Calls Try.prog 3 vals w fun
   | .returned x, w' => Answer R w (.bool true) x w'
   | _, _ => False
open Classical in
noncomputable def D3 : Nat → List V → Option V := fun f args => if f = 3 ∧ Told3 args then some (.bool true) else DX f args
theorem answers3 : Answers Try.prog D3 := by
 intro f args r h
 unfold D3 at h
 split at h
 ·rename_i hc
  obtain ⟨rfl, ht⟩ := hc
  injection h with h
  subst h
  exact ⟨⟨Try.f3, Try.func3, rfl, by decide⟩, ht⟩
 ·exact answersX f args r h
theorem law3 (a0 : TNet) (a1 : List UInt8) (o0 : a0.ok) (o1 : okS a1) : D3 3 [.agg [.sl 2 false (rows kServer TServer.row a0.xServers), .sl 10 true (rows kEntry TEntry.row a0.xCache.xEntries), .sl 4 true (rows kSent TSent.row a0.xLog), .int .i64 a0.xNow], .str a1] = some (.bool true) := by
 refine if_pos ⟨rfl, ?_⟩
 intro R w vals hg hR hl hv
 obtain ⟨r, hr⟩ := under (P := a0.size ≤ 1048576 ∧ a1.length ≤ 1048576) ([] : List (List UInt8)) (fun h => eq_TopsAround a0 a1 o0 o1 h)
 obtain ⟨n4, b4⟩ := under (P := a0.size ≤ 1048576 ∧ a1.length ≤ 1048576) 0 (fun h => ownTNet a0 (by omega))
 obtain ⟨n5, b5⟩ := under (P := a0.size ≤ 1048576 ∧ a1.length ≤ 1048576) 0 (fun h => ownListListUInt8 r (by have := (hr h).2.2.1; omega))
 have two : ∀ {l : Int} {n : Nat}, 0 ≤ szL l n → (n : Int) ≤ l ∧ szL l n = l - n := fun {l n} h => by
  unfold szL at h ⊢
  split at h
  ·omega
  ·rename_i hc; rw [if_neg hc]; omega
 have hval : ∀ (i : Nat) (v : Value), vals[i]? = some v → Rd w R ([.agg [.sl 2 false (rows kServer TServer.row a0.xServers), .sl 10 true (rows kEntry TEntry.row a0.xCache.xEntries), .sl 4 true (rows kSent TSent.row a0.xLog), .int .i64 a0.xNow], .str a1, .agg [.sl 2 false (rows kServer TServer.row a0.xServers), .sl 10 true (rows kEntry TEntry.row a0.xCache.xEntries), .sl 4 true (rows kSent TSent.row a0.xLog), .int .i64 a0.xNow], .sl 1 true (rStr r), .agg [.sl 2 false (rows kServer TServer.row a0.xServers), .sl 10 true (rows kEntry TEntry.row a0.xCache.xEntries), .sl 4 true (rows kSent TSent.row a0.xLog), .int .i64 a0.xNow], .sl 1 true (rStr r), .agg [.sl 2 false (rows kServer TServer.row a0.xServers), .sl 10 true (rows kEntry TEntry.row a0.xCache.xEntries), .sl 4 true (rows kSent TSent.row a0.xLog), .int .i64 a0.xNow], .agg [.sl 2 false (rows kServer TServer.row a0.xServers), .sl 10 true (rows kEntry TEntry.row a0.xCache.xEntries), .sl 4 true (rows kSent TSent.row a0.xLog), .int .i64 a0.xNow], .sl 1 true (rStr r)].getD i .undef) v := fun i v h => by
  have hi : i < vals.size := (Array.getElem?_eq_some_iff.1 h).1
  have hi : i < 2 := by rw [← hl] at hi; exact hi
  match i, hi with
  | 0, _ => exact hv 0 _ v rfl h
  | 1, _ => exact hv 1 _ v rfl h
 exact lawg3 (agvTNet a0)
  (⟨_, rfl, rfl⟩)
  (fun q0 => dx (by decide) (d4 a0 1048576 (by omega) (by omega) o0))
  (fun q0 q1 => dx (by decide) (d6 a0 (by have t1 := two q1; omega)))
  (fun q0 q1 => handTNet _ a0)
  (fun q0 q1 => dx (by decide) (d5 a0 a1 (hr (by have t1 := two q1; exact ⟨by omega, by omega⟩)).1))
  (fun q0 q1 => handListListUInt8 _ r)
  (fun q0 q1 => handTNet _ a0)
  (fun q0 q1 => (b4 (by have t1 := two q1; exact ⟨by omega, by omega⟩)).1)
  (fun q0 q1 => d7 a0 a1 (hr (by have t1 := two q1; exact ⟨by omega, by omega⟩)).2.1)
  (fun q0 q1 => handListListUInt8 _ r)
  (fun q0 q1 => (b5 (by have t1 := two q1; exact ⟨by omega, by omega⟩)).1)
  (fun q0 q1 => dx (by decide) (d8 r (hr (by have t1 := two q1; exact ⟨by omega, by omega⟩)).2.2.2))
  (fun q0 q1 => dx (by decide) (d9 a0 o0))
  (fun q0 q1 => (b4 (by have t1 := two q1; exact ⟨by omega, by omega⟩)).2)
  (fun q0 q1 => (b5 (by have t1 := two q1; exact ⟨by omega, by omega⟩)).2)
  R w vals hg hR hl hval
end Go.Am

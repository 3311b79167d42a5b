/-
  Functions of Go's library: what they answer, by their contracts. Written by program (ext.py).
-/
import Derived.Shelf.SlLaysF0
import Derived.Test.YtbpoaadkjjfmgaaGreatDoorProg
import Derived.Test.YtbpoaadkjjfmgaaGreatDoorAmExt3
import Derived.Test.YtbpoaadkjjfmgaaGreatDoorAmComp
import Derived.Test.YtbpoaadkjjfmgaaGreatDoorShelf
import Derived.Shelf.SlSortCmp.WholeK
import Derived.Deep.AppendLies
import Derived.Laws.StructEq
import Derived.RegionTactic
import Derived.WalkKit
import Derived.Test.YtbpoaadkjjfmgaaGreatDoorWalkR
import Derived.Test.YtbpoaadkjjfmgaaGreatDoorAmCfg
section
section
namespace Go.Proofs
open Go.Shelf
def Tryz.sortAddr_ren : Go.Shelf.Ren := ⟨fun | 6 => 166 | 15 => 188 | 14 => 187 | 28 => 207 | 29 => 208 | 20 => 199 | 21 => 200 | 22 => 201 | 23 => 202 | 24 => 203 | 25 => 204 | 26 => 205 | 27 => 206 | 46 => 221 | 47 => 222 | 48 => 223 | 49 => 224 | 50 => 225 | 57 => 235 | n => n, fun | 22 => 75 | 24 => 66 | 25 => 251 | 3 => 3 | 39 => 275 | 0 => 0 | 53 => 296 | 55 => 298 | 4 => 4 | 46 => 289 | 45 => 288 | 50 => 293 | 5 => 5 | 9 => 9 | 66 => 312 | 70 => 316 | 76 => 324 | 77 => 325 | n => n, fun | n => n⟩
theorem Tryz.sortAddr : Go.Proofs.SlLaysF0.n6 Tryz.prog Tryz.sortAddr_ren := {
  mixed := by kernel_rfl
  f6 := ⟨Tryz.f166.name, by decide, Tryz.func166.trans (congrArg some (by kernel_rfl))⟩
  f14 := ⟨Tryz.f187.name, by decide, Tryz.func187.trans (congrArg some (by kernel_rfl))⟩
  f15 := Tryz.func188.trans (congrArg some (by kernel_rfl))
  f20 := ⟨Tryz.f199.name, by decide, Tryz.func199.trans (congrArg some (by kernel_rfl))⟩
  f21 := ⟨Tryz.f200.name, by decide, Tryz.func200.trans (congrArg some (by kernel_rfl))⟩
  f22 := ⟨Tryz.f201.name, by decide, Tryz.func201.trans (congrArg some (by kernel_rfl))⟩
  f23 := ⟨Tryz.f202.name, by decide, Tryz.func202.trans (congrArg some (by kernel_rfl))⟩
  f24 := ⟨Tryz.f203.name, by decide, Tryz.func203.trans (congrArg some (by kernel_rfl))⟩
  f25 := ⟨Tryz.f204.name, by decide, Tryz.func204.trans (congrArg some (by kernel_rfl))⟩
  f26 := ⟨Tryz.f205.name, by decide, Tryz.func205.trans (congrArg some (by kernel_rfl))⟩
  f27 := ⟨Tryz.f206.name, by decide, Tryz.func206.trans (congrArg some (by kernel_rfl))⟩
  f28 := Tryz.func207.trans (congrArg some (by kernel_rfl))
  f29 := Tryz.func208.trans (congrArg some (by kernel_rfl))
  f46 := ⟨Tryz.f221.name, by decide, Tryz.func221.trans (congrArg some (by kernel_rfl))⟩
  f47 := Tryz.func222.trans (congrArg some (by kernel_rfl))
  f48 := Tryz.func223.trans (congrArg some (by kernel_rfl))
  f49 := ⟨Tryz.f224.name, by decide, Tryz.func224.trans (congrArg some (by kernel_rfl))⟩
  f50 := ⟨Tryz.f225.name, by decide, Tryz.func225.trans (congrArg some (by kernel_rfl))⟩
  f57 := ⟨Tryz.f235.name, by decide, Tryz.func235.trans (congrArg some (by kernel_rfl))⟩
  t0 := Tryz.underlying0
  a0 := Tryz.isAgg0
  z0 := Tryz.sizeOf0
  v0 := Tryz.zeroValue0
  t3 := Tryz.underlying3
  a3 := Tryz.isAgg3
  z3 := Tryz.sizeOf3
  v3 := Tryz.zeroValue3
  t4 := Tryz.underlying4
  a4 := Tryz.isAgg4
  z4 := Tryz.sizeOf4
  v4 := Tryz.zeroValue4
  t5 := Tryz.underlying5
  a5 := Tryz.isAgg5
  z5 := Tryz.sizeOf5
  v5 := Tryz.zeroValue5
  t9 := Tryz.underlying9
  a9 := Tryz.isAgg9
  z9 := Tryz.sizeOf9
  v9 := Tryz.zeroValue9
  t22 := Tryz.underlying75
  a22 := Tryz.isAgg75
  z22 := Tryz.sizeOf75
  v22 := Tryz.zeroValue75
  t25 := Tryz.underlying251
  a25 := Tryz.isAgg251
  z25 := Tryz.sizeOf251
  v25 := Tryz.zeroValue251
  t39 := Tryz.underlying275
  a39 := Tryz.isAgg275
  z39 := Tryz.sizeOf275
  v39 := Tryz.zeroValue275
  t45 := Tryz.underlying288
  a45 := Tryz.isAgg288
  z45 := Tryz.sizeOf288
  v45 := Tryz.zeroValue288
  t46 := Tryz.underlying289
  a46 := Tryz.isAgg289
  z46 := Tryz.sizeOf289
  v46 := Tryz.zeroValue289
  t50 := Tryz.underlying293
  a50 := Tryz.isAgg293
  z50 := Tryz.sizeOf293
  v50 := Tryz.zeroValue293
  t53 := Tryz.underlying296
  a53 := Tryz.isAgg296
  z53 := Tryz.sizeOf296
  v53 := Tryz.zeroValue296
  t55 := Tryz.underlying298
  a55 := Tryz.isAgg298
  z55 := Tryz.sizeOf298
  v55 := Tryz.zeroValue298
  t66 := Tryz.underlying312
  a66 := Tryz.isAgg312
  z66 := Tryz.sizeOf312
  v66 := Tryz.zeroValue312
  t70 := Tryz.underlying316
  a70 := Tryz.isAgg316
  z70 := Tryz.sizeOf316
  v70 := Tryz.zeroValue316
  t76 := Tryz.underlying324
  a76 := Tryz.isAgg324
  z76 := Tryz.sizeOf324
  v76 := Tryz.zeroValue324
  t77 := Tryz.underlying325
  a77 := Tryz.isAgg325
  z77 := Tryz.sizeOf325
  v77 := Tryz.zeroValue325 }
end Go.Proofs
end
set_option linter.unusedVariables false
set_option linter.unusedSimpArgs false
namespace Go.Proofs
open Go Go.Am Go.Shelf Go.RowKit Go.Lib Go.Sort
def Tryz.compAddr_ren : Go.Shelf.Ren := ⟨fun | 43 => 168 | n => n, fun | 22 => 75 | 23 => 66 | n => n, fun | n => n⟩
theorem Tryz.compAddr : CompLays Tryz.prog Tryz.compAddr_ren := {
  mixed := by kernel_rfl
  f43 := ⟨Tryz.f168.name, by decide, Tryz.func168.trans (congrArg some (by kernel_rfl))⟩
  t0 := Tryz.underlying0
  a0 := Tryz.isAgg0
  z0 := Tryz.sizeOf0
  v0 := Tryz.zeroValue0
  t3 := Tryz.underlying3
  a3 := Tryz.isAgg3
  z3 := Tryz.sizeOf3
  v3 := Tryz.zeroValue3
  t4 := Tryz.underlying4
  a4 := Tryz.isAgg4
  z4 := Tryz.sizeOf4
  v4 := Tryz.zeroValue4
  t22 := Tryz.underlying75
  a22 := Tryz.isAgg75
  z22 := Tryz.sizeOf75
  v22 := Tryz.zeroValue75 }
theorem Tryz.infoAddr : (Tryz.prog.info? 66).map (fun i => (i.zero, i.size, i.bytes)) = some (some (.agg #[.string ByteArray.empty, .string ByteArray.empty]), 2, 32) := by kernel_rfl
theorem Tryz.eqAddr0 (x y : Pr) (w : World) : (Op.equalIn 10000 66 (.agg (encPr x).toArray) (.agg (encPr y).toArray)).run Tryz.prog w = .ok (decide (x = y)) w := by
 have u9 := Tryz.underlying9
 have a9 := Tryz.isAgg9
 have z9 := Tryz.sizeOf9
 have hS : Tryz.prog.underlying 66 = some (.struct (Tryz.prog.fieldsOf 66)) := by kernel_rfl
 have hp : Tryz.prog.stoodInHeld 66 = false := by kernel_rfl
 obtain ⟨x1, x2⟩ := x
 obtain ⟨y1, y2⟩ := y
 simp only [encPr]
 rw [show (10000 : Nat) = 9999 + 1 from rfl, run_equalIn_agg w 9999 66 _ _ hS hp]
 simp only [Program.fieldsOf, Tryz.underlying66]
 go_simp
 by_cases h1 : x1 = y1 <;> by_cases h2 : x2 = y2 <;> simp [h1, h2]
theorem Tryz.eqAddr : EqlAt Tryz.prog 66 (fun x : Pr => .agg (encPr x).toArray) (fun x y => decide (x = y)) := by
 refine ⟨fun x y w => ?_, GuardAt.agg _ (by kernel_rfl)⟩
 rw [run_eql_struct, Tryz.eqAddr0]
 rfl
theorem Tryz.neAddr : NeqAt Tryz.prog 66 (fun x : Pr => .agg (encPr x).toArray) (fun x y => decide (x = y)) := by
 refine ⟨fun x y w => ?_, GuardAt.agg _ (by kernel_rfl)⟩
 rw [run_neq_struct, Tryz.eqAddr0]
 rfl
set_option maxHeartbeats 1000000 in
set_option maxRecDepth 100000 in
theorem Tryz.cmpAddr (x y : Pr) (W : World) : Calls Tryz.prog 167 #[.agg (encPr x).toArray, .agg (encPr y).toArray] W fun e w' => e = .returned (.int .i64 (cmpPr x y)) ∧ ∃ q os', w' = grow (W.drewN q) os' := by
 obtain ⟨x1, x2⟩ := x
 obtain ⟨y1, y2⟩ := y
 have h1 := fun W' => Tryz.strings_Compare ⟨x1.toArray⟩ ⟨y1.toArray⟩ W'
 have h2 := fun W' => Tryz.strings_Compare ⟨x2.toArray⟩ ⟨y2.toArray⟩ W'
 have e1 : cmpPr (x1, x2) (y1, y2) = if Lib.compareBytes x1 y1 ≠ 0 then Lib.compareBytes x1 y1 else Lib.compareBytes x2 y2 := rfl
 rw [e1]
 clear e1
 simp only [encPr]
 change ∀ W', Calls Tryz.prog 189 _ W' (fun e w' => e = .returned (.int .i64 (Lib.compareBytes x1 y1)) ∧ w' = W') at h1
 change ∀ W', Calls Tryz.prog 189 _ W' (fun e w' => e = .returned (.int .i64 (Lib.compareBytes x2 y2)) ∧ w' = W') at h2
 generalize Lib.compareBytes x1 y1 = r1 at h1 ⊢
 generalize Lib.compareBytes x2 y2 = r2 at h2 ⊢
 generalize (⟨x1.toArray⟩ : ByteArray) = s1 at h1 ⊢
 generalize (⟨y1.toArray⟩ : ByteArray) = s2 at h1 ⊢
 generalize (⟨x2.toArray⟩ : ByteArray) = s3 at h2 ⊢
 generalize (⟨y2.toArray⟩ : ByteArray) = s4 at h2 ⊢
 by_cases hr : r1 = 0
 ·subst hr
  go_enter Tryz.func167, Tryz.ntmps167
  go_wp2_with (go_at_call 189; first | (refine (h1 _).mono ?_; rintro e w' ⟨rfl, rfl⟩) | (refine (h2 _).mono ?_; rintro e w' ⟨rfl, rfl⟩))
  go_ret
  exact ⟨rfl, 0, _, by rw [alloc_eq_grow, alloc_eq_grow, grow_grow]; rfl⟩
 ·go_enter Tryz.func167, Tryz.ntmps167
  go_wp2_with (go_at_call 189; first | (refine (h1 _).mono ?_; rintro e w' ⟨rfl, rfl⟩) | (refine (h2 _).mono ?_; rintro e w' ⟨rfl, rfl⟩))
  go_ret
  exact ⟨by simp [hr], 0, _, by rw [alloc_eq_grow, alloc_eq_grow, grow_grow]; rfl⟩
theorem ltPr_swo : SWO (ltOf cmpPr) where
 irrefl x := lt_irrefl x
 trans x y z h1 h2 := lt_trans' (x := x) h1 h2
 ntrans x y z h1 h2 := by
  cases h : ltOf cmpPr x z with
  | false => rfl
  | true =>
   by_cases e : y = z
   ·subst e; rw [h] at h1; cases h1
   ·have := lt_trans' (x := x) h (lt_of_not h2 (Ne.symm (fun e' => e e'.symm)).symm)
    rw [show ltPr x y = ltOf cmpPr x y from rfl, h1] at this
    cases this
theorem news_get (l : List Pr) : ∀ (j : Nat), (l.flatMap encPr)[j]? = l[j / 2]?.bind fun p => (encPr p)[j % 2]? := by
 induction l with
 | nil => intro j; simp
 | cons p l ih =>
  intro j
  rw [List.flatMap_cons]
  by_cases h : j < 2
  ·rw [List.getElem?_append_left (by simpa [encPr] using h), show j / 2 = 0 by omega, show j % 2 = j by omega]
   rfl
  ·rw [List.getElem?_append_right (by simp [encPr]; omega), show (encPr p).length = 2 from rfl, ih, show j / 2 = (j - 2) / 2 + 1 by omega, show (j - 2) % 2 = j % 2 by omega]
   rfl
theorem news_len (l : List Pr) : (l.flatMap encPr).length = l.length * 2 := by
 induction l with
 | nil => rfl
 | cons p l ih => rw [List.flatMap_cons, List.length_append, ih, List.length_cons]; simp [encPr]; omega
theorem holds_news {w : World} {base g n cap : Nat} {ty : TypeId} {l : List Pr} (h : w.ownsRow base ty 2 (.slice (some ⟨g, 0, none⟩) n cap) n (l.flatMap encPr)) : ∃ cur, w.heap[g]? = some (.cells cur ty (0, 0)) ∧ cur.size = cap * 2 ∧ n = l.length ∧ n ≤ cap ∧ cap ≤ maxLen ∧ base ≤ g ∧ HoldsK encPr 2 w g 0 l.toArray := by
 have hn : l.length = n := by have := h.1; rw [news_len] at this; omega
 rcases h.2 with ⟨e, _⟩ | ⟨g', cap', cur, hv, hb, hg, h1, h2, h3, h4⟩
 ·cases e
 ·injection hv with e1 e2 e3
  injection e1 with e1
  injection e1 with e1 _
  subst e1 e3
  refine ⟨cur, hg, h3, hn.symm, h1, h2, hb, fun t ht => ?_⟩
  have ht' : t < l.length * 2 := by simpa using ht
  refine ⟨?_, by simp [World.frozen?, hg]⟩
  have e : (cur.toList.take (n * 2))[t]? = (l.flatMap encPr)[t]? := by rw [h4]
  rw [List.getElem?_take, if_pos (by omega), news_get] at e
  have hj : t / 2 < l.length := by omega
  rw [List.getElem?_eq_getElem hj] at e
  have hm : t % 2 < (encPr l[t / 2]).length := by show t % 2 < 2; omega
  simp only [Option.bind_some] at e
  rw [List.getElem?_eq_getElem hm] at e
  show w.cell? ⟨g, 0 + t, none⟩ = some (id (flatK encPr 2 l.toArray)[t]!)
  rw [get_flatK _ _ _ _ (by simpa using ht')]
  have e5 : l.toArray[t / 2]! = l[t / 2] := by simp [hj]
  rw [e5, getElem!_pos (encPr l[t / 2]) (t % 2) hm, Nat.zero_add]
  simp only [World.cell?, hg, id]
  rw [← e]
  simp
set_option maxHeartbeats 1000000 in
set_option maxRecDepth 100000 in
theorem Tryz.sortTail (l : List Pr) (w W1 : World) (g cap : Nat) (cur : Array Value) (hb : RowKit.Below w.heap.size w W1) (hg : w.heap.size ≤ g) (hg1 : W1.heap[g]? = some (.cells cur 66 (0, 0))) (hcs : cur.size = cap * 2) (hcap : l.length ≤ cap) (hm : cap ≤ maxLen) (hl : l.length ≤ 1099511627776) (hH : HoldsK encPr 2 W1 g 0 l.toArray) :
  Calls Tryz.prog 166 #[.slice (some ⟨g, 0, none⟩) l.length cap, .func (.func 167) #[] #[]] W1 fun e W2 => e = .returned (.tuple #[]) ∧
   Calls Tryz.prog 168 #[.slice (some ⟨g, 0, none⟩) l.length cap] W2 (LeftPr w l) := by
 have hlt1 : g < W1.heap.size := by
  rcases Nat.lt_or_ge g W1.heap.size with h | h
  ·exact h
  ·rw [Array.getElem?_eq_none h] at hg1; cases hg1
 have eg : ∀ args w, (callFunc 167 args).run Tryz.prog w = .ok (.enter 167 args) w := enters_of Tryz.func167 (by kernel_rfl) rfl
 have hcon := AnyQ.slices_SortFunc Tryz.sortAddr 2 Tryz.isAgg66 Tryz.sizeOf66 encPr (fun _ => rfl) (fun x v hv => by simp [encPr] at hv; rcases hv with rfl | rfl <;> rfl) cmpPr ltPr_swo 167 #[] g 0 cap l.toArray W1 eg (fun _ _ _ _ x y => Tryz.cmpAddr x y _) hH hlt1 (by simp; omega)
 have hsz : l.toArray.size = l.length := by simp
 rw [hsz] at hcon
 refine hcon.mono ?_
 rintro e W2 ⟨rfl, d', nn, os, hp, hs, rfl⟩
 refine ⟨rfl, ?_⟩
 have hu := sorted_unique_holds ltPr_swo (fun x y h1 h2 => lt_tri (x := x) (y := y) h1 h2) l.toArray d' (by rw [hsz]; exact hp) (by rw [hsz]; exact hs)
 have hd : d' = (l.mergeSort fun x y => !ltPr y x).toArray := Array.ext' (show d'.toList = _ from hu)
 have hds : d'.size = l.length := by rw [hd]; simp
 have hH2 : HoldsK encPr 2 (sortWorldK encPr 2 W1 g 0 nn d' os) g 0 d' :=
  holdsK_grow encPr 2 _ os g 0 d' (by simp only [putRowK, size_putRow, heap_ahead]; exact hlt1) (holdsK_putRowK encPr 2 _ g 0 l.toArray d' (holdsK_ahead encPr 2 W1 nn g 0 _ hH) (by rw [hds]; simp))
 have hc := compact_struct Tryz.compAddr 2 Tryz.isAgg66 Tryz.sizeOf66 encPr (fun _ => rfl) (fun x v hv => by simp [encPr] at hv; rcases hv with rfl | rfl <;> rfl) Tryz.eqAddr Tryz.neAddr ([], []) Tryz.zeroValue66 g 0 cap d' _ hH2 (by rw [hds]; omega) (by rw [hds]; exact hcap)
 rw [hds] at hc
 refine Calls.mono hc ?_
 rintro e W3 ⟨rfl, q, F, hF, rfl, hFx⟩
 rw [← hds] at hF hFx
 have := left_pr (nn := nn) (q := q) (os := os) hb hg hg1 hcap hm hcs hd hF hFx
 rw [hds] at this
 exact this
set_option maxHeartbeats 2000000 in
set_option maxRecDepth 100000 in
theorem Tryz.SortAddrs_some (bk o cap : Nat) (l : List Pr) (w : World) (h0 : 0 < l.length) (hc : ∀ j x, l[j]? = some x → ∀ t v, (encPr x)[t]? = some v → w.cell? ⟨bk, o + j * 2 + t, none⟩ = some v) (hb : bk < w.heap.size) (hl : l.length ≤ 1099511627776) (hcap : l.length ≤ cap) :
    Calls Tryz.prog 132 #[.slice (some ⟨bk, o, none⟩) l.length cap] w fun e w' => LeftPr w l e w' := by
  obtain ⟨i0, hi, hz0, hz1, hz2⟩ := info_parts Tryz.infoAddr
  have hnews : ∀ (W : World), RowKit.Below w.heap.size w W → ∀ j u, (l.flatMap encPr)[j]? = some u → W.cell? ((⟨bk, o, none⟩ : Addr).add j) = some u := fun W hW j u hj => by
    have hjl : j < l.length * 2 := by rw [← news_len]; exact (gs_ hj).1
    rw [news_get] at hj
    have hj2 : j / 2 < l.length := by omega
    rw [List.getElem?_eq_getElem hj2, Option.bind_some] at hj
    have := hc (j / 2) _ (List.getElem?_eq_getElem hj2) (j % 2) u hj
    rw [Addr.add_lit, hW.cell (p := ⟨bk, o + j, none⟩) hb]
    rwa [show o + j / 2 * 2 + j % 2 = o + j by omega] at this
  have HN : Aside (∀ (W : World), RowKit.Below w.heap.size w W → ∀ j u, (l.flatMap encPr)[j]? = some u → W.cell? ((⟨bk, o, none⟩ : Addr).add j) = some u) := hnews
  clear hnews hc
  have H1 : Aside (∀ u ∈ l.flatMap encPr, u.oneCell' = true) := fun u hu => by
    obtain ⟨p, _, hp⟩ := List.mem_flatMap.1 hu
    simp [encPr] at hp
    rcases hp with rfl | rfl <;> rfl
  have HA : Aside (RowKit.Below w.heap.size w (w.alloc (.cells #[] 66 (0, 0)))) := (RowKit.Below.refl _ _).alloc (Nat.le_refl _) _
  have HO : Aside ((w.alloc (.cells #[] 66 (0, 0))).ownsRow w.heap.size 66 2 (.slice (some ⟨w.heap.size, 0, none⟩) 0 0) 0 []) := ⟨rfl, .inr ⟨w.heap.size, 0, #[], rfl, Nat.le_refl _, (show (w.heap.push _)[w.heap.size]? = _ by simp), Nat.le_refl _, Nat.zero_le _, rfl, rfl⟩⟩
  have NL := news_len l
  generalize hxs : l.flatMap encPr = news at HN H1 NL
  go_enter Tryz.func132, Tryz.ntmps132
  go_wp2_with (first
    | (at_builtin; refine wpList_append_lies _ rfl _ _ 75 rfl w.heap.size 66 i0 (.agg #[.string ByteArray.empty, .string ByteArray.empty]) 2 32 Tryz.underlying75 hi hz0 hz1 hz2 rfl (by decide) (.slice (some ⟨w.heap.size, 0, none⟩) 0 0) 0 [] rfl HO.out ⟨bk, o, none⟩ l.length cap news rfl NL (HN.out _ HA.out) H1.out h0 (by unfold maxLen; omega) (by omega) (show w.heap.size ≤ (w.heap.push _).size by simp) _ rfl ?_; intro g cap1 W1 hown hgrow hat hlt
       rw [List.nil_append, Nat.zero_add] at hown
       rw [← hxs] at hown
       obtain ⟨cur, hg1, hcs, hnl, hcap1, hm1, hbg, hH⟩ := holds_news hown
       have hb1 : RowKit.Below w.heap.size w W1 := RowKit.Below.grown HA.out hgrow (show w.heap.size ≤ (w.heap.push _).size by simp) (fun k hk => by simp [Value.ownBlock] at hk; omega)
       have hT := Tryz.sortTail l w W1 g cap1 cur hb1 hbg hg1 hcs hcap1 hm1 hl hH
       clear hown hgrow hat hlt hg1 hcs hnl hcap1 hm1 hbg hH hb1)
    | (go_at_call 166; refine hT.mono ?_; rintro e W2 ⟨rfl, hC⟩)
    | (go_at_call 168; refine hC.mono ?_; intro e W3 hL; obtain ⟨g3, cap3, cur3, ty3, rfl, hrest⟩ := id hL; have HL : Aside (LeftPr w l _ W3) := hL; clear hL hrest))
  go_ret
  exact HL.out
theorem run_append_none {P : Program} (w : World) (t ty e : TypeId) (i : TypeInfo) (ht : P.underlying t = some (.slice e)) (hi : P.info? e = some i) (p : Addr) (b : Option Addr) (cap : Nat) :
  (Builtin.append_ #[t, t] ty #[.slice (some p) 0 0, .slice b 0 cap]).run P w = .ok (.slice (some p) 0 0) w := by
 cases b <;> simp [Builtin.append_, run_underlying ht, sizeOf, typeInfo, hi, storeCells, loadCells, loadCellsFrom, Builtin.lenOf, Builtin.firstCells]
theorem wpList_append_none {P : Program} (w : World) {ops : Array Oper} {rest : List Oper} {o : Oper} {a : Act} {Q : Exit → Act → World → Prop} (hgd : o.guard = none) (s x : Operand) (t : TypeId)
  (ho : o.op = .call { callee := .builtin .append, args := #[s, x], argTypes := #[t, t] }) (e : TypeId) (i : TypeInfo) (ht : P.underlying t = some (.slice e)) (hi : P.info? e = some i) (p : Addr) (b : Option Addr) (cap : Nat)
  (hs : a.eval s = .slice (some p) 0 0) (hx : a.eval x = .slice b 0 cap) (h : wpList P ops Q rest (a.put o.dst (.slice (some p) 0 0)) w) : wpList P ops Q (o :: rest) a w :=
 wpList_plain hgd fun _ hK => by
  unfold Oper.wp execOp
  simp only [ho, resolve, invoke, builtin, Sem.run_bind, Sem.run_pure, Result.andThen_ok, List.map_toArray, List.map_cons, List.map_nil, hs, hx, run_append_none w t o.type e i ht hi p b cap]
  exact hK _ _ h
set_option maxHeartbeats 2000000 in
set_option maxRecDepth 100000 in
theorem Tryz.SortAddrs_none (a : Option Addr) (cap : Nat) (w : World) :
  Calls Tryz.prog 132 #[.slice a 0 cap] w fun e w' => LeftPr w [] e w' := by
 obtain ⟨i0, hi, hz0, hz1, hz2⟩ := info_parts Tryz.infoAddr
 have hT := Tryz.sortTail [] w (w.alloc (.cells #[] 66 (0, 0))) w.heap.size 0 #[] ((RowKit.Below.refl _ _).alloc (Nat.le_refl _) _) (Nat.le_refl _) (show (w.heap.push _)[w.heap.size]? = _ by simp) rfl (Nat.le_refl _) (Nat.zero_le _) (Nat.zero_le _) (fun t ht => by simp at ht)
 change Calls Tryz.prog 166 #[.slice (some ⟨w.heap.size, 0, none⟩) 0 0, .func (.func 167) #[] #[]] _ (fun e W2 => e = .returned (.tuple #[]) ∧ Calls Tryz.prog 168 #[.slice (some ⟨w.heap.size, 0, none⟩) 0 0] W2 (LeftPr w [])) at hT
 go_enter Tryz.func132, Tryz.ntmps132
 go_wp2_with (first
  | (at_builtin; refine wpList_append_none _ rfl _ _ 75 rfl 66 i0 Tryz.underlying75 hi ⟨w.heap.size, 0, none⟩ a cap rfl rfl ?_)
  | (go_at_call 166; refine hT.mono ?_; rintro e W2 ⟨rfl, hC⟩)
  | (go_at_call 168; refine hC.mono ?_; intro e W3 hL; obtain ⟨g3, cap3, cur3, ty3, rfl, hrest⟩ := id hL; have HL : Aside (LeftPr w [] _ W3) := hL; clear hL hrest))
 go_ret
 exact HL.out
end Go.Proofs
end
section
set_option linter.unusedVariables false
set_option linter.unusedSimpArgs false
namespace Go.Proofs
open Go Go.Am Go.Shelf Go.RowKit Go.Lib Go.Sort
theorem str_of {s : ByteArray} {l : List UInt8} (h : s.data.toList = l) : s = ⟨l.toArray⟩ := by
 apply ByteArray.ext
 apply Array.ext'
 rw [h]
theorem glob_below {w W : World} (h : RowKit.Below w.heap.size w W) (hg : globOk w) : globOk W := (Kept.below h).glob hg
theorem Tryz.splitAt (s : ByteArray) (c : UInt8) (w : World) (hg : globOk w) (hs : s.size < 4294967281) : ∃ q t, (q :: t).map (·.data.toList) = splitC c s.data.toList ∧ t.length ≤ s.size ∧
  ∀ W, RowKit.Below w.heap.size w W → Calls Tryz.prog 180 #[.string s, .string ⟨#[c]⟩] W fun e W' => e = .returned (.slice (some ⟨W.heap.size, 0, none⟩) (t.length + 1) (t.length + 1)) ∧ W' = W.alloc (.cells ((q :: t).map Value.string).toArray 9) := by
 have h0 := splitB_one c s
 have h1 := splitB_all ⟨#[c]⟩ (Nat.le_refl 1) 0 (countB s ⟨#[c]⟩) s rfl
 have h2 : ∀ W, RowKit.Below w.heap.size w W → Calls Tryz.prog 180 #[.string s, .string ⟨#[c]⟩] W fun e W' => e = .returned (.slice (some ⟨W.heap.size, 0, none⟩) (countB s ⟨#[c]⟩ + 1) (countB s ⟨#[c]⟩ + 1)) ∧ W' = W.alloc (.cells ((splitB ⟨#[c]⟩ 0 (countB s ⟨#[c]⟩) s).map Value.string).toArray 9) := fun W hW => by
  obtain ⟨m, hm⟩ := (glob_below hW hg).1
  exact Tryz.strings_Split s ⟨#[c]⟩ m W hs hm (Nat.le_refl 1)
 have h3 := splitC_len c s.data.toList
 generalize hps : splitB ⟨#[c]⟩ 0 (countB s ⟨#[c]⟩) s = ps at h0 h1 h2
 cases ps with
 | nil => simp at h1
 | cons q t =>
  refine ⟨q, t, h0, ?_, fun W hW => ?_⟩
  ·rw [← h0] at h3
   simp only [List.length_map, List.length_cons] at h3
   have : s.data.toList.length = s.size := rfl
   omega
  ·have h4 := h2 W hW
   have h5 : countB s ⟨#[c]⟩ + 1 = t.length + 1 := by rw [← h1]; rfl
   rw [h5] at h4
   exact h4
theorem vr_slice {Γ : Ctx} {w : World} {b s : Nat} {q : Q} {xs : List V} {x : Value} (h : VR Γ w (.own b s q xs) x) : ∃ p n c, x = .slice p n c := by
 cases h with
 | rd _ _ h => cases h
 | ownNil => exact ⟨_, _, _, rfl⟩
 | own => exact ⟨_, _, _, rfl⟩
theorem vr_bool {Γ : Ctx} {w : World} {b : Bool} {x : Value} (h : VR Γ w (.bool b) x) : x = .bool b := by
 cases h with
 | rd _ _ h => cases h; rfl
theorem vr_str {Γ : Ctx} {w : World} {s : List UInt8} {x : Value} (h : VR Γ w (.str s) x) : x = .string ⟨s.toArray⟩ := by
 cases h with
 | rd _ _ h => exact rd_pr_str h
theorem vr_pol {Γ : Ctx} {w : World} {b : Bool} {b0 s0 b1 s1 b2 s2 : Nat} {q0 q1 q2 : Q} {l0 l1 l2 : List V} {s : List UInt8} {x : Value} (h : VR Γ w (.agg [.bool b, .own b0 s0 q0 l0, .own b1 s1 q1 l1, .own b2 s2 q2 l2, .str s]) x) :
  ∃ (p0 p1 p2 : Option Addr) (n0 n1 n2 c0 c1 c2 : Nat), x = .agg #[.bool b, .slice p0 n0 c0, .slice p1 n1 c1, .slice p2 n2 c2, .string ⟨s.toArray⟩] := by
 have key : ∀ vs : Array Value, [V.bool b, .own b0 s0 q0 l0, .own b1 s1 q1 l1, .own b2 s2 q2 l2, .str s].length = vs.size → (∀ (i : Nat) (c : V) (v : Value), [V.bool b, .own b0 s0 q0 l0, .own b1 s1 q1 l1, .own b2 s2 q2 l2, .str s][i]? = some c → vs[i]? = some v → VR Γ w c v) →
   ∃ (p0 p1 p2 : Option Addr) (n0 n1 n2 c0 c1 c2 : Nat), vs = #[.bool b, .slice p0 n0 c0, .slice p1 n1 c1, .slice p2 n2 c2, .string ⟨s.toArray⟩] := fun vs hl hr => by
  obtain ⟨l⟩ := vs
  match l, hl with
  | [v0, v1, v2, v3, v4], _ =>
   have e0 := vr_bool (hr 0 _ v0 rfl rfl)
   obtain ⟨p0, n0, c0, e1⟩ := vr_slice (hr 1 _ v1 rfl rfl)
   obtain ⟨p1, n1, c1, e2⟩ := vr_slice (hr 2 _ v2 rfl rfl)
   obtain ⟨p2, n2, c2, e3⟩ := vr_slice (hr 3 _ v3 rfl rfl)
   have e4 := vr_str (hr 4 _ v4 rfl rfl)
   subst e0; subst e1; subst e2; subst e3; subst e4
   exact ⟨_, _, _, _, _, _, _, _, _, rfl⟩
 cases h with
 | rd _ _ h => cases h with
  | agg _ vs hl hr =>
   obtain ⟨p0, p1, p2, n0, n1, n2, c0, c1, c2, rfl⟩ := key vs hl (fun i c v h1 h2 => .rd _ _ (hr i c v h1 h2))
   exact ⟨_, _, _, _, _, _, _, _, _, rfl⟩
 | agg _ vs hl hr =>
  obtain ⟨p0, p1, p2, n0, n1, n2, c0, c1, c2, rfl⟩ := key vs hl hr
  exact ⟨_, _, _, _, _, _, _, _, _, rfl⟩
theorem Tryz.parse_ok {d1 : Nat → List V → Option V} (hans : Answers Tryz.prog d1) (s : ByteArray) (ok : Bool) (w : World) (hg : globOk w) (hs : s.size < 4294967281) (hp : polOk (d1 182) (d1 183) s.data.toList = some ok) :
  Calls Tryz.prog 155 #[.string s] w (LeftP w ok) := by
 unfold polOk at hp
 by_cases h0 : s.data.toList = []
 ·rw [if_pos h0] at hp
  injection hp with hp
  subst hp
  obtain rfl := str_of h0
  exact Tryz.parse_nil w
 ·rw [if_neg h0] at hp
  have hne : s.toList.isEmpty = false := by
   rw [Lib.toList_data]
   cases hh : s.data.toList with
   | nil => exact absurd hh h0
   | cons _ _ => rfl
  obtain ⟨b0, r0, e0, hl0, hS⟩ := Tryz.splitAt s 59 w hg hs
  rw [← e0] at hp
  have hmem : ∀ b ∈ b0 :: r0, b.size ≤ s.size := fun b hb => by
   have h1 : b.data.toList ∈ splitC 59 s.data.toList := by rw [← e0]; exact List.mem_map.2 ⟨b, hb, rfl⟩
   exact splitC_le 59 s.data.toList _ h1
  match r0, hl0, hS, hp, hmem with
  | [], _, hS, hp, _ =>
   injection hp with hp
   subst hp
   exact Tryz.parse_few s 1 _ w hne (by omega) hS
  | [b1], _, hS, hp, _ =>
   injection hp with hp
   subst hp
   exact Tryz.parse_few s 2 _ w hne (by omega) hS
  | b1 :: b2 :: rest, hl, hS, hp, hmem =>
   have hp' : (match d1 182 [polV b0.data.toList b1.data.toList b2.data.toList (rest.map (·.data.toList))], d1 183 [polV b0.data.toList b1.data.toList b2.data.toList (rest.map (·.data.toList))] with
    | some (.str f), some (.agg [.bool _, .own _ _ _ _, .own _ _ _ _, .own _ _ _ _, .str _]) => some (f == s.data.toList)
    | _, _ => none) = some ok := hp
   split at hp'
   ·rename_i f bb i0 s0 q0 l0 i1 s1 q1 l1 i2 s2 q2 l2 sn hf hc
    injection hp' with hp'
    obtain ⟨x0, t0, g0, _, hS0⟩ := Tryz.splitAt b0 32 w hg (Nat.lt_of_le_of_lt (hmem b0 (by simp)) hs)
    obtain ⟨x1, t1, g1, _, hS1⟩ := Tryz.splitAt b1 32 w hg (Nat.lt_of_le_of_lt (hmem b1 (by simp)) hs)
    obtain ⟨x2, t2, g2, _, hS2⟩ := Tryz.splitAt b2 32 w hg (Nat.lt_of_le_of_lt (hmem b2 (by simp)) hs)
    have hT : ∀ b W, Calls Tryz.prog 181 #[.string b, .string ⟨#[110, 111, 110, 99, 101, 32]⟩] W fun e W' => e = .returned (.string ⟨(Lib.trimPrefix b.data.toList nonceW).toArray⟩) ∧ W' = W := fun b W => Tryz.strings_TrimPrefix b ⟨#[110, 111, 110, 99, 101, 32]⟩ W
    have hF : ∀ W x y z n, RowKit.Below w.heap.size w W → Rd W (fun k => k < W.heap.size) (.sl 1 true (rStr (t0.map (·.data.toList)))) x → Rd W (fun k => k < W.heap.size) (.sl 1 true (rStr (t1.map (·.data.toList)))) y → Rd W (fun k => k < W.heap.size) (.sl 1 true (rStr (t2.map (·.data.toList)))) z → n.data.toList = nonceOf (rest.map (·.data.toList)) →
     Calls Tryz.prog 182 #[.agg #[.bool true, x, y, z, .string n]] W fun e W' => e = .returned (.string ⟨f.toArray⟩) ∧ Kept W W' ∧ Calls Tryz.prog 183 #[.agg #[.bool true, x, y, z, .string n]] W' fun e W2 => ∃ (bb : Bool) (p0 p1 p2 : Option Addr) (n0 n1 n2 c0 c1 c2 : Nat) (ss : ByteArray), e = .returned (.agg #[.bool bb, .slice p0 n0 c0, .slice p1 n1 c1, .slice p2 n2 c2, .string ss]) ∧ Kept W' W2 := fun W x y z n hW hx hy hz hn => by
     have hGW := glob_below hW hg
     have hrd : Rd W (fun k => k < W.heap.size) (polV b0.data.toList b1.data.toList b2.data.toList (rest.map (·.data.toList))) (.agg #[.bool true, x, y, z, .string n]) := by
      unfold polV
      rw [← g0, ← g1, ← g2]
      exact rd_pol hn hx hy hz
     refine ((hans _ _ _ hf).2 (fun k => k < W.heap.size) W #[.agg #[.bool true, x, y, z, .string n]] hGW (fun _ h => h) rfl (fun i c v h1 h2 => ?_)).mono (fun e W' he => ?_)
     ·match i, h1, h2 with
      | 0, h1, h2 => injection h1 with h1; injection h2 with h2; subst h1; subst h2; exact hrd
      | i + 1, h1, h2 => simp at h1
     ·split at he
      ·rename_i xv
       have hk := Kept.of_answer he
       obtain ⟨Γ, hv, _⟩ := he.val
       obtain rfl := vr_str hv
       refine ⟨rfl, hk, ?_⟩
       refine ((hans _ _ _ hc).2 (fun k => k < W.heap.size) W' #[.agg #[.bool true, x, y, z, .string n]] (hk.glob hGW) (fun _ h => Nat.lt_of_lt_of_le h hk.2.2.2.1) rfl (fun i c v h1 h2 => ?_)).mono (fun e W3 he => ?_)
       ·match i, h1, h2 with
        | 0, h1, h2 => injection h1 with h1; injection h2 with h2; subst h1; subst h2; exact hk.rd (fun _ h => h) hrd
        | i + 1, h1, h2 => simp at h1
       ·split at he
        ·rename_i xv
         have hk2 := Kept.of_answer he
         obtain ⟨Γ2, hv2, _⟩ := he.val
         obtain ⟨p0, p1, p2, n0, n1, n2, c0, c1, c2, rfl⟩ := vr_pol hv2
         exact ⟨_, _, _, _, _, _, _, _, _, _, _, rfl, hk2⟩
        ·exact he.elim
      ·exact he.elim
    have hok : ok = ((⟨f.toArray⟩ : ByteArray).toList == s.toList) := by
     rw [Lib.toList_data, Lib.toList_data, ← hp']
    rw [hok]
    cases rest with
    | nil => exact Tryz.parse_three s b0 b1 b2 x0 x1 x2 t0 t1 t2 w hne ⟨f.toArray⟩ hS hS0 hS1 hS2 hT hF
    | cons b3 rest => exact Tryz.parse_four s b0 b1 b2 x0 x1 x2 b3 rest t0 t1 t2 w hne ⟨f.toArray⟩ hS hS0 hS1 hS2 hT hF (by simp only [List.length_cons] at hl; omega)
   ·cases hp'
theorem rd_resp {w : World} {S : Nat → Prop} {st kd age : Int} {body pol : List UInt8} {sh : Bool} {x : Value} (h : Rd w S (.agg [.int .i64 st, .int .i64 kd, .str body, .int .i64 age, .bool sh, .str pol]) x) :
  x = .agg #[.int .i64 st, .int .i64 kd, .string ⟨body.toArray⟩, .int .i64 age, .bool sh, .string ⟨pol.toArray⟩] := by
 cases h with
 | agg _ vs hl hr =>
  obtain ⟨l⟩ := vs
  match l, hl with
  | [v0, v1, v2, v3, v4, v5], _ =>
   have e0 := rd_int (hr 0 _ v0 rfl rfl)
   have e1 := rd_int (hr 1 _ v1 rfl rfl)
   have e2 := rd_pr_str (hr 2 _ v2 rfl rfl)
   have e3 := rd_int (hr 3 _ v3 rfl rfl)
   have e4 : v4 = .bool sh := vr_bool (Γ := ⟨w, fun _ => False, S, fun _ => False, fun _ => 0, fun _ => 0, fun _ => 0, fun _ => 0, fun _ => 0, fun _ => False, fun _ => 0, fun _ => False⟩) (.rd _ _ (hr 4 _ v4 rfl rfl))
   have e5 := rd_pr_str (hr 5 _ v5 rfl rfl)
   subst e0; subst e1; subst e2; subst e3; subst e4; subst e5
   rfl
theorem Tryz.resp_ok {d1 : Nat → List V → Option V} (hans : Answers Tryz.prog d1) : ExtOk Tryz.prog 112 (respV (d1 182) (d1 183)) := by
 intro args r h
 refine ⟨⟨_, Tryz.func112, rfl, by kernel_rfl⟩, fun R w vals hg hR hl hv => ?_⟩
 unfold respV at h
 split at h
 ·rename_i st kd body age sh pol
  split at h
  ·rename_i hlen
   cases hpo : polOk (d1 182) (d1 183) pol with
   | none => rw [hpo] at h; cases h
   | some ok =>
    rw [hpo] at h
    simp only [Option.map_some, sj_] at h
    subst h
    obtain ⟨x, rfl, e0⟩ := vals1 hl
    obtain rfl := rd_resp (hv 0 _ _ rfl e0)
    have hs : (⟨pol.toArray⟩ : ByteArray).size < 4294967281 := by
     show pol.toArray.size < _
     simpa using hlen
    refine (Tryz.resp_walk st kd age ⟨body.toArray⟩ ⟨pol.toArray⟩ sh ok (decide (100 ≤ st) && decide (st ≤ 599)) (decide (1 ≤ kd) && decide (kd ≤ 5)) (decide (0 ≤ age) && decide (age ≤ 1000)) w
     (fun W hW => (Tryz.parse_ok hans ⟨pol.toArray⟩ ok W (glob_below hW hg) hs (by simpa using hpo)))
     rfl rfl rfl).mono (fun e w' he => ?_)
    obtain ⟨rfl, hk⟩ := he
    exact answer_plain hk (.bool _)
  ·cases h
 ·cases h
end Go.Proofs
end
set_option linter.unusedVariables false
namespace Go.Am
open Go Go.Proofs
theorem extAns1 : Answers Go.Proofs.Tryz.prog ext1 := ext_cons (ext_sortPr Tryz.func132 (by kernel_rfl) (by kernel_rfl) Tryz.SortAddrs_none Tryz.SortAddrs_some) (ext_cons (ext_split Tryz.func180 (by kernel_rfl) (by kernel_rfl) (fun s c w hg h => by obtain ⟨m, hm⟩ := hg.1; exact Tryz.strings_Split s ⟨#[c]⟩ m w h hm (Nat.le_refl 1))) (ext_cons (ext_trim Tryz.func181 (by kernel_rfl) (by kernel_rfl) Tryz.strings_TrimPrefix) (ext_cons (ext_cmp Tryz.func189 (by kernel_rfl) (by kernel_rfl) Tryz.strings_Compare) (ext_cons (ext_join Tryz.func197 (by kernel_rfl) (by kernel_rfl) Tryz.strings_Join_none Tryz.strings_Join) (ext_nil)))))
theorem ans1 : Answers Go.Proofs.Tryz.prog D1 := sound_den agree (fun den hD => drawOk agree (by kernel_rfl) hD) extAns1
theorem extAns : Answers Go.Proofs.Tryz.prog ext0 := ext_cons (Tryz.resp_ok ans1) (extAns1)
end Go.Am

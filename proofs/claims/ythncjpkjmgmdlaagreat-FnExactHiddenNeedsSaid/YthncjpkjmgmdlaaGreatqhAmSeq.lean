/-
  What laws.sz..S, laws.to..S and laws.eq..S compute on a list of structures, told once for all structures.
-/
import Derived.Shelf.SlLaysF0
import Derived.Ground.SlsfProg
import Derived.Test.YthncjpkjmgmdlaaGreatProg
import Derived.Shelf.Small.Bits
import Derived.Shelf.Small.Strs
import Derived.Shelf.Strconv.Itoa0
import Derived.Test.YthncjpkjmgmdlaaGreatqhAmExt3
import Derived.Shelf.SlSortCmp.WholeK
import Derived.Deep.AppendLies
import Derived.Laws.StructEq
import Derived.RegionTactic
import Derived.WalkKit
import Derived.Test.YthncjpkjmgmdlaaGreatqhAmCfg
import Derived.Test.YthncjpkjmgmdlaaGreatqhAmTyped
import Derived.Test.YthncjpkjmgmdlaaGreatqhAmPure
section
section
namespace Go.Proofs
open Go.Shelf
def Tryz.sortAddr_ren : Go.Shelf.Ren := ⟨fun | 6 => 155 | 15 => 194 | 14 => 193 | 28 => 226 | 29 => 227 | 20 => 218 | 21 => 219 | 22 => 220 | 23 => 221 | 24 => 222 | 25 => 223 | 26 => 224 | 27 => 225 | 46 => 233 | 47 => 234 | 48 => 235 | 49 => 236 | 50 => 237 | 57 => 239 | n => n, fun | 22 => 58 | 24 => 49 | 25 => 219 | 3 => 3 | 39 => 264 | 0 => 0 | 53 => 300 | 55 => 302 | 4 => 4 | 46 => 293 | 45 => 292 | 50 => 297 | 5 => 5 | 9 => 9 | 66 => 311 | 70 => 315 | 76 => 317 | 77 => 318 | n => n, fun | n => n⟩
theorem Tryz.sortAddr : Go.Proofs.SlLaysF0.n6 Tryz.prog Tryz.sortAddr_ren := {
  mixed := by kernel_rfl
  f6 := ⟨Tryz.f155.name, by decide, Tryz.func155.trans (congrArg some (by kernel_rfl))⟩
  f14 := ⟨Tryz.f193.name, by decide, Tryz.func193.trans (congrArg some (by kernel_rfl))⟩
  f15 := Tryz.func194.trans (congrArg some (by kernel_rfl))
  f20 := ⟨Tryz.f218.name, by decide, Tryz.func218.trans (congrArg some (by kernel_rfl))⟩
  f21 := ⟨Tryz.f219.name, by decide, Tryz.func219.trans (congrArg some (by kernel_rfl))⟩
  f22 := ⟨Tryz.f220.name, by decide, Tryz.func220.trans (congrArg some (by kernel_rfl))⟩
  f23 := ⟨Tryz.f221.name, by decide, Tryz.func221.trans (congrArg some (by kernel_rfl))⟩
  f24 := ⟨Tryz.f222.name, by decide, Tryz.func222.trans (congrArg some (by kernel_rfl))⟩
  f25 := ⟨Tryz.f223.name, by decide, Tryz.func223.trans (congrArg some (by kernel_rfl))⟩
  f26 := ⟨Tryz.f224.name, by decide, Tryz.func224.trans (congrArg some (by kernel_rfl))⟩
  f27 := ⟨Tryz.f225.name, by decide, Tryz.func225.trans (congrArg some (by kernel_rfl))⟩
  f28 := Tryz.func226.trans (congrArg some (by kernel_rfl))
  f29 := Tryz.func227.trans (congrArg some (by kernel_rfl))
  f46 := ⟨Tryz.f233.name, by decide, Tryz.func233.trans (congrArg some (by kernel_rfl))⟩
  f47 := Tryz.func234.trans (congrArg some (by kernel_rfl))
  f48 := Tryz.func235.trans (congrArg some (by kernel_rfl))
  f49 := ⟨Tryz.f236.name, by decide, Tryz.func236.trans (congrArg some (by kernel_rfl))⟩
  f50 := ⟨Tryz.f237.name, by decide, Tryz.func237.trans (congrArg some (by kernel_rfl))⟩
  f57 := ⟨Tryz.f239.name, by decide, Tryz.func239.trans (congrArg some (by kernel_rfl))⟩
  t0 := Tryz.underlying0
  a0 := Tryz.isAgg0
  z0 := Tryz.sizeOf0
  v0 := Tryz.zeroValue0
  t3 := Tryz.underlying3
  a3 := Tryz.isAgg3
  z3 := Tryz.sizeOf3
  v3 := Tryz.zeroValue3
  t4 := Tryz.underlying4
  a4 := Tryz.isAgg4
  z4 := Tryz.sizeOf4
  v4 := Tryz.zeroValue4
  t5 := Tryz.underlying5
  a5 := Tryz.isAgg5
  z5 := Tryz.sizeOf5
  v5 := Tryz.zeroValue5
  t9 := Tryz.underlying9
  a9 := Tryz.isAgg9
  z9 := Tryz.sizeOf9
  v9 := Tryz.zeroValue9
  t22 := Tryz.underlying58
  a22 := Tryz.isAgg58
  z22 := Tryz.sizeOf58
  v22 := Tryz.zeroValue58
  t25 := Tryz.underlying219
  a25 := Tryz.isAgg219
  z25 := Tryz.sizeOf219
  v25 := Tryz.zeroValue219
  t39 := Tryz.underlying264
  a39 := Tryz.isAgg264
  z39 := Tryz.sizeOf264
  v39 := Tryz.zeroValue264
  t45 := Tryz.underlying292
  a45 := Tryz.isAgg292
  z45 := Tryz.sizeOf292
  v45 := Tryz.zeroValue292
  t46 := Tryz.underlying293
  a46 := Tryz.isAgg293
  z46 := Tryz.sizeOf293
  v46 := Tryz.zeroValue293
  t50 := Tryz.underlying297
  a50 := Tryz.isAgg297
  z50 := Tryz.sizeOf297
  v50 := Tryz.zeroValue297
  t53 := Tryz.underlying300
  a53 := Tryz.isAgg300
  z53 := Tryz.sizeOf300
  v53 := Tryz.zeroValue300
  t55 := Tryz.underlying302
  a55 := Tryz.isAgg302
  z55 := Tryz.sizeOf302
  v55 := Tryz.zeroValue302
  t66 := Tryz.underlying311
  a66 := Tryz.isAgg311
  z66 := Tryz.sizeOf311
  v66 := Tryz.zeroValue311
  t70 := Tryz.underlying315
  a70 := Tryz.isAgg315
  z70 := Tryz.sizeOf315
  v70 := Tryz.zeroValue315
  t76 := Tryz.underlying317
  a76 := Tryz.isAgg317
  z76 := Tryz.sizeOf317
  v76 := Tryz.zeroValue317
  t77 := Tryz.underlying318
  a77 := Tryz.isAgg318
  z77 := Tryz.sizeOf318
  v77 := Tryz.zeroValue318 }
end Go.Proofs
end
section
namespace Go.Proofs
open Go.Shelf
def Tryz.lays106_ren : Go.Shelf.Ren := ⟨fun | 106 => 195 | 213 => 228 | 265 => 238 | n => n, fun | 9 => 9 | 3 => 3 | n => n, fun | n => n⟩
theorem Tryz.lays106 : Go.Proofs.Lays.n106 Tryz.prog Tryz.lays106_ren := {
  mixed := by kernel_rfl
  f106 := Tryz.func195.trans (congrArg some (by kernel_rfl))
  f213 := Tryz.func228.trans (congrArg some (by kernel_rfl))
  f265 := Tryz.func238.trans (congrArg some (by kernel_rfl))
  t3 := Tryz.underlying3
  a3 := Tryz.isAgg3
  z3 := Tryz.sizeOf3
  v3 := Tryz.zeroValue3
  t9 := Tryz.underlying9
  a9 := Tryz.isAgg9
  z9 := Tryz.sizeOf9
  v9 := Tryz.zeroValue9 }
open Go.RowKit in
theorem Tryz.strings_Compare (a b : ByteArray) (w : World) :
  Calls Tryz.prog 195 #[.string a, .string b] w fun e w' => e = .returned (.int .i64 (Lib.compareBytes a.data.toList b.data.toList)) ∧ w' = w := Any.strings_Compare Tryz.lays106 a b w
end Go.Proofs
end
set_option linter.unusedVariables false
set_option linter.unusedSimpArgs false
namespace Go.Proofs
open Go Go.Am Go.Shelf Go.RowKit Go.Lib Go.Sort
def Tryz.compAddr_ren : Go.Shelf.Ren := ⟨fun | 43 => 157 | n => n, fun | 22 => 58 | 23 => 49 | n => n, fun | n => n⟩
theorem Tryz.compAddr : CompLays Tryz.prog Tryz.compAddr_ren := {
  mixed := by kernel_rfl
  f43 := ⟨Tryz.f157.name, by decide, Tryz.func157.trans (congrArg some (by kernel_rfl))⟩
  t0 := Tryz.underlying0
  a0 := Tryz.isAgg0
  z0 := Tryz.sizeOf0
  v0 := Tryz.zeroValue0
  t3 := Tryz.underlying3
  a3 := Tryz.isAgg3
  z3 := Tryz.sizeOf3
  v3 := Tryz.zeroValue3
  t4 := Tryz.underlying4
  a4 := Tryz.isAgg4
  z4 := Tryz.sizeOf4
  v4 := Tryz.zeroValue4
  t22 := Tryz.underlying58
  a22 := Tryz.isAgg58
  z22 := Tryz.sizeOf58
  v22 := Tryz.zeroValue58 }
theorem Tryz.infoAddr : (Tryz.prog.info? 49).map (fun i => (i.zero, i.size, i.bytes)) = some (some (.agg #[.string ByteArray.empty, .string ByteArray.empty]), 2, 32) := by kernel_rfl
theorem Tryz.eqAddr0 (x y : Pr) (w : World) : (Op.equalIn 10000 49 (.agg (encPr x).toArray) (.agg (encPr y).toArray)).run Tryz.prog w = .ok (decide (x = y)) w := by
 have u9 := Tryz.underlying9
 have a9 := Tryz.isAgg9
 have z9 := Tryz.sizeOf9
 have hS : Tryz.prog.underlying 49 = some (.struct (Tryz.prog.fieldsOf 49)) := by kernel_rfl
 have hp : Tryz.prog.stoodInHeld 49 = false := by kernel_rfl
 obtain ⟨x1, x2⟩ := x
 obtain ⟨y1, y2⟩ := y
 simp only [encPr]
 rw [show (10000 : Nat) = 9999 + 1 from rfl, run_equalIn_agg w 9999 49 _ _ hS hp]
 simp only [Program.fieldsOf, Tryz.underlying49]
 go_simp
 by_cases h1 : x1 = y1 <;> by_cases h2 : x2 = y2 <;> simp [h1, h2]
theorem Tryz.eqAddr : EqlAt Tryz.prog 49 (fun x : Pr => .agg (encPr x).toArray) (fun x y => decide (x = y)) := by
 refine ⟨fun x y w => ?_, GuardAt.agg _ (by kernel_rfl)⟩
 rw [run_eql_struct, Tryz.eqAddr0]
 rfl
theorem Tryz.neAddr : NeqAt Tryz.prog 49 (fun x : Pr => .agg (encPr x).toArray) (fun x y => decide (x = y)) := by
 refine ⟨fun x y w => ?_, GuardAt.agg _ (by kernel_rfl)⟩
 rw [run_neq_struct, Tryz.eqAddr0]
 rfl
set_option maxHeartbeats 1000000 in
set_option maxRecDepth 100000 in
theorem Tryz.cmpAddr (x y : Pr) (W : World) : Calls Tryz.prog 156 #[.agg (encPr x).toArray, .agg (encPr y).toArray] W fun e w' => e = .returned (.int .i64 (cmpPr x y)) ∧ ∃ q os', w' = grow (W.drewN q) os' := by
 obtain ⟨x1, x2⟩ := x
 obtain ⟨y1, y2⟩ := y
 have h1 := fun W' => Tryz.strings_Compare ⟨x1.toArray⟩ ⟨y1.toArray⟩ W'
 have h2 := fun W' => Tryz.strings_Compare ⟨x2.toArray⟩ ⟨y2.toArray⟩ W'
 have e1 : cmpPr (x1, x2) (y1, y2) = if Lib.compareBytes x1 y1 ≠ 0 then Lib.compareBytes x1 y1 else Lib.compareBytes x2 y2 := rfl
 rw [e1]
 clear e1
 simp only [encPr]
 change ∀ W', Calls Tryz.prog 195 _ W' (fun e w' => e = .returned (.int .i64 (Lib.compareBytes x1 y1)) ∧ w' = W') at h1
 change ∀ W', Calls Tryz.prog 195 _ W' (fun e w' => e = .returned (.int .i64 (Lib.compareBytes x2 y2)) ∧ w' = W') at h2
 generalize Lib.compareBytes x1 y1 = r1 at h1 ⊢
 generalize Lib.compareBytes x2 y2 = r2 at h2 ⊢
 generalize (⟨x1.toArray⟩ : ByteArray) = s1 at h1 ⊢
 generalize (⟨y1.toArray⟩ : ByteArray) = s2 at h1 ⊢
 generalize (⟨x2.toArray⟩ : ByteArray) = s3 at h2 ⊢
 generalize (⟨y2.toArray⟩ : ByteArray) = s4 at h2 ⊢
 by_cases hr : r1 = 0
 ·subst hr
  go_enter Tryz.func156, Tryz.ntmps156
  go_wp2_with (go_at_call 195; first | (refine (h1 _).mono ?_; rintro e w' ⟨rfl, rfl⟩) | (refine (h2 _).mono ?_; rintro e w' ⟨rfl, rfl⟩))
  go_ret
  exact ⟨rfl, 0, _, by rw [alloc_eq_grow, alloc_eq_grow, grow_grow]; rfl⟩
 ·go_enter Tryz.func156, Tryz.ntmps156
  go_wp2_with (go_at_call 195; first | (refine (h1 _).mono ?_; rintro e w' ⟨rfl, rfl⟩) | (refine (h2 _).mono ?_; rintro e w' ⟨rfl, rfl⟩))
  go_ret
  exact ⟨by simp [hr], 0, _, by rw [alloc_eq_grow, alloc_eq_grow, grow_grow]; rfl⟩
theorem ltPr_swo : SWO (ltOf cmpPr) where
 irrefl x := lt_irrefl x
 trans x y z h1 h2 := lt_trans' (x := x) h1 h2
 ntrans x y z h1 h2 := by
  cases h : ltOf cmpPr x z with
  | false => rfl
  | true =>
   by_cases e : y = z
   ·subst e; rw [h] at h1; cases h1
   ·have := lt_trans' (x := x) h (lt_of_not h2 (Ne.symm (fun e' => e e'.symm)).symm)
    rw [show ltPr x y = ltOf cmpPr x y from rfl, h1] at this
    cases this
theorem news_get (l : List Pr) : ∀ (j : Nat), (l.flatMap encPr)[j]? = l[j / 2]?.bind fun p => (encPr p)[j % 2]? := by
 induction l with
 | nil => intro j; simp
 | cons p l ih =>
  intro j
  rw [List.flatMap_cons]
  by_cases h : j < 2
  ·rw [List.getElem?_append_left (by simpa [encPr] using h), show j / 2 = 0 by omega, show j % 2 = j by omega]
   rfl
  ·rw [List.getElem?_append_right (by simp [encPr]; omega), show (encPr p).length = 2 from rfl, ih, show j / 2 = (j - 2) / 2 + 1 by omega, show (j - 2) % 2 = j % 2 by omega]
   rfl
theorem news_len (l : List Pr) : (l.flatMap encPr).length = l.length * 2 := by
 induction l with
 | nil => rfl
 | cons p l ih => rw [List.flatMap_cons, List.length_append, ih, List.length_cons]; simp [encPr]; omega
theorem holds_news {w : World} {base g n cap : Nat} {ty : TypeId} {l : List Pr} (h : w.ownsRow base ty 2 (.slice (some ⟨g, 0, none⟩) n cap) n (l.flatMap encPr)) : ∃ cur, w.heap[g]? = some (.cells cur ty (0, 0)) ∧ cur.size = cap * 2 ∧ n = l.length ∧ n ≤ cap ∧ cap ≤ maxLen ∧ base ≤ g ∧ HoldsK encPr 2 w g 0 l.toArray := by
 have hn : l.length = n := by have := h.1; rw [news_len] at this; omega
 rcases h.2 with ⟨e, _⟩ | ⟨g', cap', cur, hv, hb, hg, h1, h2, h3, h4⟩
 ·cases e
 ·injection hv with e1 e2 e3
  injection e1 with e1
  injection e1 with e1 _
  subst e1 e3
  refine ⟨cur, hg, h3, hn.symm, h1, h2, hb, fun t ht => ?_⟩
  have ht' : t < l.length * 2 := by simpa using ht
  refine ⟨?_, by simp [World.frozen?, hg]⟩
  have e : (cur.toList.take (n * 2))[t]? = (l.flatMap encPr)[t]? := by rw [h4]
  rw [List.getElem?_take, if_pos (by omega), news_get] at e
  have hj : t / 2 < l.length := by omega
  rw [List.getElem?_eq_getElem hj] at e
  have hm : t % 2 < (encPr l[t / 2]).length := by show t % 2 < 2; omega
  simp only [Option.bind_some] at e
  rw [List.getElem?_eq_getElem hm] at e
  show w.cell? ⟨g, 0 + t, none⟩ = some (id (flatK encPr 2 l.toArray)[t]!)
  rw [get_flatK _ _ _ _ (by simpa using ht')]
  have e5 : l.toArray[t / 2]! = l[t / 2] := by simp [hj]
  rw [e5, getElem!_pos (encPr l[t / 2]) (t % 2) hm, Nat.zero_add]
  simp only [World.cell?, hg, id]
  rw [← e]
  simp
set_option maxHeartbeats 1000000 in
set_option maxRecDepth 100000 in
theorem Tryz.sortTail (l : List Pr) (w W1 : World) (g cap : Nat) (cur : Array Value) (hb : RowKit.Below w.heap.size w W1) (hg : w.heap.size ≤ g) (hg1 : W1.heap[g]? = some (.cells cur 49 (0, 0))) (hcs : cur.size = cap * 2) (hcap : l.length ≤ cap) (hm : cap ≤ maxLen) (hl : l.length ≤ 1099511627776) (hH : HoldsK encPr 2 W1 g 0 l.toArray) :
  Calls Tryz.prog 155 #[.slice (some ⟨g, 0, none⟩) l.length cap, .func (.func 156) #[] #[]] W1 fun e W2 => e = .returned (.tuple #[]) ∧
   Calls Tryz.prog 157 #[.slice (some ⟨g, 0, none⟩) l.length cap] W2 (LeftPr w l) := by
 have hlt1 : g < W1.heap.size := by
  rcases Nat.lt_or_ge g W1.heap.size with h | h
  ·exact h
  ·rw [Array.getElem?_eq_none h] at hg1; cases hg1
 have eg : ∀ args w, (callFunc 156 args).run Tryz.prog w = .ok (.enter 156 args) w := enters_of Tryz.func156 (by kernel_rfl) rfl
 have hcon := AnyQ.slices_SortFunc Tryz.sortAddr 2 Tryz.isAgg49 Tryz.sizeOf49 encPr (fun _ => rfl) (fun x v hv => by simp [encPr] at hv; rcases hv with rfl | rfl <;> rfl) cmpPr ltPr_swo 156 #[] g 0 cap l.toArray W1 eg (fun _ _ _ _ x y => Tryz.cmpAddr x y _) hH hlt1 (by simp; omega)
 have hsz : l.toArray.size = l.length := by simp
 rw [hsz] at hcon
 refine hcon.mono ?_
 rintro e W2 ⟨rfl, d', nn, os, hp, hs, rfl⟩
 refine ⟨rfl, ?_⟩
 have hu := sorted_unique_holds ltPr_swo (fun x y h1 h2 => lt_tri (x := x) (y := y) h1 h2) l.toArray d' (by rw [hsz]; exact hp) (by rw [hsz]; exact hs)
 have hd : d' = (l.mergeSort fun x y => !ltPr y x).toArray := Array.ext' (show d'.toList = _ from hu)
 have hds : d'.size = l.length := by rw [hd]; simp
 have hH2 : HoldsK encPr 2 (sortWorldK encPr 2 W1 g 0 nn d' os) g 0 d' :=
  holdsK_grow encPr 2 _ os g 0 d' (by simp only [putRowK, size_putRow, heap_ahead]; exact hlt1) (holdsK_putRowK encPr 2 _ g 0 l.toArray d' (holdsK_ahead encPr 2 W1 nn g 0 _ hH) (by rw [hds]; simp))
 have hc := compact_struct Tryz.compAddr 2 Tryz.isAgg49 Tryz.sizeOf49 encPr (fun _ => rfl) (fun x v hv => by simp [encPr] at hv; rcases hv with rfl | rfl <;> rfl) Tryz.eqAddr Tryz.neAddr ([], []) Tryz.zeroValue49 g 0 cap d' _ hH2 (by rw [hds]; omega) (by rw [hds]; exact hcap)
 rw [hds] at hc
 refine Calls.mono hc ?_
 rintro e W3 ⟨rfl, q, F, hF, rfl, hFx⟩
 rw [← hds] at hF hFx
 have := left_pr (nn := nn) (q := q) (os := os) hb hg hg1 hcap hm hcs hd hF hFx
 rw [hds] at this
 exact this
set_option maxHeartbeats 2000000 in
set_option maxRecDepth 100000 in
theorem Tryz.SortAddrs_some (bk o cap : Nat) (l : List Pr) (w : World) (h0 : 0 < l.length) (hc : ∀ j x, l[j]? = some x → ∀ t v, (encPr x)[t]? = some v → w.cell? ⟨bk, o + j * 2 + t, none⟩ = some v) (hb : bk < w.heap.size) (hl : l.length ≤ 1099511627776) (hcap : l.length ≤ cap) :
    Calls Tryz.prog 92 #[.slice (some ⟨bk, o, none⟩) l.length cap] w fun e w' => LeftPr w l e w' := by
  obtain ⟨i0, hi, hz0, hz1, hz2⟩ := info_parts Tryz.infoAddr
  have hnews : ∀ (W : World), RowKit.Below w.heap.size w W → ∀ j u, (l.flatMap encPr)[j]? = some u → W.cell? ((⟨bk, o, none⟩ : Addr).add j) = some u := fun W hW j u hj => by
    have hjl : j < l.length * 2 := by rw [← news_len]; exact (List.getElem?_eq_some_iff.1 hj).1
    rw [news_get] at hj
    have hj2 : j / 2 < l.length := by omega
    rw [List.getElem?_eq_getElem hj2, Option.bind_some] at hj
    have := hc (j / 2) _ (List.getElem?_eq_getElem hj2) (j % 2) u hj
    rw [Addr.add_lit, hW.cell (p := ⟨bk, o + j, none⟩) hb]
    rwa [show o + j / 2 * 2 + j % 2 = o + j by omega] at this
  have HN : Aside (∀ (W : World), RowKit.Below w.heap.size w W → ∀ j u, (l.flatMap encPr)[j]? = some u → W.cell? ((⟨bk, o, none⟩ : Addr).add j) = some u) := hnews
  clear hnews hc
  have H1 : Aside (∀ u ∈ l.flatMap encPr, u.oneCell' = true) := fun u hu => by
    obtain ⟨p, _, hp⟩ := List.mem_flatMap.1 hu
    simp [encPr] at hp
    rcases hp with rfl | rfl <;> rfl
  have HA : Aside (RowKit.Below w.heap.size w (w.alloc (.cells #[] 49 (0, 0)))) := (RowKit.Below.refl _ _).alloc (Nat.le_refl _) _
  have HO : Aside ((w.alloc (.cells #[] 49 (0, 0))).ownsRow w.heap.size 49 2 (.slice (some ⟨w.heap.size, 0, none⟩) 0 0) 0 []) := ⟨rfl, .inr ⟨w.heap.size, 0, #[], rfl, Nat.le_refl _, (show (w.heap.push _)[w.heap.size]? = _ by simp), Nat.le_refl _, Nat.zero_le _, rfl, rfl⟩⟩
  have NL := news_len l
  generalize hxs : l.flatMap encPr = news at HN H1 NL
  go_enter Tryz.func92, Tryz.ntmps92
  go_wp2_with (first
    | (at_builtin; refine wpList_append_lies _ rfl _ _ 58 rfl w.heap.size 49 i0 (.agg #[.string ByteArray.empty, .string ByteArray.empty]) 2 32 Tryz.underlying58 hi hz0 hz1 hz2 rfl (by decide) (.slice (some ⟨w.heap.size, 0, none⟩) 0 0) 0 [] rfl HO.out ⟨bk, o, none⟩ l.length cap news rfl NL (HN.out _ HA.out) H1.out h0 (by unfold maxLen; omega) (by omega) (show w.heap.size ≤ (w.heap.push _).size by simp) _ rfl ?_; intro g cap1 W1 hown hgrow hat hlt
       rw [List.nil_append, Nat.zero_add] at hown
       rw [← hxs] at hown
       obtain ⟨cur, hg1, hcs, hnl, hcap1, hm1, hbg, hH⟩ := holds_news hown
       have hb1 : RowKit.Below w.heap.size w W1 := RowKit.Below.grown HA.out hgrow (show w.heap.size ≤ (w.heap.push _).size by simp) (fun k hk => by simp [Value.ownBlock] at hk; omega)
       have hT := Tryz.sortTail l w W1 g cap1 cur hb1 hbg hg1 hcs hcap1 hm1 hl hH
       clear hown hgrow hat hlt hg1 hcs hnl hcap1 hm1 hbg hH hb1)
    | (go_at_call 155; refine hT.mono ?_; rintro e W2 ⟨rfl, hC⟩)
    | (go_at_call 157; refine hC.mono ?_; intro e W3 hL; obtain ⟨g3, cap3, cur3, ty3, rfl, hrest⟩ := id hL; have HL : Aside (LeftPr w l _ W3) := hL; clear hL hrest))
  go_ret
  exact HL.out
theorem run_append_none {P : Program} (w : World) (t ty e : TypeId) (i : TypeInfo) (ht : P.underlying t = some (.slice e)) (hi : P.info? e = some i) (p : Addr) (b : Option Addr) (cap : Nat) :
  (Builtin.append_ #[t, t] ty #[.slice (some p) 0 0, .slice b 0 cap]).run P w = .ok (.slice (some p) 0 0) w := by
 cases b <;> simp [Builtin.append_, run_underlying ht, sizeOf, typeInfo, hi, storeCells, loadCells, loadCellsFrom, Builtin.lenOf, Builtin.firstCells]
theorem wpList_append_none {P : Program} (w : World) {ops : Array Oper} {rest : List Oper} {o : Oper} {a : Act} {Q : Exit → Act → World → Prop} (hgd : o.guard = none) (s x : Operand) (t : TypeId)
  (ho : o.op = .call { callee := .builtin .append, args := #[s, x], argTypes := #[t, t] }) (e : TypeId) (i : TypeInfo) (ht : P.underlying t = some (.slice e)) (hi : P.info? e = some i) (p : Addr) (b : Option Addr) (cap : Nat)
  (hs : a.eval s = .slice (some p) 0 0) (hx : a.eval x = .slice b 0 cap) (h : wpList P ops Q rest (a.put o.dst (.slice (some p) 0 0)) w) : wpList P ops Q (o :: rest) a w :=
 wpList_plain hgd fun _ hK => by
  unfold Oper.wp execOp
  simp only [ho, resolve, invoke, builtin, Sem.run_bind, Sem.run_pure, Result.andThen_ok, List.map_toArray, List.map_cons, List.map_nil, hs, hx, run_append_none w t o.type e i ht hi p b cap]
  exact hK _ _ h
set_option maxHeartbeats 2000000 in
set_option maxRecDepth 100000 in
theorem Tryz.SortAddrs_none (a : Option Addr) (cap : Nat) (w : World) :
  Calls Tryz.prog 92 #[.slice a 0 cap] w fun e w' => LeftPr w [] e w' := by
 obtain ⟨i0, hi, hz0, hz1, hz2⟩ := info_parts Tryz.infoAddr
 have hT := Tryz.sortTail [] w (w.alloc (.cells #[] 49 (0, 0))) w.heap.size 0 #[] ((RowKit.Below.refl _ _).alloc (Nat.le_refl _) _) (Nat.le_refl _) (show (w.heap.push _)[w.heap.size]? = _ by simp) rfl (Nat.le_refl _) (Nat.zero_le _) (Nat.zero_le _) (fun t ht => by simp at ht)
 change Calls Tryz.prog 155 #[.slice (some ⟨w.heap.size, 0, none⟩) 0 0, .func (.func 156) #[] #[]] _ (fun e W2 => e = .returned (.tuple #[]) ∧ Calls Tryz.prog 157 #[.slice (some ⟨w.heap.size, 0, none⟩) 0 0] W2 (LeftPr w [])) at hT
 go_enter Tryz.func92, Tryz.ntmps92
 go_wp2_with (first
  | (at_builtin; refine wpList_append_none _ rfl _ _ 58 rfl 49 i0 Tryz.underlying58 hi ⟨w.heap.size, 0, none⟩ a cap rfl rfl ?_)
  | (go_at_call 155; refine hT.mono ?_; rintro e W2 ⟨rfl, hC⟩)
  | (go_at_call 157; refine hC.mono ?_; intro e W3 hL; obtain ⟨g3, cap3, cur3, ty3, rfl, hrest⟩ := id hL; have HL : Aside (LeftPr w [] _ W3) := hL; clear hL hrest))
 go_ret
 exact HL.out
end Go.Proofs
end
section
set_option linter.unusedVariables false
namespace Go.Am
open Go Go.Proofs
theorem extAns : Answers Go.Proofs.Tryz.prog ext0 := ext_cons (ext_sortPr Tryz.func92 (by kernel_rfl) (by kernel_rfl) Tryz.SortAddrs_none Tryz.SortAddrs_some) (ext_cons (ext_cmp Tryz.func195 (by kernel_rfl) (by kernel_rfl) Tryz.strings_Compare) (ext_nil))
end Go.Am
end
section
set_option linter.unusedVariables false
set_option linter.unusedSimpArgs false
namespace Go.Am
open Go
section
variable {P : Program} {fl : Nat → Bool} {n t e : Nat} {vs : List V}
theorem cn_bool (h : Cn P fl n t vs) (hu : P.underlying t = some .bool) : ∃ b, vs = [.bool b] := by
 cases n with
 | zero => cases h
 | succ n => unfold Cn at h; rw [hu] at h; exact h
theorem cn_int {k : IntKind} (h : Cn P fl n t vs) (hu : P.underlying t = some (.int k)) : ∃ m, vs = [.int k m] ∧ (Lit.int k m).wf = true := by
 cases n with
 | zero => cases h
 | succ n => unfold Cn at h; rw [hu] at h; exact h
theorem cn_str (h : Cn P fl n t vs) (hu : P.underlying t = some .string) : ∃ s, vs = [.str s] ∧ s.length ≤ maxLen := by
 cases n with
 | zero => cases h
 | succ n => unfold Cn at h; rw [hu] at h; exact h
def fieldsC (P : Program) (fl : Nat → Bool) (n : Nat) (vs : List V) : List Field → Prop
 | [] => True
 | f :: fs => Cn P fl n f.type ((vs.drop f.offset).take (P.cellsOf f.type)) ∧ fieldsC P fl n vs fs
theorem cn_struct {fs : Array Field} (h : Cn P fl n t vs) (hu : P.underlying t = some (.struct fs)) : ∃ m, vs.length = P.cellsOf t ∧ fieldsC P fl m vs fs.toList := by
 cases n with
 | zero => cases h
 | succ n =>
  unfold Cn at h
  rw [hu] at h
  refine ⟨n, h.1, ?_⟩
  have : ∀ l : List Field, (∀ f ∈ l, Cn P fl n f.type ((vs.drop f.offset).take (P.cellsOf f.type))) → fieldsC P fl n vs l := by
   intro l
   induction l with
   | nil => intro _; trivial
   | cons f l ih => intro g; exact ⟨g f (by simp), ih (fun f hf => g f (by simp [hf]))⟩
  exact this _ h.2
theorem cn_rows {fs : Array Field} (h : Cn P fl n t vs) (hu : P.underlying t = some (.slice e)) (he : P.underlying e = some (.struct fs)) : ∃ m rows, vs = [.sl (P.cellsOf e) (fl e) rows] ∧ rows.length ≤ maxLen ∧ ∀ r ∈ rows, ∃ us, Cn P fl m e us ∧ r = .agg us := by
 cases n with
 | zero => cases h
 | succ n =>
  unfold Cn at h
  rw [hu] at h
  obtain ⟨rows, h1, h2, h3⟩ := h
  refine ⟨n, rows, h1, h2, fun r hr => ?_⟩
  obtain ⟨us, _, g2, g3⟩ := h3 r hr
  rw [he] at g3
  exact ⟨us, g2, g3⟩
theorem cn_rows1 (h : Cn P fl n t vs) (hu : P.underlying t = some (.slice e)) (he : ∀ fs, P.underlying e ≠ some (.struct fs)) : ∃ m rows, vs = [.sl (P.cellsOf e) (fl e) rows] ∧ rows.length ≤ maxLen ∧ ∀ r ∈ rows, ∃ us, Cn P fl m e us ∧ r = us.headD .undef := by
 cases n with
 | zero => cases h
 | succ n =>
  unfold Cn at h
  rw [hu] at h
  obtain ⟨rows, h1, h2, h3⟩ := h
  refine ⟨n, rows, h1, h2, fun r hr => ?_⟩
  obtain ⟨us, _, g2, g3⟩ := h3 r hr
  refine ⟨us, g2, ?_⟩
  rw [g3]
  cases hd : P.underlying e with
  | none => rfl
  | some d => cases d <;> first | rfl | exact absurd hd (he _)
theorem pack_struct {fs : Array Field} (hu : P.underlying t = some (.struct fs)) : packT P t vs = .agg vs := by unfold packT; rw [hu]
theorem rows_of {T : Type} {ks : List CK} {g : T → cellsT ks} {ok : T → Prop} {l : List V} (h : ∀ r ∈ l, ∃ y, ok y ∧ r = rowEnc true ks (g y)) : ∃ ys, l = rows ks g ys ∧ ∀ y ∈ ys, ok y := by
 induction l with
 | nil => exact ⟨[], rfl, fun y hy => by cases hy⟩
 | cons r l ih =>
  obtain ⟨ys, h1, h2⟩ := ih (fun r hr => h r (by simp [hr]))
  obtain ⟨y, g1, g2⟩ := h r (by simp)
  exact ⟨y :: ys, by rw [g2, h1]; rfl, fun z hz => (List.mem_cons.1 hz).elim (fun e => e ▸ g1) (fun hz => h2 z hz)⟩
theorem rows1_of {T : Type} {kd : CK} {g : T → kd.T} {ok : T → Prop} {l : List V} (h : ∀ r ∈ l, ∃ y, ok y ∧ r = kd.enc (g y)) : ∃ ys, l = rows1 kd g ys ∧ ∀ y ∈ ys, ok y := by
 induction l with
 | nil => exact ⟨[], rfl, fun y hy => by cases hy⟩
 | cons r l ih =>
  obtain ⟨ys, h1, h2⟩ := ih (fun r hr => h r (by simp [hr]))
  obtain ⟨y, g1, g2⟩ := h r (by simp)
  exact ⟨y :: ys, by rw [g2, h1]; rfl, fun z hz => (List.mem_cons.1 hz).elim (fun e => e ▸ g1) (fun hz => h2 z hz)⟩
end
end Go.Am
end
section
set_option linter.unusedVariables false
set_option linter.unusedSimpArgs false
namespace Go.Am
open Go
section
variable {β T : Type} {ks : List CK} {g : T → cellsT ks} {size : T → Nat} {ok : T → Prop} {z : T} {zero : V} {C : Int}
abbrev OLf := Option (List Leaf ⊕ (Nat × List Leaf))
theorem szS_g (F : cellsT ks → Int → (Int → OLf) → OLf) (hF : ∀ y m, 0 ≤ m → m ≤ 1048576 → ok y → ∀ k, F (g y) m k = k (szL m (size y))) (a : List T) (l : Int) (h0 : 0 ≤ l) (h1 : l ≤ 1048576) (h : okL ok a) (k : Int → Option β) :
  br (decide (IntKind.wrap .i64 (l - ((rows ks g a).length : Int)) < 0)) (
   k (-1)) (
   whileK (fun s1 =>
   br (decide ((lI s1 2) < ((lL s1 0).length : Int))) (
   chk (0 ≤ (lI s1 2)) <|
   idx true ks (lL s1 0) ((lI s1 2).toNat) fun e2 =>
   F e2 (lI s1 1) fun n3 =>
   br (decide (n3 < 0)) (
   some (.inr (0, [.i n3, .i (-1)]))) (
   some (.inl [.l (lL s1 0), .i n3, .i (IntKind.wrap .i64 ((lI s1 2) + 1))]))) (
   some (.inr (1, [.i (lI s1 1)])))) [.l (rows ks g a), .i (IntKind.wrap .i64 (l - ((rows ks g a).length : Int))), .i 0] fun (r4 : Nat × List Leaf) =>
   if r4.1 = 0 then
   k (lI r4.2 1)
   else
   k (lI r4.2 0)) = k (szL l (a.length + sumL size a)) := by
 simp only [rows_len]
 refine szCut h0 h1 h.1 (fun m e h0 h1 => ?_)
 rw [e]
 refine while_sz (fun (i : Nat) (m : Int) => ([.l (rows ks g a), .i m, .i (i : Int)] : List Leaf)) a size (fun m => (1, [.i m])) (fun i y m hi hm0 hm1 => ?_) (fun m => brN rirr rfl) (fun m => rfl) h0 h1 rfl
 have hlt : i < a.length := (gs_ hi).1
 have hb := h.1
 unfold maxLen at hb
 rcases @szCase m (size y) with ⟨c, e⟩ | ⟨c, e⟩
 ·exact .inl ⟨_, c, brE (rlt hlt) (chkE (Int.natCast_nonneg _) (idxE (i := i) hi ((hF y m hm0 hm1 (h.2 y (List.mem_of_getElem? hi)) _).trans (brE (by rw [e]; decide) rfl)))), rfl⟩
 ·exact .inr ⟨c, brE (rlt hlt) (chkE (Int.natCast_nonneg _) (idxE (i := i) hi ((hF y m hm0 hm1 (h.2 y (List.mem_of_getElem? hi)) _).trans (brN (by rw [e]; omega) (two (fun m j : Int => (some (Sum.inl ([.l (rows ks g a), .i m, .i j] : List Leaf)) : OLf)) e (wrapS (i := i) (by omega)))))))⟩
theorem toS_g (F : cellsT ks → (List V → OLf) → OLf) (hF : ∀ y, size y ≤ 1048576 → ∀ k, F (g y) k = k (cellsEnc ks (g y))) (hC : C ≤ 134217728 ∧ 0 ≤ C) (hz : zero = rowEnc true ks (g z)) (a : List T) (h : a.length + sumL size a ≤ 1048576) (k : List V → Option β) :
  chk (0 ≤ ((rows ks g a).length : Int) ∧ ((rows ks g a).length : Int) ≤ ((rows ks g a).length : Int) ∧ ((rows ks g a).length : Int) * C ≤ 140737488355328 ∧ ((rows ks g a).length : Int) ≤ 140737488355328) (
   whileK (fun s1 =>
   br (decide ((lI s1 2) < ((lL s1 0).length : Int))) (
   chk (0 ≤ (lI s1 2)) <|
   idx true ks (lL s1 0) ((lI s1 2).toNat) fun e2 =>
   F e2 fun new =>
   chk (0 ≤ (lI s1 2) ∧ (lI s1 2).toNat < (lL s1 1).length) <|
   storeO (lL s1 1) ((lI s1 2).toNat) 0 new fun l10 =>
   some (.inl [.l (lL s1 0), .l l10, .i (IntKind.wrap .i64 ((lI s1 2) + 1))])) (
   some (.inr (0, [.l (lL s1 1)])))) [.l (rows ks g a), .l (List.replicate (((rows ks g a).length : Int).toNat) zero), .i 0] fun (r11 : Nat × List Leaf) =>
   k (lL r11.2 0)) = k (rows ks g a) := by
 have hm : (a.length : Int) * C ≤ 140737488355328 := Int.le_trans (Int.mul_le_mul (show (a.length : Int) ≤ 1048576 by omega) hC.1 hC.2 (by omega)) (by decide)
 simp only [rows_len, whileK, Int.toNat_natCast]
 refine chkE ⟨by omega, by omega, hm, by omega⟩ ?_
 rw [while_each (fun i : Nat => ([.l (rows ks g a), .l (rows ks g (copyS a z i)), .i (i : Int)] : List Leaf)) a (0, [.l (rows ks g a)]) ?h1 ?h2 _ ?hs]
 case hs => rw [← rows_copy0 hz]; rfl
 case h1 =>
  intro i y hi
  have hlt : i < a.length := (gs_ hi).1
  have hl := copyS_len (a := a) (n := z) (i := i) (by omega)
  have hm := sumL_mem (f := size) (List.mem_of_getElem? hi)
  refine brE (rlt hlt) (chkE (Int.natCast_nonneg _) (idxE (i := i) hi ((hF y (by omega) _).trans (chkE ⟨Int.natCast_nonneg _, ?_⟩ (storeE (g := g) (y := y) (i := i) rfl (Nat.lt_of_lt_of_eq hlt hl.symm) ?_)))))
  ·show (Int.toNat (i : Int)) < (rows ks g (copyS a z i)).length
   rw [rows_len]; exact Nat.lt_of_lt_of_eq hlt hl.symm
  ·exact two (fun (c : List T) (j : Int) => (some (Sum.inl ([.l (rows ks g a), .l (rows ks g c), .i j] : List Leaf)) : OLf)) (copyS_set hi) (wrapS (i := i) (by omega))
 case h2 =>
  rw [copyS_end]
  exact brN rirr rfl
 ·rfl
theorem eqS_g [DecidableEq T] (F : cellsT ks → cellsT ks → (Bool → OLf) → OLf) (hF : ∀ x y, ok x → ∀ k, F (g x) (g y) k = k (decide (x = y))) (a b : List T) (h : okL ok a) (k : Bool → Option β) :
  br (((rows ks g a).length : Int) != ((rows ks g b).length : Int)) (
   k false) (
   whileK (fun s1 =>
   br (decide ((lI s1 2) < ((lL s1 0).length : Int))) (
   chk (0 ≤ (lI s1 2)) <|
   idx true ks (lL s1 0) ((lI s1 2).toNat) fun e2 =>
   chk (0 ≤ (lI s1 2)) <|
   idx true ks (lL s1 1) ((lI s1 2).toNat) fun e3 =>
   F e2 e3 fun b4 =>
   br (!b4) (
   some (.inr (0, [.b false]))) (
   some (.inl [.l (lL s1 0), .l (lL s1 1), .i (IntKind.wrap .i64 ((lI s1 2) + 1))]))) (
   some (.inr (1, [])))) [.l (rows ks g a), .l (rows ks g b), .i 0] fun (r5 : Nat × List Leaf) =>
   if r5.1 = 0 then
   k (lB r5.2 0)
   else
   k true) = k (decide (a = b)) := by
 refine eqLen (rows_len ..) (rows_len ..) (fun hl => ?_)
 refine while_eq (fun i : Nat => ([.l (rows ks g a), .l (rows ks g b), .i (i : Int)] : List Leaf)) a b hl (fun i x y hi hx hy => ?_) (brN rirr rfl) rfl rfl rfl
 have hb := h.1
 unfold maxLen at hb
 exact brE (rlt hi) (chkE (Int.natCast_nonneg _) (idxE (i := i) hx (chkE (Int.natCast_nonneg _) (idxE (i := i) hy ((hF x y (h.2 x (List.mem_of_getElem? hx)) _).trans (brB rfl rfl (congrArg (fun j : Int => (some (Sum.inl ([.l (rows ks g a), .l (rows ks g b), .i j] : List Leaf)) : OLf)) (wrapS (i := i) (by omega)))))))))
end
section
variable {P : Program} {fl : Nat → Bool} {n : Nat} {t e c : TypeId} {b : Bool} {vs : List V} {T : Type} {ks : List CK} {g : T → cellsT ks} {ok : T → Prop} {F : T → List V} {fs : Array Field}
theorem fBool (h : Cn P fl n t vs) (hu : P.underlying t = some .bool) : ∃ y : Bool, True ∧ vs = [.bool y] := by
 obtain ⟨y, z⟩ := cn_bool h hu
 exact ⟨y, trivial, z⟩
theorem fInt (h : Cn P fl n t vs) (hu : P.underlying t = some (.int .i64)) : ∃ y : Int, okI y ∧ vs = [.int .i64 y] := by
 obtain ⟨y, z, o⟩ := cn_int h hu
 exact ⟨y, okI_of o, z⟩
theorem fStr (h : Cn P fl n t vs) (hu : P.underlying t = some .string) : ∃ y : List UInt8, okS y ∧ vs = [.str y] := by
 obtain ⟨y, z, o⟩ := cn_str h hu
 exact ⟨y, o, z⟩
theorem fRows (h : Cn P fl n t vs) (hu : P.underlying t = some (.slice e)) (he : P.underlying e = some (.struct fs)) (hc : P.cellsOf e = c) (hb : fl e = b) (ho : ∀ {m : Nat} {us : List V}, Cn P fl m e us → ∃ a : T, ok a ∧ us = F a) (hr : ∀ a, V.agg (F a) = rowEnc true ks (g a)) :
  ∃ y : List T, okL ok y ∧ vs = [.sl c b (rows ks g y)] := by
 obtain ⟨_, r, z, l, w⟩ := cn_rows h hu he
 obtain ⟨y, rfl, v⟩ := rows_of (ks := ks) (g := g) (ok := ok) (fun r hr2 => by
  obtain ⟨us, h1, h2⟩ := w r hr2
  obtain ⟨a, h3, h4⟩ := ho h1
  exact ⟨a, h3, by rw [h2, h4]; exact hr a⟩)
 rw [hc, hb] at z
 exact ⟨y, ⟨by rw [rows_len] at l; exact l, v⟩, z⟩
theorem fStrs (h : Cn P fl n t vs) (hu : P.underlying t = some (.slice e)) (he : P.underlying e = some .string) (hc : P.cellsOf e = c) (hb : fl e = b) : ∃ y : List (List UInt8), okL okS y ∧ vs = [.sl c b (rStr y)] := by
 obtain ⟨_, r, z, l, w⟩ := cn_rows1 h hu (by rw [he]; intro fs hfs; cases hfs)
 obtain ⟨y, rfl, v⟩ := rows1_of (kd := .str) (g := fun e => e) (ok := okS) (fun r hr => by
  obtain ⟨us, h1, h2⟩ := w r hr
  obtain ⟨a, h3, h4⟩ := cn_str h1 he
  exact ⟨a, h4, by rw [h2, h3]; rfl⟩)
 rw [hc, hb] at z
 exact ⟨y, ⟨by rw [rows1_len] at l; exact l, v⟩, z⟩
theorem fInts (h : Cn P fl n t vs) (hu : P.underlying t = some (.slice e)) (he : P.underlying e = some (.int .i64)) (hc : P.cellsOf e = c) (hb : fl e = b) : ∃ y : List Int, okL okI y ∧ vs = [.sl c b (rInt y)] := by
 obtain ⟨_, r, z, l, w⟩ := cn_rows1 h hu (by rw [he]; intro fs hfs; cases hfs)
 obtain ⟨y, rfl, v⟩ := rows1_of (kd := .int .i64) (g := fun e => e) (ok := okI) (fun r hr => by
  obtain ⟨us, h1, h2⟩ := w r hr
  obtain ⟨a, h3, h4⟩ := cn_int h1 he
  exact ⟨a, okI_of h4, by rw [h2, h3]; rfl⟩)
 rw [hc, hb] at z
 exact ⟨y, ⟨by rw [rows1_len] at l; exact l, v⟩, z⟩
theorem glue {us vs ws : List V} {o m c : Nat} (hc : m = c) (h : (us.drop o).take m = vs) (h2 : us.drop (o + c) = ws) : us.drop o = vs ++ ws := by
 subst hc
 rw [← h, ← h2, ← List.drop_drop, List.take_append_drop]
end
end Go.Am
end

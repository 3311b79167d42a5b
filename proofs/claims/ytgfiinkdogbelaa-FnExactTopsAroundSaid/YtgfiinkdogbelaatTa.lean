/-
  The data of the laws: structures, their rows, their sizes; and what laws.sz.., laws.to.., laws.eq.. compute on them. Written by program (typed.py).
-/
import Derived.Shelf.Lays
import Derived.Test.YtgfiinkdogbelaaProg
import Derived.Test.YtgfiinkdogbelaatAmCfg
import Derived.Shelf.Slices.In.SortAlone
import Derived.Shelf.Slices.In.SortNone
import Derived.RegionTactic
import Derived.WalkKit
import Derived.Shelf.Small.Bits
import Derived.Shelf.Strconv.Itoa0
import Derived.Shelf.Sort.Plain
import Derived.Shelf.Slices.Turned
import Derived.Ground.SlgfProg
import Derived.Shelf.SlicesE.IndexFunc
import Derived.Shelf.SlicesE.DeleteFunc
import Derived.Test.YtgfiinkdogbelaatAmSize
import Derived.Test.YtgfiinkdogbelaatAmPure
import Derived.Test.YtgfiinkdogbelaatFa
section
namespace Go.Proofs
open Go.Shelf
def Try.laysSort_ren : Go.Shelf.Ren := ⟨fun | 190 => 40 | 125 => 55 | 258 => 54 | 128 => 73 | 129 => 74 | 302 => 64 | 303 => 65 | 304 => 66 | 305 => 67 | 306 => 68 | 307 => 69 | 308 => 70 | 309 => 71 | 310 => 72 | 333 => 77 | 329 => 78 | 330 => 79 | 334 => 80 | 335 => 81 | 336 => 82 | 344 => 83 | n => n, fun | 31 => 30 | 9 => 9 | 3 => 3 | 46 => 104 | 0 => 0 | 51 => 127 | 53 => 129 | 4 => 4 | 183 => 119 | 182 => 118 | 131 => 124 | 5 => 5 | 218 => 132 | 222 => 136 | 228 => 138 | 229 => 139 | n => n, fun | n => n⟩
theorem Try.laysSort : Go.Proofs.Lays.n190 Try.prog Try.laysSort_ren := {
  mixed := by kernel_rfl
  f125 := Try.func55.trans (congrArg some (by kernel_rfl))
  f128 := Try.func73.trans (congrArg some (by kernel_rfl))
  f129 := Try.func74.trans (congrArg some (by kernel_rfl))
  f190 := Try.func40.trans (congrArg some (by kernel_rfl))
  f258 := Try.func54.trans (congrArg some (by kernel_rfl))
  f302 := Try.func64.trans (congrArg some (by kernel_rfl))
  f303 := Try.func65.trans (congrArg some (by kernel_rfl))
  f304 := Try.func66.trans (congrArg some (by kernel_rfl))
  f305 := Try.func67.trans (congrArg some (by kernel_rfl))
  f306 := Try.func68.trans (congrArg some (by kernel_rfl))
  f307 := Try.func69.trans (congrArg some (by kernel_rfl))
  f308 := Try.func70.trans (congrArg some (by kernel_rfl))
  f309 := Try.func71.trans (congrArg some (by kernel_rfl))
  f310 := Try.func72.trans (congrArg some (by kernel_rfl))
  f329 := Try.func78.trans (congrArg some (by kernel_rfl))
  f330 := Try.func79.trans (congrArg some (by kernel_rfl))
  f333 := Try.func77.trans (congrArg some (by kernel_rfl))
  f334 := Try.func80.trans (congrArg some (by kernel_rfl))
  f335 := Try.func81.trans (congrArg some (by kernel_rfl))
  f336 := Try.func82.trans (congrArg some (by kernel_rfl))
  f344 := Try.func83.trans (congrArg some (by kernel_rfl))
  t0 := Try.underlying0
  a0 := Try.isAgg0
  z0 := Try.sizeOf0
  v0 := Try.zeroValue0
  t3 := Try.underlying3
  a3 := Try.isAgg3
  z3 := Try.sizeOf3
  v3 := Try.zeroValue3
  t4 := Try.underlying4
  a4 := Try.isAgg4
  z4 := Try.sizeOf4
  v4 := Try.zeroValue4
  t5 := Try.underlying5
  a5 := Try.isAgg5
  z5 := Try.sizeOf5
  v5 := Try.zeroValue5
  t9 := Try.underlying9
  a9 := Try.isAgg9
  z9 := Try.sizeOf9
  v9 := Try.zeroValue9
  t31 := Try.underlying30
  a31 := Try.isAgg30
  z31 := Try.sizeOf30
  v31 := Try.zeroValue30
  t46 := Try.underlying104
  a46 := Try.isAgg104
  z46 := Try.sizeOf104
  v46 := Try.zeroValue104
  t51 := Try.underlying127
  a51 := Try.isAgg127
  z51 := Try.sizeOf127
  v51 := Try.zeroValue127
  t53 := Try.underlying129
  a53 := Try.isAgg129
  z53 := Try.sizeOf129
  v53 := Try.zeroValue129
  t131 := Try.underlying124
  a131 := Try.isAgg124
  z131 := Try.sizeOf124
  v131 := Try.zeroValue124
  t182 := Try.underlying118
  a182 := Try.isAgg118
  z182 := Try.sizeOf118
  v182 := Try.zeroValue118
  t183 := Try.underlying119
  a183 := Try.isAgg119
  z183 := Try.sizeOf119
  v183 := Try.zeroValue119
  t218 := Try.underlying132
  a218 := Try.isAgg132
  z218 := Try.sizeOf132
  v218 := Try.zeroValue132
  t222 := Try.underlying136
  a222 := Try.isAgg136
  z222 := Try.sizeOf136
  v222 := Try.zeroValue136
  t228 := Try.underlying138
  a228 := Try.isAgg138
  z228 := Try.sizeOf138
  v228 := Try.zeroValue138
  t229 := Try.underlying139
  a229 := Try.isAgg139
  z229 := Try.sizeOf139
  v229 := Try.zeroValue139 }
end Go.Proofs
end
section
set_option linter.unusedVariables false
set_option linter.unusedSimpArgs false
namespace Go.Proofs
open Go Go.Am Go.Shelf Go.RowKit Go.Lib Go.Sort
theorem sortE (blk off cap : Nat) (ss : List (List UInt8)) (w : World) (hH : Holds encStr w blk off ss.toArray) (hblk : blk < w.heap.size) (hsz : ss.length < 4611686018427387904) :
  Calls Try.prog 40 #[.slice (some ⟨blk, off, none⟩) ss.length cap] w fun e w' => e = .returned (.tuple #[]) ∧ ∃ n os, w' = grow (putRow encStr (Sort.ahead w n) blk off (ss.mergeSort fun x y => decide (x ≤ y)).toArray) os :=
 calls_of_every_depth fun D => AnyS.slices_Sort_string_alone Try.laysSort D blk off cap ss w hH hblk hsz
theorem sortE0 (cap : Nat) (w : World) : Calls Try.prog 40 #[.slice none 0 cap] w fun e w' => e = .returned (.tuple #[]) ∧ w' = w := Any.slices_Sort_string_none Try.laysSort none cap w
theorem block_putStr {w : World} {blk o : Nat} {d : Array (List UInt8)} {cur : Array Value} {ty : TypeId} (h : w.heap[blk]? = some (.cells cur ty (0, 0))) (hs : o + d.size ≤ cur.size) :
  ∃ cur' : Array Value, (putRow encStr w blk o d).heap[blk]? = some (.cells cur' ty (0, 0)) ∧ cur'.size = cur.size ∧ ∀ t, t < d.size → cur'[o + t]? = some (encStr d[t]!) := by
 refine ⟨putCells encStr o d cur, ?_, by simp [putCells], fun t ht => ?_⟩
 ·simp [putRow, mapBlock, Array.getElem?_modify, h, onCells]
 ·have : o + t < cur.size := by omega
  simp [putCells, Array.getElem?_mapIdx, this, ht]
theorem kept_sort {w0 w : World} {g o n : Nat} {d : Array (List UInt8)} {os : Array Obj} (h : Kept w0 w) (hg : w0.heap.size ≤ g) : Kept w0 (grow (putRow encStr (Sort.ahead w n) g o d) os) := by
 obtain ⟨h1, h2, h3, h4, h5⟩ := h
 refine ⟨h1, h2, h3, ?_, fun k hk => ?_⟩
 ·simp only [grow, Array.size_append, size_putRow, heap_ahead]
  omega
 ·rw [heap_grow_old _ _ (by rw [size_putRow, heap_ahead]; omega), ← h5 k hk]
  simp [putRow, mapBlock, Sort.ahead, Array.getElem?_modify, show g ≠ k by omega]
theorem Try.topsTail {R : Nat → Prop} {w1 W : World} {v r : V} {x : Value} (hans : Answer R w1 v x W) (hsv : sortStrV v = some r) :
  Calls Try.prog 40 #[x] W fun e W2 => e = .returned (.tuple #[]) ∧ ∀ w, Kept w w1 → Answer R w r x W2 := by
 unfold sortStrV at hsv
 split at hsv
 ·rename_i j xs
  split at hsv
  ·rename_i l hl
   split at hsv
   ·rename_i hlen
    injection hsv with hsv
    subst hsv
    have hxl := strsOf_inv hl
    rcases hans.own1 with ⟨h0, rfl⟩ | ⟨g, o, cap, cur, ty, rfl, hng, hgg, hcap, hm, hcs, hrow⟩
    ·have hl0 : l = [] := by
      rw [h0] at hxl
      cases l with
      | nil => rfl
      | cons a l => cases hxl
     subst hl0
     refine (sortE0 0 W).mono ?_
     rintro e W2 ⟨rfl, rfl⟩
     have e0 : rStr (sortS []) = [] := by
      simp [sortS]
      rfl
     rw [e0]
     exact ⟨rfl, fun w hw => answer_ownNil (hw.trans (Kept.of_answer hans))⟩
    ·have hlx : xs.length = l.length := by rw [hxl]; simp
     have hlt : g < W.heap.size := by
      rcases Nat.lt_or_ge g W.heap.size with h | h
      ·exact h
      ·rw [Array.getElem?_eq_none h] at hgg; cases hgg
     have hH : Holds encStr W g o l.toArray := fun t ht => by
      have ht' : t < l.length := by simpa using ht
      obtain ⟨c, hc, y, hy, S, hrd⟩ := hrow t (.str l[t]) (by rw [hxl, List.getElem?_map, List.getElem?_eq_getElem ht']; rfl)
      simp only [V.cells, List.cons.injEq, and_true] at hc
      subst hc
      refine ⟨?_, by simp [World.frozen?, hgg]⟩
      rw [hy, rd_pr_str hrd]
      simp [ht', encStr]
     have hsort := sortE g o cap l W hH hlt (by omega)
     rw [← hlx] at hsort
     refine hsort.mono ?_
     rintro e W2 ⟨rfl, n, os, rfl⟩
     refine ⟨rfl, fun w hw => ?_⟩
     have hms : (sortS l).length = xs.length := by rw [hlx]; simp [sortS]
     obtain ⟨cur2, hg2, hs2, hc2⟩ := block_putStr (w := Sort.ahead W n) (blk := g) (o := o) (d := (sortS l).toArray) (cur := cur) (ty := ty) hgg (by simp only [List.size_toArray]; omega)
     have hg3 : (grow (putRow encStr (Sort.ahead W n) g o (sortS l).toArray) os).heap[g]? = some (.cells cur2 ty (0, 0)) := by
      rw [heap_grow_old _ _ (by rw [size_putRow, heap_ahead]; exact hlt)]
      exact hg2
     have hkw : Kept w (grow (putRow encStr (Sort.ahead W n) g o (sortS l).toArray) os) := hw.trans (kept_sort (Kept.of_answer hans) hng)
     have := answer_own (R := R) (s := 1) (q := .flat) (ys := rStr (sortS l)) (o := o) (g := g) (cap := cap) (cur := cur2) (ty := ty) hkw (fun _ x hx c hc => by
      obtain ⟨p, _, rfl⟩ := List.mem_map.1 hx
      simp only [CK.enc, V.cells, List.mem_cons, List.not_mem_nil, or_false] at hc
      subst hc
      exact trivial) (Nat.le_trans hw.2.2.2.1 hng) hg3 (by rw [rStr_len]; omega) hm (by omega) ⟨fun x hx => by
       obtain ⟨p, _, rfl⟩ := List.mem_map.1 hx
       rfl, fun i _ => encStr (sortS l).toArray[i]!, fun i j hi hj => ?_, fun i x j c hx hc => ?_⟩
     ·rw [rStr_len, hms] at this
      exact this
     ·rw [rStr_len] at hi
      have hj0 : j = 0 := by omega
      subst hj0
      have hcc := hc2 i (by simpa using hi)
      refine ⟨?_, rfl⟩
      simp only [World.cell?, hg3, Nat.mul_one, Nat.add_zero]
      exact hcc
     ·have hi := (List.getElem?_eq_some_iff.1 hx).1
      rw [rStr_len] at hi
      have hx2 : x = .str (sortS l)[i] := by
       rw [show rStr (sortS l) = (sortS l).map V.str from rfl, List.getElem?_map, List.getElem?_eq_getElem hi] at hx
       injection hx with hx
       exact hx.symm
      subst hx2
      have hj0 : c = .str (sortS l)[i] := by
       match j, hc with
       | 0, hc => injection hc with hc; exact hc.symm
       | j + 1, hc => simp [V.cells] at hc
      subst hj0
      show Rd _ _ _ (encStr (sortS l).toArray[i]!)
      have e5 : (sortS l).toArray[i]! = (sortS l)[i] := by simp [hi]
      rw [e5]
      exact .str _ _ rfl
   ·cases hsv
  ·cases hsv
 ·cases hsv
set_option maxHeartbeats 2000000 in
set_option maxRecDepth 100000 in
theorem Try.sortedTops_ok {d : Nat → List V → Option V} (hA : Answers Try.prog d) : ExtOk Try.prog 21 (topsV (d 39)) := by
 intro args r h
 refine ⟨⟨Try.f21, Try.func21, rfl, by decide⟩, fun R w vals hg hR hl hv => ?_⟩
 unfold topsV at h
 split at h
 ·rename_i a1 b1 c1 a2 b2 c2 a3 b3 c3 k n hs
  obtain ⟨v, hd, hsv⟩ := bind_inv h
  obtain ⟨x, y, rfl, e0, e1⟩ := vals2 hl
  have hx := hv 0 _ _ rfl e0
  have hy := hv 1 _ _ rfl e1
  obtain ⟨sp, rfl, hsp⟩ := rd_str hy
  cases hx with
  | agg _ vs hlen hr =>
   obtain ⟨v0, v1, v2, v3, rfl⟩ : ∃ v0 v1 v2 v3, vs = #[v0, v1, v2, v3] := by
    obtain ⟨l⟩ := vs
    match l, hlen with
    | [v0, v1, v2, v3], _ => exact ⟨v0, v1, v2, v3, rfl⟩
   obtain ⟨p0, q0, r0, rfl⟩ := rd_sl (hr 0 _ v0 rfl rfl)
   obtain ⟨p1, q1, r1, rfl⟩ := rd_sl (hr 1 _ v1 rfl rfl)
   obtain ⟨p2, q2, r2, rfl⟩ := rd_sl (hr 2 _ v2 rfl rfl)
   obtain rfl := rd_int (hr 3 _ v3 rfl rfl)
   have hK := Kept.alloc w (.cells #[.slice p0 q0 r0, .slice p1 q1 r1, .slice p2 q2 r2, .int k n] 38 (0, 0))
   have hT0 := (hA 39 _ _ hd).2 R _ #[.agg #[.slice p0 q0 r0, .slice p1 q1 r1, .slice p2 q2 r2, .int k n], .string sp] (hK.glob hg) (hK.lt hR) rfl (fun i c v h1 h2 => hK.rd hR (hv i c v h1 h2))
   have hT : Calls Try.prog 39 #[.agg #[.slice p0 q0 r0, .slice p1 q1 r1, .slice p2 q2 r2, .int k n], .string sp] (w.alloc (.cells #[.slice p0 q0 r0, .slice p1 q1 r1, .slice p2 q2 r2, .int k n] 38 (0, 0))) (fun e w' => ∃ x, e = .returned x ∧ Calls Try.prog 40 #[x] w' fun e W2 => e = .returned (.tuple #[]) ∧ Answer R w r x W2) :=
    hT0.mono (fun e w' h => by
     cases e with
     | returned x => exact ⟨x, rfl, (Try.topsTail h hsv).mono (fun e W2 ⟨h1, h2⟩ => ⟨h1, h2 w hK⟩)⟩
     | _ => exact h.elim)
   clear hT0 hr hv hd hsv h hK hg hR hl e0 e1 hy hsp hlen
   go_enter Try.func21, Try.ntmps21
   go_wp2_with (first
    | (go_at_call 39; refine hT.mono ?_; rintro e w1 ⟨x1, rfl, hC⟩)
    | (go_at_call 40; refine hC.mono ?_; rintro e w2 ⟨rfl, hans⟩))
   go_ret
   exact hans
 ·cases h
end Go.Proofs
end
section
namespace Go.Proofs
open Go.Shelf
def Try.lays190_ren : Go.Shelf.Ren := ⟨fun | 190 => 40 | 125 => 55 | 258 => 54 | 128 => 73 | 129 => 74 | 302 => 64 | 303 => 65 | 304 => 66 | 305 => 67 | 306 => 68 | 307 => 69 | 308 => 70 | 309 => 71 | 310 => 72 | 333 => 77 | 329 => 78 | 330 => 79 | 334 => 80 | 335 => 81 | 336 => 82 | 344 => 83 | n => n, fun | 31 => 30 | 9 => 9 | 3 => 3 | 46 => 104 | 0 => 0 | 51 => 127 | 53 => 129 | 4 => 4 | 183 => 119 | 182 => 118 | 131 => 124 | 5 => 5 | 218 => 132 | 222 => 136 | 228 => 138 | 229 => 139 | n => n, fun | n => n⟩
theorem Try.lays190 : Go.Proofs.Lays.n190 Try.prog Try.lays190_ren := {
  mixed := by kernel_rfl
  f125 := Try.func55.trans (congrArg some (by kernel_rfl))
  f128 := Try.func73.trans (congrArg some (by kernel_rfl))
  f129 := Try.func74.trans (congrArg some (by kernel_rfl))
  f190 := Try.func40.trans (congrArg some (by kernel_rfl))
  f258 := Try.func54.trans (congrArg some (by kernel_rfl))
  f302 := Try.func64.trans (congrArg some (by kernel_rfl))
  f303 := Try.func65.trans (congrArg some (by kernel_rfl))
  f304 := Try.func66.trans (congrArg some (by kernel_rfl))
  f305 := Try.func67.trans (congrArg some (by kernel_rfl))
  f306 := Try.func68.trans (congrArg some (by kernel_rfl))
  f307 := Try.func69.trans (congrArg some (by kernel_rfl))
  f308 := Try.func70.trans (congrArg some (by kernel_rfl))
  f309 := Try.func71.trans (congrArg some (by kernel_rfl))
  f310 := Try.func72.trans (congrArg some (by kernel_rfl))
  f329 := Try.func78.trans (congrArg some (by kernel_rfl))
  f330 := Try.func79.trans (congrArg some (by kernel_rfl))
  f333 := Try.func77.trans (congrArg some (by kernel_rfl))
  f334 := Try.func80.trans (congrArg some (by kernel_rfl))
  f335 := Try.func81.trans (congrArg some (by kernel_rfl))
  f336 := Try.func82.trans (congrArg some (by kernel_rfl))
  f344 := Try.func83.trans (congrArg some (by kernel_rfl))
  t0 := Try.underlying0
  a0 := Try.isAgg0
  z0 := Try.sizeOf0
  v0 := Try.zeroValue0
  t3 := Try.underlying3
  a3 := Try.isAgg3
  z3 := Try.sizeOf3
  v3 := Try.zeroValue3
  t4 := Try.underlying4
  a4 := Try.isAgg4
  z4 := Try.sizeOf4
  v4 := Try.zeroValue4
  t5 := Try.underlying5
  a5 := Try.isAgg5
  z5 := Try.sizeOf5
  v5 := Try.zeroValue5
  t9 := Try.underlying9
  a9 := Try.isAgg9
  z9 := Try.sizeOf9
  v9 := Try.zeroValue9
  t31 := Try.underlying30
  a31 := Try.isAgg30
  z31 := Try.sizeOf30
  v31 := Try.zeroValue30
  t46 := Try.underlying104
  a46 := Try.isAgg104
  z46 := Try.sizeOf104
  v46 := Try.zeroValue104
  t51 := Try.underlying127
  a51 := Try.isAgg127
  z51 := Try.sizeOf127
  v51 := Try.zeroValue127
  t53 := Try.underlying129
  a53 := Try.isAgg129
  z53 := Try.sizeOf129
  v53 := Try.zeroValue129
  t131 := Try.underlying124
  a131 := Try.isAgg124
  z131 := Try.sizeOf124
  v131 := Try.zeroValue124
  t182 := Try.underlying118
  a182 := Try.isAgg118
  z182 := Try.sizeOf118
  v182 := Try.zeroValue118
  t183 := Try.underlying119
  a183 := Try.isAgg119
  z183 := Try.sizeOf119
  v183 := Try.zeroValue119
  t218 := Try.underlying132
  a218 := Try.isAgg132
  z218 := Try.sizeOf132
  v218 := Try.zeroValue132
  t222 := Try.underlying136
  a222 := Try.isAgg136
  z222 := Try.sizeOf136
  v222 := Try.zeroValue136
  t228 := Try.underlying138
  a228 := Try.isAgg138
  z228 := Try.sizeOf138
  v228 := Try.zeroValue138
  t229 := Try.underlying139
  a229 := Try.isAgg139
  z229 := Try.sizeOf139
  v229 := Try.zeroValue139 }
open Go.RowKit Go.Sort in
theorem Try.slices_Sort_string_none (p : Option Addr) (cap : Nat) (w : World) :
  Calls Try.prog 40 #[.slice p 0 cap] w fun e w' => e = .returned (.tuple #[]) ∧ w' = w := Any.slices_Sort_string_none Try.lays190 p cap w
def Try.laysSlH6_f38_ren : Go.Shelf.Ren := ⟨fun | 6 => 38 | n => n, fun | 22 => 30 | 23 => 9 | 25 => 52 | 3 => 3 | 0 => 0 | 4 => 4 | n => n, fun | n => n⟩
theorem Try.laysSlH6_f38 : Go.Proofs.SlLaysH.n6 Try.prog Try.laysSlH6_f38_ren := {
  mixed := by kernel_rfl
  f6 := ⟨Try.f38.name, by decide, Try.func38.trans (congrArg some (by kernel_rfl))⟩
  t0 := Try.underlying0
  a0 := Try.isAgg0
  z0 := Try.sizeOf0
  v0 := Try.zeroValue0
  t3 := Try.underlying3
  a3 := Try.isAgg3
  z3 := Try.sizeOf3
  v3 := Try.zeroValue3
  t4 := Try.underlying4
  a4 := Try.isAgg4
  z4 := Try.sizeOf4
  v4 := Try.zeroValue4
  t22 := Try.underlying30
  a22 := Try.isAgg30
  z22 := Try.sizeOf30
  v22 := Try.zeroValue30
  a23 := Try.isAgg9
  z23 := Try.sizeOf9
  t25 := Try.underlying52
  a25 := Try.isAgg52
  z25 := Try.sizeOf52
  v25 := Try.zeroValue52 }
open Go.RowKit Go.Lib in
theorem Try.slices_IndexFunc_empty {α : Type} [Inhabited α] (a : Option Addr) (c : Nat) (fv : Value) (w : World) :
  Calls Try.prog 38 #[.slice a 0 c, fv] w fun e w' => e = .returned (.int .i64 (-1)) ∧ w' = w := AnyE.slices_IndexFunc_empty Try.laysSlH6_f38 a c fv w
def Try.laysSlH10_f20_ren : Go.Shelf.Ren := ⟨fun | 10 => 20 | 6 => 38 | n => n, fun | 22 => 30 | 23 => 9 | 25 => 52 | 3 => 3 | 4 => 4 | 0 => 0 | n => n, fun | n => n⟩
theorem Try.laysSlH10_f20 : Go.Proofs.SlLaysH.n10 Try.prog Try.laysSlH10_f20_ren := {
  mixed := by kernel_rfl
  f6 := ⟨Try.f38.name, by decide, Try.func38.trans (congrArg some (by kernel_rfl))⟩
  f10 := ⟨Try.f20.name, by decide, Try.func20.trans (congrArg some (by kernel_rfl))⟩
  t0 := Try.underlying0
  a0 := Try.isAgg0
  z0 := Try.sizeOf0
  v0 := Try.zeroValue0
  t3 := Try.underlying3
  a3 := Try.isAgg3
  z3 := Try.sizeOf3
  v3 := Try.zeroValue3
  t4 := Try.underlying4
  a4 := Try.isAgg4
  z4 := Try.sizeOf4
  v4 := Try.zeroValue4
  t22 := Try.underlying30
  a22 := Try.isAgg30
  z22 := Try.sizeOf30
  v22 := Try.zeroValue30
  a23 := Try.isAgg9
  z23 := Try.sizeOf9
  t25 := Try.underlying52
  a25 := Try.isAgg52
  z25 := Try.sizeOf52
  v25 := Try.zeroValue52 }
open Go.RowKit Go.Lib Go.Sort in
theorem Try.slices_DeleteFunc {α : Type} [Inhabited α] (enc : α → Value) (hO : OneCell enc) (p : α → Bool) (g : Nat) (lb : Array Value) (eg : ∀ args w, (callFunc g args).run Try.prog w = .ok (.enter g args) w) (zr : α) (v23 : ∀ w, (zeroValue 9).run Try.prog w = .ok (enc zr) w) (blk off cap : Nat) (d : Array α) (w : World) (hp : PredAt Try.prog g lb enc p w) (hpo : PredOver Try.prog g lb enc p blk off d.size w) (hH : Holds enc w blk off d) (hsz : d.size ≤ 9223372036854775807) (hcap : d.size ≤ cap) :
  Calls Try.prog 20 #[.slice (some ⟨blk, off, none⟩) d.size cap, .func (.func g) #[] lb] w fun e w' => e = .returned (.slice (some ⟨blk, off, none⟩) (d.toList.filter fun x => !p x).length cap) ∧ ∃ q, w' = putRow enc (Sort.ahead w q) blk off ((d.toList.filter fun x => !p x) ++ List.replicate (d.size - (d.toList.filter fun x => !p x).length) zr).toArray := AnyE.slices_DeleteFunc Try.laysSlH10_f20 enc hO p g lb eg zr v23 blk off cap d w hp hpo hH hsz hcap
end Go.Proofs
end
section
set_option linter.unusedVariables false
namespace Go.Am
open Go Go.Proofs
theorem extAns1 : Answers Go.Proofs.Try.prog ext1 := ext_nil
theorem ans1 : Answers Go.Proofs.Try.prog D1 := sound_den agree (fun den hD => drawOk agree (by kernel_rfl) hD) extAns1
theorem extAns : Answers Go.Proofs.Try.prog ext0 := ext_cons (Try.sortedTops_ok ans1) (extAns1)
end Go.Am
end
section
set_option linter.unusedVariables false
set_option linter.unusedSimpArgs false
namespace Go.Am
open Go
section
variable {P : Program} {fl : Nat → Bool} {n t e : Nat} {vs : List V}
theorem cn_bool (h : Cn P fl n t vs) (hu : P.underlying t = some .bool) : ∃ b, vs = [.bool b] := by
 cases n with
 | zero => cases h
 | succ n => unfold Cn at h; rw [hu] at h; exact h
theorem cn_int {k : IntKind} (h : Cn P fl n t vs) (hu : P.underlying t = some (.int k)) : ∃ m, vs = [.int k m] ∧ (Lit.int k m).wf = true := by
 cases n with
 | zero => cases h
 | succ n => unfold Cn at h; rw [hu] at h; exact h
theorem cn_str (h : Cn P fl n t vs) (hu : P.underlying t = some .string) : ∃ s, vs = [.str s] ∧ s.length ≤ maxLen := by
 cases n with
 | zero => cases h
 | succ n => unfold Cn at h; rw [hu] at h; exact h
def fieldsC (P : Program) (fl : Nat → Bool) (n : Nat) (vs : List V) : List Field → Prop
 | [] => True
 | f :: fs => Cn P fl n f.type ((vs.drop f.offset).take (P.cellsOf f.type)) ∧ fieldsC P fl n vs fs
theorem cn_struct {fs : Array Field} (h : Cn P fl n t vs) (hu : P.underlying t = some (.struct fs)) : ∃ m, vs.length = P.cellsOf t ∧ fieldsC P fl m vs fs.toList := by
 cases n with
 | zero => cases h
 | succ n =>
  unfold Cn at h
  rw [hu] at h
  refine ⟨n, h.1, ?_⟩
  have : ∀ l : List Field, (∀ f ∈ l, Cn P fl n f.type ((vs.drop f.offset).take (P.cellsOf f.type))) → fieldsC P fl n vs l := by
   intro l
   induction l with
   | nil => intro _; trivial
   | cons f l ih => intro g; exact ⟨g f (by simp), ih (fun f hf => g f (by simp [hf]))⟩
  exact this _ h.2
theorem cn_rows {fs : Array Field} (h : Cn P fl n t vs) (hu : P.underlying t = some (.slice e)) (he : P.underlying e = some (.struct fs)) : ∃ m rows, vs = [.sl (P.cellsOf e) (fl e) rows] ∧ rows.length ≤ maxLen ∧ ∀ r ∈ rows, ∃ us, Cn P fl m e us ∧ r = .agg us := by
 cases n with
 | zero => cases h
 | succ n =>
  unfold Cn at h
  rw [hu] at h
  obtain ⟨rows, h1, h2, h3⟩ := h
  refine ⟨n, rows, h1, h2, fun r hr => ?_⟩
  obtain ⟨us, _, g2, g3⟩ := h3 r hr
  rw [he] at g3
  exact ⟨us, g2, g3⟩
theorem pack_struct {fs : Array Field} (hu : P.underlying t = some (.struct fs)) : packT P t vs = .agg vs := by unfold packT; rw [hu]
theorem pack_one (hu : ∀ fs, P.underlying t ≠ some (.struct fs)) : packT P t vs = vs.headD .undef := by
 unfold packT
 cases hd : P.underlying t with
 | none => rfl
 | some d => cases d <;> first | rfl | exact absurd hd (hu _)
theorem rows_of {T : Type} {ks : List CK} {g : T → cellsT ks} {ok : T → Prop} {l : List V} (h : ∀ r ∈ l, ∃ y, ok y ∧ r = rowEnc true ks (g y)) : ∃ ys, l = rows ks g ys ∧ ∀ y ∈ ys, ok y := by
 induction l with
 | nil => exact ⟨[], rfl, fun y hy => by cases hy⟩
 | cons r l ih =>
  obtain ⟨ys, h1, h2⟩ := ih (fun r hr => h r (by simp [hr]))
  obtain ⟨y, g1, g2⟩ := h r (by simp)
  exact ⟨y :: ys, by rw [g2, h1]; rfl, fun z hz => (List.mem_cons.1 hz).elim (fun e => e ▸ g1) (fun hz => h2 z hz)⟩
end
end Go.Am
end
section
set_option linter.unusedVariables false
set_option linter.unusedSimpArgs false
namespace Go.Am
open Go
section
variable {β T : Type} {ks : List CK} {g : T → cellsT ks} {size : T → Nat} {ok : T → Prop} {z : T} {zero : V} {C : Int}
abbrev OLf := Option (List Leaf ⊕ (Nat × List Leaf))
theorem szS_g (F : cellsT ks → Int → (Int → OLf) → OLf) (hF : ∀ y m, 0 ≤ m → m ≤ 1048576 → ok y → ∀ k, F (g y) m k = k (szL m (size y))) (a : List T) (l : Int) (h0 : 0 ≤ l) (h1 : l ≤ 1048576) (h : okL ok a) (k : Int → Option β) :
  br (decide (IntKind.wrap .i64 (l - ((rows ks g a).length : Int)) < 0)) (
   k (-1)) (
   whileK (fun s1 =>
   br (decide ((lI s1 2) < ((lL s1 0).length : Int))) (
   chk (0 ≤ (lI s1 2)) <|
   idx true ks (lL s1 0) ((lI s1 2).toNat) fun e2 =>
   F e2 (lI s1 1) fun n3 =>
   br (decide (n3 < 0)) (
   some (.inr (0, [.i n3, .i (-1)]))) (
   some (.inl [.l (lL s1 0), .i n3, .i (IntKind.wrap .i64 ((lI s1 2) + 1))]))) (
   some (.inr (1, [.i (lI s1 1)])))) [.l (rows ks g a), .i (IntKind.wrap .i64 (l - ((rows ks g a).length : Int))), .i 0] fun (r4 : Nat × List Leaf) =>
   if r4.1 = 0 then
   k (lI r4.2 1)
   else
   k (lI r4.2 0)) = k (szL l (a.length + sumL size a)) := by
 simp only [rows_len]
 refine szCut h0 h1 h.1 (fun m e h0 h1 => ?_)
 rw [e]
 refine while_sz (fun (i : Nat) (m : Int) => ([.l (rows ks g a), .i m, .i (i : Int)] : List Leaf)) a size (fun m => (1, [.i m])) (fun i y m hi hm0 hm1 => ?_) (fun m => brN rirr rfl) (fun m => rfl) h0 h1 rfl
 have hlt : i < a.length := (List.getElem?_eq_some_iff.1 hi).1
 have hb := h.1
 unfold maxLen at hb
 rcases @szCase m (size y) with ⟨c, e⟩ | ⟨c, e⟩
 ·exact .inl ⟨_, c, brE (rlt hlt) (chkE (Int.natCast_nonneg _) (idxE (i := i) hi ((hF y m hm0 hm1 (h.2 y (List.mem_of_getElem? hi)) _).trans (brE (by rw [e]; decide) rfl)))), rfl⟩
 ·exact .inr ⟨c, brE (rlt hlt) (chkE (Int.natCast_nonneg _) (idxE (i := i) hi ((hF y m hm0 hm1 (h.2 y (List.mem_of_getElem? hi)) _).trans (brN (by rw [e]; omega) (two (fun m j : Int => (some (Sum.inl ([.l (rows ks g a), .i m, .i j] : List Leaf)) : OLf)) e (wrapS (i := i) (by omega)))))))⟩
theorem toS_g (F : cellsT ks → (List V → OLf) → OLf) (hF : ∀ y, size y ≤ 1048576 → ∀ k, F (g y) k = k (cellsEnc ks (g y))) (hC : C ≤ 134217728 ∧ 0 ≤ C) (hz : zero = rowEnc true ks (g z)) (a : List T) (h : a.length + sumL size a ≤ 1048576) (k : List V → Option β) :
  chk (0 ≤ ((rows ks g a).length : Int) ∧ ((rows ks g a).length : Int) ≤ ((rows ks g a).length : Int) ∧ ((rows ks g a).length : Int) * C ≤ 140737488355328 ∧ ((rows ks g a).length : Int) ≤ 140737488355328) (
   whileK (fun s1 =>
   br (decide ((lI s1 2) < ((lL s1 0).length : Int))) (
   chk (0 ≤ (lI s1 2)) <|
   idx true ks (lL s1 0) ((lI s1 2).toNat) fun e2 =>
   F e2 fun new =>
   chk (0 ≤ (lI s1 2) ∧ (lI s1 2).toNat < (lL s1 1).length) <|
   storeO (lL s1 1) ((lI s1 2).toNat) 0 new fun l10 =>
   some (.inl [.l (lL s1 0), .l l10, .i (IntKind.wrap .i64 ((lI s1 2) + 1))])) (
   some (.inr (0, [.l (lL s1 1)])))) [.l (rows ks g a), .l (List.replicate (((rows ks g a).length : Int).toNat) zero), .i 0] fun (r11 : Nat × List Leaf) =>
   k (lL r11.2 0)) = k (rows ks g a) := by
 have hm : (a.length : Int) * C ≤ 140737488355328 := Int.le_trans (Int.mul_le_mul (show (a.length : Int) ≤ 1048576 by omega) hC.1 hC.2 (by omega)) (by decide)
 simp only [rows_len, whileK, Int.toNat_natCast]
 refine chkE ⟨by omega, by omega, hm, by omega⟩ ?_
 rw [while_each (fun i : Nat => ([.l (rows ks g a), .l (rows ks g (copyS a z i)), .i (i : Int)] : List Leaf)) a (0, [.l (rows ks g a)]) ?h1 ?h2 _ ?hs]
 case hs => rw [← rows_copy0 hz]; rfl
 case h1 =>
  intro i y hi
  have hlt : i < a.length := (List.getElem?_eq_some_iff.1 hi).1
  have hl := copyS_len (a := a) (n := z) (i := i) (by omega)
  have hm := sumL_mem (f := size) (List.mem_of_getElem? hi)
  refine brE (rlt hlt) (chkE (Int.natCast_nonneg _) (idxE (i := i) hi ((hF y (by omega) _).trans (chkE ⟨Int.natCast_nonneg _, ?_⟩ (storeE (g := g) (y := y) (i := i) rfl (Nat.lt_of_lt_of_eq hlt hl.symm) ?_)))))
  ·show (Int.toNat (i : Int)) < (rows ks g (copyS a z i)).length
   rw [rows_len]; exact Nat.lt_of_lt_of_eq hlt hl.symm
  ·exact two (fun (c : List T) (j : Int) => (some (Sum.inl ([.l (rows ks g a), .l (rows ks g c), .i j] : List Leaf)) : OLf)) (copyS_set hi) (wrapS (i := i) (by omega))
 case h2 =>
  rw [copyS_end]
  exact brN rirr rfl
 ·rfl
theorem eqS_g [DecidableEq T] (F : cellsT ks → cellsT ks → (Bool → OLf) → OLf) (hF : ∀ x y, ok x → ∀ k, F (g x) (g y) k = k (decide (x = y))) (a b : List T) (h : okL ok a) (k : Bool → Option β) :
  br (((rows ks g a).length : Int) != ((rows ks g b).length : Int)) (
   k false) (
   whileK (fun s1 =>
   br (decide ((lI s1 2) < ((lL s1 0).length : Int))) (
   chk (0 ≤ (lI s1 2)) <|
   idx true ks (lL s1 0) ((lI s1 2).toNat) fun e2 =>
   chk (0 ≤ (lI s1 2)) <|
   idx true ks (lL s1 1) ((lI s1 2).toNat) fun e3 =>
   F e2 e3 fun b4 =>
   br (!b4) (
   some (.inr (0, [.b false]))) (
   some (.inl [.l (lL s1 0), .l (lL s1 1), .i (IntKind.wrap .i64 ((lI s1 2) + 1))]))) (
   some (.inr (1, [])))) [.l (rows ks g a), .l (rows ks g b), .i 0] fun (r5 : Nat × List Leaf) =>
   if r5.1 = 0 then
   k (lB r5.2 0)
   else
   k true) = k (decide (a = b)) := by
 refine eqLen (rows_len ..) (rows_len ..) (fun hl => ?_)
 refine while_eq (fun i : Nat => ([.l (rows ks g a), .l (rows ks g b), .i (i : Int)] : List Leaf)) a b hl (fun i x y hi hx hy => ?_) (brN rirr rfl) rfl rfl rfl
 have hb := h.1
 unfold maxLen at hb
 exact brE (rlt hi) (chkE (Int.natCast_nonneg _) (idxE (i := i) hx (chkE (Int.natCast_nonneg _) (idxE (i := i) hy ((hF x y (h.2 x (List.mem_of_getElem? hx)) _).trans (brB rfl rfl (congrArg (fun j : Int => (some (Sum.inl ([.l (rows ks g a), .l (rows ks g b), .i j] : List Leaf)) : OLf)) (wrapS (i := i) (by omega)))))))))
end
section
variable {P : Program} {fl : Nat → Bool} {n : Nat} {t e c : TypeId} {b : Bool} {vs : List V} {T : Type} {ks : List CK} {g : T → cellsT ks} {ok : T → Prop} {F : T → List V} {fs : Array Field}
theorem fBool (h : Cn P fl n t vs) (hu : P.underlying t = some .bool) : ∃ y : Bool, True ∧ vs = [.bool y] := by
 obtain ⟨y, z⟩ := cn_bool h hu
 exact ⟨y, trivial, z⟩
theorem fInt (h : Cn P fl n t vs) (hu : P.underlying t = some (.int .i64)) : ∃ y : Int, okI y ∧ vs = [.int .i64 y] := by
 obtain ⟨y, z, o⟩ := cn_int h hu
 exact ⟨y, okI_of o, z⟩
theorem fStr (h : Cn P fl n t vs) (hu : P.underlying t = some .string) : ∃ y : List UInt8, okS y ∧ vs = [.str y] := by
 obtain ⟨y, z, o⟩ := cn_str h hu
 exact ⟨y, o, z⟩
theorem fRows (h : Cn P fl n t vs) (hu : P.underlying t = some (.slice e)) (he : P.underlying e = some (.struct fs)) (hc : P.cellsOf e = c) (hb : fl e = b) (ho : ∀ {m : Nat} {us : List V}, Cn P fl m e us → ∃ a : T, ok a ∧ us = F a) (hr : ∀ a, V.agg (F a) = rowEnc true ks (g a)) :
  ∃ y : List T, okL ok y ∧ vs = [.sl c b (rows ks g y)] := by
 obtain ⟨_, r, z, l, w⟩ := cn_rows h hu he
 obtain ⟨y, rfl, v⟩ := rows_of (ks := ks) (g := g) (ok := ok) (fun r hr2 => by
  obtain ⟨us, h1, h2⟩ := w r hr2
  obtain ⟨a, h3, h4⟩ := ho h1
  exact ⟨a, h3, by rw [h2, h4]; exact hr a⟩)
 rw [hc, hb] at z
 exact ⟨y, ⟨by rw [rows_len] at l; exact l, v⟩, z⟩
theorem glue {us vs ws : List V} {o m c : Nat} (hc : m = c) (h : (us.drop o).take m = vs) (h2 : us.drop (o + c) = ws) : us.drop o = vs ++ ws := by
 subst hc
 rw [← h, ← h2, ← List.drop_drop, List.take_append_drop]
end
end Go.Am
end
section
namespace Go.Am
open Go Go.Proofs
set_option linter.unusedVariables false
set_option linter.unusedSimpArgs false
variable {β : Type}
theorem eqStringS (a b : List (List UInt8)) (h : okL okS a) (k : Bool → Option β) : F8 β (rStr a) (rStr b) k = k (decide (a = b)) := by
 simp only [F8, P8]
 refine eqLen (rStr_len ..) (rStr_len ..) (fun hl => ?_)
 refine while_eq (fun i : Nat => ([.l (rStr a), .l (rStr b), .i (i : Int)] : List Leaf)) a b hl (fun i x y hi hx hy => ?_) (brN rirr1 rfl) rfl rfl rfl
 have hb := h.1
 unfold maxLen at hb
 exact brE (rlt1 hi) (chkE (Int.natCast_nonneg _) (idxE1 (i := i) hx (chkE (Int.natCast_nonneg _) (idxE1 (i := i) hy (brB (c := !decide (x = y)) (by rw [Bool.eq_iff_iff]; simp) rfl (congrArg (fun j : Int => (some (Sum.inl ([.l (rStr a), .l (rStr b), .i j] : List Leaf)) : Option (List Leaf ⊕ (Nat × List Leaf)))) (wrapS (i := i) (by omega))))))))
def TResponse.nul : TResponse := ⟨0, 0, [], 0, false, []⟩
def TResponse.size (a : TResponse) : Nat := a.xBody.length + (a.xPolicy.length + (0))
def TResponse.ok (a : TResponse) : Prop := okI a.xStatus ∧ okI a.xKind ∧ okS a.xBody ∧ okI a.xAge ∧ True ∧ okS a.xPolicy ∧ True
theorem szResponse (a : TResponse) (l : Int) (h0 : 0 ≤ l) (h1 : l ≤ 1048576) (h : a.ok) (k : Int → Option β) : F60 β a.xStatus a.xKind a.xBody a.xAge a.xShares a.xPolicy l k = k (szL l a.size) := by
 obtain ⟨q0, q1, q2, q3, q4, q5, _⟩ := h
 unfold TResponse.size
 simp only [F60, P60]
 refine szCut h0 h1 q2 (fun m2 e2 h0 h1 => ?_)
 rw [e2]
 refine szCut h0 h1 q5 (fun m5 e5 h0 h1 => ?_)
 rw [e5]
 exact szEnd h0
theorem toResponse (a : TResponse) (h : a.size ≤ 1048576) (k : Int → Int → List UInt8 → Int → Bool → List UInt8 → Option β) : F62 β a.xStatus a.xKind a.xBody a.xAge a.xShares a.xPolicy k = k a.xStatus a.xKind a.xBody a.xAge a.xShares a.xPolicy := by
 unfold TResponse.size at h
 simp only [F62, P62]
theorem eqResponse_iff (a b : TResponse) : ((a.xStatus == b.xStatus) && ((a.xKind == b.xKind) && ((a.xBody == b.xBody) && ((a.xAge == b.xAge) && ((a.xShares == b.xShares) && ((a.xPolicy == b.xPolicy) && (true))))))) = decide (a = b) := by
 cases a; cases b
 rw [Bool.eq_iff_iff]
 simp only [TResponse.mk.injEq, Bool.and_true, Bool.and_eq_true, beq_iff_eq, decide_eq_true_eq]
theorem eqResponse (a b : TResponse) (h : a.ok) (k : Bool → Option β) : F76 β a.xStatus a.xKind a.xBody a.xAge a.xShares a.xPolicy b.xStatus b.xKind b.xBody b.xAge b.xShares b.xPolicy k = k (decide (a = b)) := by
 obtain ⟨q0, q1, q2, q3, q4, q5, _⟩ := h
 simp only [F76, P76]
 refine Eq.trans ?_ (congrArg k (eqResponse_iff a b))
 refine eqCut ?_
 refine eqCut ?_
 refine eqCut ?_
 refine eqCut ?_
 refine eqCut ?_
 refine eqCut ?_
 rfl
def TFile.nul : TFile := ⟨[], TResponse.nul⟩
def TFile.size (a : TFile) : Nat := a.xPath.length + (TResponse.size a.xResponse + (0))
def TFile.ok (a : TFile) : Prop := okS a.xPath ∧ TResponse.ok a.xResponse ∧ True
theorem szFile (a : TFile) (l : Int) (h0 : 0 ≤ l) (h1 : l ≤ 1048576) (h : a.ok) (k : Int → Option β) : F59 β a.xPath a.xResponse.xStatus a.xResponse.xKind a.xResponse.xBody a.xResponse.xAge a.xResponse.xShares a.xResponse.xPolicy l k = k (szL l a.size) := by
 obtain ⟨q0, q1, _⟩ := h
 unfold TFile.size
 simp only [F59, P59]
 refine szCut h0 h1 q0 (fun m0 e0 h0 h1 => ?_)
 rw [e0]
 refine (szResponse a.xResponse _ h0 h1 q1 _).trans (szSub h0 h1 (fun m1 e1 h0 h1 => ?_))
 rw [e1]
 exact szEnd h0
theorem toFile (a : TFile) (h : a.size ≤ 1048576) (k : List UInt8 → Int → Int → List UInt8 → Int → Bool → List UInt8 → Option β) : F61 β a.xPath a.xResponse.xStatus a.xResponse.xKind a.xResponse.xBody a.xResponse.xAge a.xResponse.xShares a.xResponse.xPolicy k = k a.xPath a.xResponse.xStatus a.xResponse.xKind a.xResponse.xBody a.xResponse.xAge a.xResponse.xShares a.xResponse.xPolicy := by
 unfold TFile.size at h
 simp only [F61, P61]
 exact (toResponse a.xResponse (by omega) _).trans (rfl)
theorem eqFile_iff (a b : TFile) : ((a.xPath == b.xPath) && (decide (a.xResponse = b.xResponse) && (true))) = decide (a = b) := by
 cases a; cases b
 rw [Bool.eq_iff_iff]
 simp only [TFile.mk.injEq, Bool.and_true, Bool.and_eq_true, beq_iff_eq, decide_eq_true_eq]
theorem eqFile (a b : TFile) (h : a.ok) (k : Bool → Option β) : F75 β a.xPath a.xResponse.xStatus a.xResponse.xKind a.xResponse.xBody a.xResponse.xAge a.xResponse.xShares a.xResponse.xPolicy b.xPath b.xResponse.xStatus b.xResponse.xKind b.xResponse.xBody b.xResponse.xAge b.xResponse.xShares b.xResponse.xPolicy k = k (decide (a = b)) := by
 obtain ⟨q0, q1, _⟩ := h
 simp only [F75, P75]
 refine Eq.trans ?_ (congrArg k (eqFile_iff a b))
 refine eqCut ?_
 refine (eqResponse a.xResponse b.xResponse q1 _).trans (eqCut ?_)
 rfl
theorem szFileS (a : List TFile) (l : Int) (h0 : 0 ≤ l) (h1 : l ≤ 1048576) (h : okL TFile.ok a) (k : Int → Option β) : F46 β (rows kFile TFile.row a) l k = k (szL l (a.length + sumL TFile.size a)) :=
 szS_g (g := TFile.row) (fun e m k => F59 _ e.1 e.2.1 e.2.2.1 e.2.2.2.1 e.2.2.2.2.1 e.2.2.2.2.2.1 e.2.2.2.2.2.2.1 m k) (fun y m h0 h1 h k => szFile y m h0 h1 h k) a l h0 h1 h k
theorem toFileS (a : List TFile) (h : a.length + sumL TFile.size a ≤ 1048576) (k : List V → Option β) : F49 β (rows kFile TFile.row a) k = k (rows kFile TFile.row a) :=
 toS_g (g := TFile.row) (z := TFile.nul) (fun e k => F61 _ e.1 e.2.1 e.2.2.1 e.2.2.2.1 e.2.2.2.2.1 e.2.2.2.2.2.1 e.2.2.2.2.2.2.1 fun v0 v1 v2 v3 v4 v5 v6 => k [.str v0, .int .i64 v1, .int .i64 v2, .str v3, .int .i64 v4, .bool v5, .str v6]) (fun y h k => toFile y h _) (by decide) rfl a h k
theorem eqFileS (a b : List TFile) (h : okL TFile.ok a) (k : Bool → Option β) : F56 β (rows kFile TFile.row a) (rows kFile TFile.row b) k = k (decide (a = b)) :=
 eqS_g (g := TFile.row) (fun e e2 k => F75 _ e.1 e.2.1 e.2.2.1 e.2.2.2.1 e.2.2.2.2.1 e.2.2.2.2.2.1 e.2.2.2.2.2.2.1 e2.1 e2.2.1 e2.2.2.1 e2.2.2.2.1 e2.2.2.2.2.1 e2.2.2.2.2.2.1 e2.2.2.2.2.2.2.1 k) (fun x y h k => eqFile x y h k) a b h k
def TServer.nul : TServer := ⟨[], []⟩
def TServer.size (a : TServer) : Nat := a.xHost.length + ((a.xFiles.length + sumL TFile.size a.xFiles) + (0))
def TServer.ok (a : TServer) : Prop := okS a.xHost ∧ okL TFile.ok a.xFiles ∧ True
theorem szServer (a : TServer) (l : Int) (h0 : 0 ≤ l) (h1 : l ≤ 1048576) (h : a.ok) (k : Int → Option β) : F30 β a.xHost (rows kFile TFile.row a.xFiles) l k = k (szL l a.size) := by
 obtain ⟨q0, q1, _⟩ := h
 unfold TServer.size
 simp only [F30, P30]
 refine szCut h0 h1 q0 (fun m0 e0 h0 h1 => ?_)
 rw [e0]
 refine (szFileS a.xFiles _ h0 h1 q1 _).trans (szSub h0 h1 (fun m1 e1 h0 h1 => ?_))
 rw [e1]
 exact szEnd h0
theorem toServer (a : TServer) (h : a.size ≤ 1048576) (k : List UInt8 → List V → Option β) : F35 β a.xHost (rows kFile TFile.row a.xFiles) k = k a.xHost (rows kFile TFile.row a.xFiles) := by
 unfold TServer.size at h
 simp only [F35, P35]
 exact (toFileS a.xFiles (by omega) _).trans (rfl)
theorem eqServer_iff (a b : TServer) : ((a.xHost == b.xHost) && (decide (a.xFiles = b.xFiles) && (true))) = decide (a = b) := by
 cases a; cases b
 rw [Bool.eq_iff_iff]
 simp only [TServer.mk.injEq, Bool.and_true, Bool.and_eq_true, beq_iff_eq, decide_eq_true_eq]
theorem eqServer (a b : TServer) (h : a.ok) (k : Bool → Option β) : F41 β a.xHost (rows kFile TFile.row a.xFiles) b.xHost (rows kFile TFile.row b.xFiles) k = k (decide (a = b)) := by
 obtain ⟨q0, q1, _⟩ := h
 simp only [F41, P41]
 refine Eq.trans ?_ (congrArg k (eqServer_iff a b))
 refine eqCut ?_
 refine (eqFileS a.xFiles b.xFiles q1 _).trans (eqCut ?_)
 rfl
theorem szServerS (a : List TServer) (l : Int) (h0 : 0 ≤ l) (h1 : l ≤ 1048576) (h : okL TServer.ok a) (k : Int → Option β) : F13 β (rows kServer TServer.row a) l k = k (szL l (a.length + sumL TServer.size a)) :=
 szS_g (g := TServer.row) (fun e m k => F30 _ e.1 e.2.1 m k) (fun y m h0 h1 h k => szServer y m h0 h1 h k) a l h0 h1 h k
theorem toServerS (a : List TServer) (h : a.length + sumL TServer.size a ≤ 1048576) (k : List V → Option β) : F17 β (rows kServer TServer.row a) k = k (rows kServer TServer.row a) :=
 toS_g (g := TServer.row) (z := TServer.nul) (fun e k => F35 _ e.1 e.2.1 fun v0 v1 => k [.str v0, .sl 7 true v1]) (fun y h k => toServer y h _) (by decide) rfl a h k
theorem eqServerS (a b : List TServer) (h : okL TServer.ok a) (k : Bool → Option β) : F23 β (rows kServer TServer.row a) (rows kServer TServer.row b) k = k (decide (a = b)) :=
 eqS_g (g := TServer.row) (fun e e2 k => F41 _ e.1 e.2.1 e2.1 e2.2.1 k) (fun x y h k => eqServer x y h k) a b h k
open Classical in noncomputable def lszServerS (a : List TServer) (l : Int) : Option Int := if 0 ≤ l ∧ l ≤ 1048576 ∧ okL TServer.ok a then some (szL l (a.length + sumL TServer.size a)) else none
open Classical in noncomputable def leqServerS (a b : List TServer) : Option Bool := if okL TServer.ok a then some (decide (a = b)) else none
def TAddr.nul : TAddr := ⟨[], []⟩
def TAddr.size (a : TAddr) : Nat := a.xHost.length + (a.xPath.length + (0))
def TAddr.ok (a : TAddr) : Prop := okS a.xHost ∧ okS a.xPath ∧ True
theorem szAddr (a : TAddr) (l : Int) (h0 : 0 ≤ l) (h1 : l ≤ 1048576) (h : a.ok) (k : Int → Option β) : F48 β a.xHost a.xPath l k = k (szL l a.size) := by
 obtain ⟨q0, q1, _⟩ := h
 unfold TAddr.size
 simp only [F48, P48]
 refine szCut h0 h1 q0 (fun m0 e0 h0 h1 => ?_)
 rw [e0]
 refine szCut h0 h1 q1 (fun m1 e1 h0 h1 => ?_)
 rw [e1]
 exact szEnd h0
theorem toAddr (a : TAddr) (h : a.size ≤ 1048576) (k : List UInt8 → List UInt8 → Option β) : F51 β a.xHost a.xPath k = k a.xHost a.xPath := by
 unfold TAddr.size at h
 simp only [F51, P51]
theorem eqAddr_iff (a b : TAddr) : ((a.xHost == b.xHost) && ((a.xPath == b.xPath) && (true))) = decide (a = b) := by
 cases a; cases b
 rw [Bool.eq_iff_iff]
 simp only [TAddr.mk.injEq, Bool.and_true, Bool.and_eq_true, beq_iff_eq, decide_eq_true_eq]
theorem eqAddr (a b : TAddr) (h : a.ok) (k : Bool → Option β) : F58 β a.xHost a.xPath b.xHost b.xPath k = k (decide (a = b)) := by
 obtain ⟨q0, q1, _⟩ := h
 simp only [F58, P58]
 refine Eq.trans ?_ (congrArg k (eqAddr_iff a b))
 refine eqCut ?_
 refine eqCut ?_
 rfl
def TEntry.nul : TEntry := ⟨[], TAddr.nul, TResponse.nul, 0⟩
def TEntry.size (a : TEntry) : Nat := a.xTop.length + (TAddr.size a.xTo + (TResponse.size a.xResponse + (0)))
def TEntry.ok (a : TEntry) : Prop := okS a.xTop ∧ TAddr.ok a.xTo ∧ TResponse.ok a.xResponse ∧ okI a.xUntil ∧ True
theorem szEntry (a : TEntry) (l : Int) (h0 : 0 ≤ l) (h1 : l ≤ 1048576) (h : a.ok) (k : Int → Option β) : F47 β a.xTop a.xTo.xHost a.xTo.xPath a.xResponse.xStatus a.xResponse.xKind a.xResponse.xBody a.xResponse.xAge a.xResponse.xShares a.xResponse.xPolicy a.xUntil l k = k (szL l a.size) := by
 obtain ⟨q0, q1, q2, q3, _⟩ := h
 unfold TEntry.size
 simp only [F47, P47]
 refine szCut h0 h1 q0 (fun m0 e0 h0 h1 => ?_)
 rw [e0]
 refine (szAddr a.xTo _ h0 h1 q1 _).trans (szSub h0 h1 (fun m1 e1 h0 h1 => ?_))
 rw [e1]
 refine (szResponse a.xResponse _ h0 h1 q2 _).trans (szSub h0 h1 (fun m2 e2 h0 h1 => ?_))
 rw [e2]
 exact szEnd h0
theorem toEntry (a : TEntry) (h : a.size ≤ 1048576) (k : List UInt8 → List UInt8 → List UInt8 → Int → Int → List UInt8 → Int → Bool → List UInt8 → Int → Option β) : F50 β a.xTop a.xTo.xHost a.xTo.xPath a.xResponse.xStatus a.xResponse.xKind a.xResponse.xBody a.xResponse.xAge a.xResponse.xShares a.xResponse.xPolicy a.xUntil k = k a.xTop a.xTo.xHost a.xTo.xPath a.xResponse.xStatus a.xResponse.xKind a.xResponse.xBody a.xResponse.xAge a.xResponse.xShares a.xResponse.xPolicy a.xUntil := by
 unfold TEntry.size at h
 simp only [F50, P50]
 exact (toAddr a.xTo (by omega) _).trans ((toResponse a.xResponse (by omega) _).trans (rfl))
theorem eqEntry_iff (a b : TEntry) : ((a.xTop == b.xTop) && (decide (a.xTo = b.xTo) && (decide (a.xResponse = b.xResponse) && ((a.xUntil == b.xUntil) && (true))))) = decide (a = b) := by
 cases a; cases b
 rw [Bool.eq_iff_iff]
 simp only [TEntry.mk.injEq, Bool.and_true, Bool.and_eq_true, beq_iff_eq, decide_eq_true_eq]
theorem eqEntry (a b : TEntry) (h : a.ok) (k : Bool → Option β) : F57 β a.xTop a.xTo.xHost a.xTo.xPath a.xResponse.xStatus a.xResponse.xKind a.xResponse.xBody a.xResponse.xAge a.xResponse.xShares a.xResponse.xPolicy a.xUntil b.xTop b.xTo.xHost b.xTo.xPath b.xResponse.xStatus b.xResponse.xKind b.xResponse.xBody b.xResponse.xAge b.xResponse.xShares b.xResponse.xPolicy b.xUntil k = k (decide (a = b)) := by
 obtain ⟨q0, q1, q2, q3, _⟩ := h
 simp only [F57, P57]
 refine Eq.trans ?_ (congrArg k (eqEntry_iff a b))
 refine eqCut ?_
 refine (eqAddr a.xTo b.xTo q1 _).trans (eqCut ?_)
 refine (eqResponse a.xResponse b.xResponse q2 _).trans (eqCut ?_)
 refine eqCut ?_
 rfl
theorem szEntryS (a : List TEntry) (l : Int) (h0 : 0 ≤ l) (h1 : l ≤ 1048576) (h : okL TEntry.ok a) (k : Int → Option β) : F31 β (rows kEntry TEntry.row a) l k = k (szL l (a.length + sumL TEntry.size a)) :=
 szS_g (g := TEntry.row) (fun e m k => F47 _ e.1 e.2.1 e.2.2.1 e.2.2.2.1 e.2.2.2.2.1 e.2.2.2.2.2.1 e.2.2.2.2.2.2.1 e.2.2.2.2.2.2.2.1 e.2.2.2.2.2.2.2.2.1 e.2.2.2.2.2.2.2.2.2.1 m k) (fun y m h0 h1 h k => szEntry y m h0 h1 h k) a l h0 h1 h k
theorem toEntryS (a : List TEntry) (h : a.length + sumL TEntry.size a ≤ 1048576) (k : List V → Option β) : F36 β (rows kEntry TEntry.row a) k = k (rows kEntry TEntry.row a) :=
 toS_g (g := TEntry.row) (z := TEntry.nul) (fun e k => F50 _ e.1 e.2.1 e.2.2.1 e.2.2.2.1 e.2.2.2.2.1 e.2.2.2.2.2.1 e.2.2.2.2.2.2.1 e.2.2.2.2.2.2.2.1 e.2.2.2.2.2.2.2.2.1 e.2.2.2.2.2.2.2.2.2.1 fun v0 v1 v2 v3 v4 v5 v6 v7 v8 v9 => k [.str v0, .str v1, .str v2, .int .i64 v3, .int .i64 v4, .str v5, .int .i64 v6, .bool v7, .str v8, .int .i64 v9]) (fun y h k => toEntry y h _) (by decide) rfl a h k
theorem eqEntryS (a b : List TEntry) (h : okL TEntry.ok a) (k : Bool → Option β) : F42 β (rows kEntry TEntry.row a) (rows kEntry TEntry.row b) k = k (decide (a = b)) :=
 eqS_g (g := TEntry.row) (fun e e2 k => F57 _ e.1 e.2.1 e.2.2.1 e.2.2.2.1 e.2.2.2.2.1 e.2.2.2.2.2.1 e.2.2.2.2.2.2.1 e.2.2.2.2.2.2.2.1 e.2.2.2.2.2.2.2.2.1 e.2.2.2.2.2.2.2.2.2.1 e2.1 e2.2.1 e2.2.2.1 e2.2.2.2.1 e2.2.2.2.2.1 e2.2.2.2.2.2.1 e2.2.2.2.2.2.2.1 e2.2.2.2.2.2.2.2.1 e2.2.2.2.2.2.2.2.2.1 e2.2.2.2.2.2.2.2.2.2.1 k) (fun x y h k => eqEntry x y h k) a b h k
def TCache.nul : TCache := ⟨[]⟩
def TCache.size (a : TCache) : Nat := (a.xEntries.length + sumL TEntry.size a.xEntries) + (0)
def TCache.ok (a : TCache) : Prop := okL TEntry.ok a.xEntries ∧ True
theorem szCache (a : TCache) (l : Int) (h0 : 0 ≤ l) (h1 : l ≤ 1048576) (h : a.ok) (k : Int → Option β) : F14 β (rows kEntry TEntry.row a.xEntries) l k = k (szL l a.size) := by
 obtain ⟨q0, _⟩ := h
 unfold TCache.size
 simp only [F14, P14]
 refine (szEntryS a.xEntries _ h0 h1 q0 _).trans (szSub h0 h1 (fun m0 e0 h0 h1 => ?_))
 rw [e0]
 exact szEnd h0
theorem toCache (a : TCache) (h : a.size ≤ 1048576) (k : List V → Option β) : F18 β (rows kEntry TEntry.row a.xEntries) k = k (rows kEntry TEntry.row a.xEntries) := by
 unfold TCache.size at h
 simp only [F18, P18]
 exact (toEntryS a.xEntries (by omega) _).trans (rfl)
theorem eqCache_iff (a b : TCache) : (decide (a.xEntries = b.xEntries) && (true)) = decide (a = b) := by
 cases a; cases b
 rw [Bool.eq_iff_iff]
 simp only [TCache.mk.injEq, Bool.and_true, Bool.and_eq_true, beq_iff_eq, decide_eq_true_eq]
theorem eqCache (a b : TCache) (h : a.ok) (k : Bool → Option β) : F24 β (rows kEntry TEntry.row a.xEntries) (rows kEntry TEntry.row b.xEntries) k = k (decide (a = b)) := by
 obtain ⟨q0, _⟩ := h
 simp only [F24, P24]
 refine Eq.trans ?_ (congrArg k (eqCache_iff a b))
 refine (eqEntryS a.xEntries b.xEntries q0 _).trans (eqCut ?_)
 rfl
open Classical in noncomputable def lszCache (a : TCache) (l : Int) : Option Int := if 0 ≤ l ∧ l ≤ 1048576 ∧ TCache.ok a then some (szL l (TCache.size a)) else none
open Classical in noncomputable def leqCache (a b : TCache) : Option Bool := if TCache.ok a then some (decide (a = b)) else none
def TSent.nul : TSent := ⟨[], TAddr.nul, false⟩
def TSent.size (a : TSent) : Nat := a.xTop.length + (TAddr.size a.xTo + (0))
def TSent.ok (a : TSent) : Prop := okS a.xTop ∧ TAddr.ok a.xTo ∧ True ∧ True
theorem szSent (a : TSent) (l : Int) (h0 : 0 ≤ l) (h1 : l ≤ 1048576) (h : a.ok) (k : Int → Option β) : F32 β a.xTop a.xTo.xHost a.xTo.xPath a.xGuess l k = k (szL l a.size) := by
 obtain ⟨q0, q1, q2, _⟩ := h
 unfold TSent.size
 simp only [F32, P32]
 refine szCut h0 h1 q0 (fun m0 e0 h0 h1 => ?_)
 rw [e0]
 refine (szAddr a.xTo _ h0 h1 q1 _).trans (szSub h0 h1 (fun m1 e1 h0 h1 => ?_))
 rw [e1]
 exact szEnd h0
theorem toSent (a : TSent) (h : a.size ≤ 1048576) (k : List UInt8 → List UInt8 → List UInt8 → Bool → Option β) : F37 β a.xTop a.xTo.xHost a.xTo.xPath a.xGuess k = k a.xTop a.xTo.xHost a.xTo.xPath a.xGuess := by
 unfold TSent.size at h
 simp only [F37, P37]
 exact (toAddr a.xTo (by omega) _).trans (rfl)
theorem eqSent_iff (a b : TSent) : ((a.xTop == b.xTop) && (decide (a.xTo = b.xTo) && ((a.xGuess == b.xGuess) && (true)))) = decide (a = b) := by
 cases a; cases b
 rw [Bool.eq_iff_iff]
 simp only [TSent.mk.injEq, Bool.and_true, Bool.and_eq_true, beq_iff_eq, decide_eq_true_eq]
theorem eqSent (a b : TSent) (h : a.ok) (k : Bool → Option β) : F43 β a.xTop a.xTo.xHost a.xTo.xPath a.xGuess b.xTop b.xTo.xHost b.xTo.xPath b.xGuess k = k (decide (a = b)) := by
 obtain ⟨q0, q1, q2, _⟩ := h
 simp only [F43, P43]
 refine Eq.trans ?_ (congrArg k (eqSent_iff a b))
 refine eqCut ?_
 refine (eqAddr a.xTo b.xTo q1 _).trans (eqCut ?_)
 refine eqCut ?_
 rfl
theorem szSentS (a : List TSent) (l : Int) (h0 : 0 ≤ l) (h1 : l ≤ 1048576) (h : okL TSent.ok a) (k : Int → Option β) : F15 β (rows kSent TSent.row a) l k = k (szL l (a.length + sumL TSent.size a)) :=
 szS_g (g := TSent.row) (fun e m k => F32 _ e.1 e.2.1 e.2.2.1 e.2.2.2.1 m k) (fun y m h0 h1 h k => szSent y m h0 h1 h k) a l h0 h1 h k
theorem toSentS (a : List TSent) (h : a.length + sumL TSent.size a ≤ 1048576) (k : List V → Option β) : F19 β (rows kSent TSent.row a) k = k (rows kSent TSent.row a) :=
 toS_g (g := TSent.row) (z := TSent.nul) (fun e k => F37 _ e.1 e.2.1 e.2.2.1 e.2.2.2.1 fun v0 v1 v2 v3 => k [.str v0, .str v1, .str v2, .bool v3]) (fun y h k => toSent y h _) (by decide) rfl a h k
theorem eqSentS (a b : List TSent) (h : okL TSent.ok a) (k : Bool → Option β) : F25 β (rows kSent TSent.row a) (rows kSent TSent.row b) k = k (decide (a = b)) :=
 eqS_g (g := TSent.row) (fun e e2 k => F43 _ e.1 e.2.1 e.2.2.1 e.2.2.2.1 e2.1 e2.2.1 e2.2.2.1 e2.2.2.2.1 k) (fun x y h k => eqSent x y h k) a b h k
open Classical in noncomputable def lszSentS (a : List TSent) (l : Int) : Option Int := if 0 ≤ l ∧ l ≤ 1048576 ∧ okL TSent.ok a then some (szL l (a.length + sumL TSent.size a)) else none
open Classical in noncomputable def leqSentS (a b : List TSent) : Option Bool := if okL TSent.ok a then some (decide (a = b)) else none
def TNet.nul : TNet := ⟨[], TCache.nul, [], 0⟩
def TNet.size (a : TNet) : Nat := (a.xServers.length + sumL TServer.size a.xServers) + (TCache.size a.xCache + ((a.xLog.length + sumL TSent.size a.xLog) + (0)))
def TNet.ok (a : TNet) : Prop := okL TServer.ok a.xServers ∧ TCache.ok a.xCache ∧ okL TSent.ok a.xLog ∧ okI a.xNow ∧ True
theorem szNet (a : TNet) (l : Int) (h0 : 0 ≤ l) (h1 : l ≤ 1048576) (h : a.ok) (k : Int → Option β) : F4 β (rows kServer TServer.row a.xServers) (rows kEntry TEntry.row a.xCache.xEntries) (rows kSent TSent.row a.xLog) a.xNow l k = k (szL l a.size) := by
 obtain ⟨q0, q1, q2, q3, _⟩ := h
 unfold TNet.size
 simp only [F4, P4]
 refine (szServerS a.xServers _ h0 h1 q0 _).trans (szSub h0 h1 (fun m0 e0 h0 h1 => ?_))
 rw [e0]
 refine (szCache a.xCache _ h0 h1 q1 _).trans (szSub h0 h1 (fun m1 e1 h0 h1 => ?_))
 rw [e1]
 refine (szSentS a.xLog _ h0 h1 q2 _).trans (szSub h0 h1 (fun m2 e2 h0 h1 => ?_))
 rw [e2]
 exact szEnd h0
theorem toNet (a : TNet) (h : a.size ≤ 1048576) (k : List V → List V → List V → Int → Option β) : F6 β (rows kServer TServer.row a.xServers) (rows kEntry TEntry.row a.xCache.xEntries) (rows kSent TSent.row a.xLog) a.xNow k = k (rows kServer TServer.row a.xServers) (rows kEntry TEntry.row a.xCache.xEntries) (rows kSent TSent.row a.xLog) a.xNow := by
 unfold TNet.size at h
 simp only [F6, P6]
 exact (toServerS a.xServers (by omega) _).trans ((toCache a.xCache (by omega) _).trans ((toSentS a.xLog (by omega) _).trans (rfl)))
theorem eqNet_iff (a b : TNet) : (decide (a.xServers = b.xServers) && (decide (a.xCache = b.xCache) && (decide (a.xLog = b.xLog) && ((a.xNow == b.xNow) && (true))))) = decide (a = b) := by
 cases a; cases b
 rw [Bool.eq_iff_iff]
 simp only [TNet.mk.injEq, Bool.and_true, Bool.and_eq_true, beq_iff_eq, decide_eq_true_eq]
theorem eqNet (a b : TNet) (h : a.ok) (k : Bool → Option β) : F9 β (rows kServer TServer.row a.xServers) (rows kEntry TEntry.row a.xCache.xEntries) (rows kSent TSent.row a.xLog) a.xNow (rows kServer TServer.row b.xServers) (rows kEntry TEntry.row b.xCache.xEntries) (rows kSent TSent.row b.xLog) b.xNow k = k (decide (a = b)) := by
 obtain ⟨q0, q1, q2, q3, _⟩ := h
 simp only [F9, P9]
 refine Eq.trans ?_ (congrArg k (eqNet_iff a b))
 refine (eqServerS a.xServers b.xServers q0 _).trans (eqCut ?_)
 refine (eqCache a.xCache b.xCache q1 _).trans (eqCut ?_)
 refine (eqSentS a.xLog b.xLog q2 _).trans (eqCut ?_)
 refine eqCut ?_
 rfl
def fl : Nat → Bool := fun t => t != 28 && t != 22 && t != 63 && t != 61 && t != 25 && t != 23 && t != 26
def L : List Nat := [28, 22, 63, 9, 61, 112, 92, 3, 4, 25, 23, 94, 67, 26, 69]
theorem kids : kidsOk Try.prog L = true := by kernel_rfl
theorem flArgs : flOk Try.prog L fl = true := by kernel_rfl
theorem cells28 : Try.prog.cellsOf 28 = 4 := by kernel_rfl
theorem cells22 : Try.prog.cellsOf 22 = 1 := by kernel_rfl
theorem cells63 : Try.prog.cellsOf 63 = 2 := by kernel_rfl
theorem cells9 : Try.prog.cellsOf 9 = 1 := by kernel_rfl
theorem cells61 : Try.prog.cellsOf 61 = 1 := by kernel_rfl
theorem cells112 : Try.prog.cellsOf 112 = 7 := by kernel_rfl
theorem cells92 : Try.prog.cellsOf 92 = 6 := by kernel_rfl
theorem cells3 : Try.prog.cellsOf 3 = 1 := by kernel_rfl
theorem cells4 : Try.prog.cellsOf 4 = 1 := by kernel_rfl
theorem cells25 : Try.prog.cellsOf 25 = 1 := by kernel_rfl
theorem cells23 : Try.prog.cellsOf 23 = 1 := by kernel_rfl
theorem cells94 : Try.prog.cellsOf 94 = 10 := by kernel_rfl
theorem cells67 : Try.prog.cellsOf 67 = 2 := by kernel_rfl
theorem cells26 : Try.prog.cellsOf 26 = 1 := by kernel_rfl
theorem cells69 : Try.prog.cellsOf 69 = 4 := by kernel_rfl
theorem Response_open {n : Nat} {us : List V} (h : Cn Try.prog fl n 92 us) : ∃ a : TResponse, a.ok ∧ us = [.int .i64 a.xStatus, .int .i64 a.xKind, .str a.xBody, .int .i64 a.xAge, .bool a.xShares, .str a.xPolicy] := by
 obtain ⟨m, hl, g0, g1, g2, g3, g4, g5, _⟩ := cn_struct h Try.underlying92
 rw [cells92] at hl
 obtain ⟨y0, o0, z0⟩ := fInt g0 Try.underlying3
 obtain ⟨y1, o1, z1⟩ := fInt g1 Try.underlying3
 obtain ⟨y2, o2, z2⟩ := fStr g2 Try.underlying9
 obtain ⟨y3, o3, z3⟩ := fInt g3 Try.underlying3
 obtain ⟨y4, o4, z4⟩ := fBool g4 Try.underlying4
 obtain ⟨y5, o5, z5⟩ := fStr g5 Try.underlying9
 have z := glue cells3 z0 (glue cells3 z1 (glue cells9 z2 (glue cells3 z3 (glue cells4 z4 (glue cells9 z5 (List.drop_eq_nil_of_le (Nat.le_of_eq hl)))))))
 exact ⟨⟨y0, y1, y2, y3, y4, y5⟩, ⟨o0, o1, o2, o3, o4, o5, trivial⟩, z⟩
theorem File_open {n : Nat} {us : List V} (h : Cn Try.prog fl n 112 us) : ∃ a : TFile, a.ok ∧ us = [.str a.xPath, .int .i64 a.xResponse.xStatus, .int .i64 a.xResponse.xKind, .str a.xResponse.xBody, .int .i64 a.xResponse.xAge, .bool a.xResponse.xShares, .str a.xResponse.xPolicy] := by
 obtain ⟨m, hl, g0, g1, _⟩ := cn_struct h Try.underlying112
 rw [cells112] at hl
 obtain ⟨y0, o0, z0⟩ := fStr g0 Try.underlying9
 obtain ⟨y1, o1, z1⟩ := Response_open g1
 have z := glue cells9 z0 (glue cells92 z1 (List.drop_eq_nil_of_le (Nat.le_of_eq hl)))
 exact ⟨⟨y0, y1⟩, ⟨o0, o1, trivial⟩, z⟩
theorem Server_open {n : Nat} {us : List V} (h : Cn Try.prog fl n 63 us) : ∃ a : TServer, a.ok ∧ us = [.str a.xHost, .sl 7 true (rows kFile TFile.row a.xFiles)] := by
 obtain ⟨m, hl, g0, g1, _⟩ := cn_struct h Try.underlying63
 rw [cells63] at hl
 obtain ⟨y0, o0, z0⟩ := fStr g0 Try.underlying9
 obtain ⟨y1, o1, z1⟩ := fRows (g := TFile.row) (ok := TFile.ok) g1 Try.underlying61 Try.underlying112 cells112 rfl File_open (fun _ => rfl)
 have z := glue cells9 z0 (glue cells61 z1 (List.drop_eq_nil_of_le (Nat.le_of_eq hl)))
 exact ⟨⟨y0, y1⟩, ⟨o0, o1, trivial⟩, z⟩
theorem Addr_open {n : Nat} {us : List V} (h : Cn Try.prog fl n 67 us) : ∃ a : TAddr, a.ok ∧ us = [.str a.xHost, .str a.xPath] := by
 obtain ⟨m, hl, g0, g1, _⟩ := cn_struct h Try.underlying67
 rw [cells67] at hl
 obtain ⟨y0, o0, z0⟩ := fStr g0 Try.underlying9
 obtain ⟨y1, o1, z1⟩ := fStr g1 Try.underlying9
 have z := glue cells9 z0 (glue cells9 z1 (List.drop_eq_nil_of_le (Nat.le_of_eq hl)))
 exact ⟨⟨y0, y1⟩, ⟨o0, o1, trivial⟩, z⟩
theorem Entry_open {n : Nat} {us : List V} (h : Cn Try.prog fl n 94 us) : ∃ a : TEntry, a.ok ∧ us = [.str a.xTop, .str a.xTo.xHost, .str a.xTo.xPath, .int .i64 a.xResponse.xStatus, .int .i64 a.xResponse.xKind, .str a.xResponse.xBody, .int .i64 a.xResponse.xAge, .bool a.xResponse.xShares, .str a.xResponse.xPolicy, .int .i64 a.xUntil] := by
 obtain ⟨m, hl, g0, g1, g2, g3, _⟩ := cn_struct h Try.underlying94
 rw [cells94] at hl
 obtain ⟨y0, o0, z0⟩ := fStr g0 Try.underlying9
 obtain ⟨y1, o1, z1⟩ := Addr_open g1
 obtain ⟨y2, o2, z2⟩ := Response_open g2
 obtain ⟨y3, o3, z3⟩ := fInt g3 Try.underlying3
 have z := glue cells9 z0 (glue cells67 z1 (glue cells92 z2 (glue cells3 z3 (List.drop_eq_nil_of_le (Nat.le_of_eq hl)))))
 exact ⟨⟨y0, y1, y2, y3⟩, ⟨o0, o1, o2, o3, trivial⟩, z⟩
theorem Cache_open {n : Nat} {us : List V} (h : Cn Try.prog fl n 25 us) : ∃ a : TCache, a.ok ∧ us = [.sl 10 true (rows kEntry TEntry.row a.xEntries)] := by
 obtain ⟨m, hl, g0, _⟩ := cn_struct h Try.underlying25
 rw [cells25] at hl
 obtain ⟨y0, o0, z0⟩ := fRows (g := TEntry.row) (ok := TEntry.ok) g0 Try.underlying23 Try.underlying94 cells94 rfl Entry_open (fun _ => rfl)
 have z := glue cells23 z0 (List.drop_eq_nil_of_le (Nat.le_of_eq hl))
 exact ⟨⟨y0⟩, ⟨o0, trivial⟩, z⟩
theorem Sent_open {n : Nat} {us : List V} (h : Cn Try.prog fl n 69 us) : ∃ a : TSent, a.ok ∧ us = [.str a.xTop, .str a.xTo.xHost, .str a.xTo.xPath, .bool a.xGuess] := by
 obtain ⟨m, hl, g0, g1, g2, _⟩ := cn_struct h Try.underlying69
 rw [cells69] at hl
 obtain ⟨y0, o0, z0⟩ := fStr g0 Try.underlying9
 obtain ⟨y1, o1, z1⟩ := Addr_open g1
 obtain ⟨y2, o2, z2⟩ := fBool g2 Try.underlying4
 have z := glue cells9 z0 (glue cells67 z1 (glue cells4 z2 (List.drop_eq_nil_of_le (Nat.le_of_eq hl))))
 exact ⟨⟨y0, y1, y2⟩, ⟨o0, o1, o2, trivial⟩, z⟩
theorem Net_open {n : Nat} {us : List V} (h : Cn Try.prog fl n 28 us) : ∃ a : TNet, a.ok ∧ us = [.sl 2 false (rows kServer TServer.row a.xServers), .sl 10 true (rows kEntry TEntry.row a.xCache.xEntries), .sl 4 true (rows kSent TSent.row a.xLog), .int .i64 a.xNow] := by
 obtain ⟨m, hl, g0, g1, g2, g3, _⟩ := cn_struct h Try.underlying28
 rw [cells28] at hl
 obtain ⟨y0, o0, z0⟩ := fRows (g := TServer.row) (ok := TServer.ok) g0 Try.underlying22 Try.underlying63 cells63 rfl Server_open (fun _ => rfl)
 obtain ⟨y1, o1, z1⟩ := Cache_open g1
 obtain ⟨y2, o2, z2⟩ := fRows (g := TSent.row) (ok := TSent.ok) g2 Try.underlying26 Try.underlying69 cells69 rfl Sent_open (fun _ => rfl)
 obtain ⟨y3, o3, z3⟩ := fInt g3 Try.underlying3
 have z := glue cells22 z0 (glue cells25 z1 (glue cells26 z2 (glue cells3 z3 (List.drop_eq_nil_of_le (Nat.le_of_eq hl)))))
 exact ⟨⟨y0, y1, y2, y3⟩, ⟨o0, o1, o2, o3, trivial⟩, z⟩
theorem answers : Answers Try.prog D := sound_den agree (fun den hD => drawOk agree (by kernel_rfl) hD) extAns
end Go.Am
end

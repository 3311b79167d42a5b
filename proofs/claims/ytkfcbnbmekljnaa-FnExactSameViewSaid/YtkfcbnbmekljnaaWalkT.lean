/-
  impl.sortedTops walked: what impl.TopsOf answers, sorted by the library's contract. Written by program (walktops.py).
-/
import Derived.Test.YtkfcbnbmekljnaaAmExt3
import Derived.Test.YtkfcbnbmekljnaaLays
import Derived.Shelf.Slices.In.SortAlone
import Derived.Shelf.Slices.In.SortNone
import Derived.RegionTactic
import Derived.WalkKit
set_option linter.unusedVariables false
set_option linter.unusedSimpArgs false
namespace Go.Proofs
open Go Go.Am Go.Shelf Go.RowKit Go.Lib Go.Sort
theorem sortE (blk off cap : Nat) (ss : List (List UInt8)) (w : World) (hH : Holds encStr w blk off ss.toArray) (hblk : blk < w.heap.size) (hsz : ss.length < 4611686018427387904) :
    Calls Try.prog 49 #[.slice (some ⟨blk, off, none⟩) ss.length cap] w fun e w' => e = .returned (.tuple #[]) ∧ ∃ n os, w' = grow (putRow encStr (Sort.ahead w n) blk off (ss.mergeSort fun x y => decide (x ≤ y)).toArray) os :=
  calls_of_every_depth fun D => AnyS.slices_Sort_string_alone Try.laysSort D blk off cap ss w hH hblk hsz
theorem sortE0 (cap : Nat) (w : World) : Calls Try.prog 49 #[.slice none 0 cap] w fun e w' => e = .returned (.tuple #[]) ∧ w' = w := Any.slices_Sort_string_none Try.laysSort none cap w
theorem block_putStr {w : World} {blk o : Nat} {d : Array (List UInt8)} {cur : Array Value} {ty : TypeId} (h : w.heap[blk]? = some (.cells cur ty (0, 0))) (hs : o + d.size ≤ cur.size) :
    ∃ cur' : Array Value, (putRow encStr w blk o d).heap[blk]? = some (.cells cur' ty (0, 0)) ∧ cur'.size = cur.size ∧ ∀ t, t < d.size → cur'[o + t]? = some (encStr d[t]!) := by
  refine ⟨putCells encStr o d cur, ?_, by simp [putCells], fun t ht => ?_⟩
  · simp [putRow, mapBlock, Array.getElem?_modify, h, onCells]
  · have : o + t < cur.size := by omega
    simp [putCells, Array.getElem?_mapIdx, this, ht]
theorem kept_sort {w0 w : World} {g o n : Nat} {d : Array (List UInt8)} {os : Array Obj} (h : Kept w0 w) (hg : w0.heap.size ≤ g) : Kept w0 (grow (putRow encStr (Sort.ahead w n) g o d) os) := by
  obtain ⟨h1, h2, h3, h4, h5⟩ := h
  refine ⟨h1, h2, h3, ?_, fun k hk => ?_⟩
  · simp only [grow, Array.size_append, size_putRow, heap_ahead]
    omega
  · rw [heap_grow_old _ _ (by rw [size_putRow, heap_ahead]; omega), ← h5 k hk]
    simp [putRow, mapBlock, Sort.ahead, Array.getElem?_modify, show g ≠ k by omega]
theorem Try.topsTail {R : Nat → Prop} {w1 W : World} {v r : V} {x : Value} (hans : Answer R w1 v x W) (hsv : sortStrV v = some r) :
    Calls Try.prog 49 #[x] W fun e W2 => e = .returned (.tuple #[]) ∧ ∀ w, Kept w w1 → Answer R w r x W2 := by
  unfold sortStrV at hsv
  split at hsv
  · rename_i j xs
    split at hsv
    · rename_i l hl
      split at hsv
      · rename_i hlen
        injection hsv with hsv
        subst hsv
        have hxl := strsOf_inv hl
        rcases hans.own1 with ⟨h0, rfl⟩ | ⟨g, o, cap, cur, ty, rfl, hng, hgg, hcap, hm, hcs, hrow⟩
        · have hl0 : l = [] := by
            rw [h0] at hxl
            cases l with
            | nil => rfl
            | cons a l => cases hxl
          subst hl0
          refine (sortE0 0 W).mono ?_
          rintro e W2 ⟨rfl, rfl⟩
          have e0 : rStr (sortS []) = [] := by
            simp [sortS]
            rfl
          rw [e0]
          exact ⟨rfl, fun w hw => answer_ownNil (hw.trans (Kept.of_answer hans))⟩
        · have hlx : xs.length = l.length := by rw [hxl]; simp
          have hlt : g < W.heap.size := by
            rcases Nat.lt_or_ge g W.heap.size with h | h
            · exact h
            · rw [Array.getElem?_eq_none h] at hgg; cases hgg
          have hH : Holds encStr W g o l.toArray := fun t ht => by
            have ht' : t < l.length := by simpa using ht
            obtain ⟨c, hc, y, hy, S, hrd⟩ := hrow t (.str l[t]) (by rw [hxl, List.getElem?_map, List.getElem?_eq_getElem ht']; rfl)
            simp only [V.cells, List.cons.injEq, and_true] at hc
            subst hc
            refine ⟨?_, by simp [World.frozen?, hgg]⟩
            rw [hy, rd_pr_str hrd]
            simp [ht', encStr]
          have hsort := sortE g o cap l W hH hlt (by omega)
          rw [← hlx] at hsort
          refine hsort.mono ?_
          rintro e W2 ⟨rfl, n, os, rfl⟩
          refine ⟨rfl, fun w hw => ?_⟩
          have hms : (sortS l).length = xs.length := by rw [hlx]; simp [sortS]
          obtain ⟨cur2, hg2, hs2, hc2⟩ := block_putStr (w := Sort.ahead W n) (blk := g) (o := o) (d := (sortS l).toArray) (cur := cur) (ty := ty) hgg (by simp only [List.size_toArray]; omega)
          have hg3 : (grow (putRow encStr (Sort.ahead W n) g o (sortS l).toArray) os).heap[g]? = some (.cells cur2 ty (0, 0)) := by
            rw [heap_grow_old _ _ (by rw [size_putRow, heap_ahead]; exact hlt)]
            exact hg2
          have hkw : Kept w (grow (putRow encStr (Sort.ahead W n) g o (sortS l).toArray) os) := hw.trans (kept_sort (Kept.of_answer hans) hng)
          have := answer_own (R := R) (s := 1) (q := .flat) (ys := rStr (sortS l)) (o := o) (g := g) (cap := cap) (cur := cur2) (ty := ty) hkw (fun _ x hx c hc => by
            obtain ⟨p, _, rfl⟩ := List.mem_map.1 hx
            simp only [CK.enc, V.cells, List.mem_cons, List.not_mem_nil, or_false] at hc
            subst hc
            exact trivial) (Nat.le_trans hw.2.2.2.1 hng) hg3 (by rw [rStr_len]; omega) hm (by omega) ⟨fun x hx => by
              obtain ⟨p, _, rfl⟩ := List.mem_map.1 hx
              rfl, fun i _ => encStr (sortS l).toArray[i]!, fun i j hi hj => ?_, fun i x j c hx hc => ?_⟩
          · rw [rStr_len, hms] at this
            exact this
          · rw [rStr_len] at hi
            have hj0 : j = 0 := by omega
            subst hj0
            have hcc := hc2 i (by simpa using hi)
            refine ⟨?_, rfl⟩
            simp only [World.cell?, hg3, Nat.mul_one, Nat.add_zero]
            exact hcc
          · have hi := (List.getElem?_eq_some_iff.1 hx).1
            rw [rStr_len] at hi
            have hx2 : x = .str (sortS l)[i] := by
              rw [show rStr (sortS l) = (sortS l).map V.str from rfl, List.getElem?_map, List.getElem?_eq_getElem hi] at hx
              injection hx with hx
              exact hx.symm
            subst hx2
            have hj0 : c = .str (sortS l)[i] := by
              match j, hc with
              | 0, hc => injection hc with hc; exact hc.symm
              | j + 1, hc => simp [V.cells] at hc
            subst hj0
            show Rd _ _ _ (encStr (sortS l).toArray[i]!)
            have e5 : (sortS l).toArray[i]! = (sortS l)[i] := by simp [hi]
            rw [e5]
            exact .str _ _ rfl
      · cases hsv
    · cases hsv
  · cases hsv
set_option maxHeartbeats 2000000 in
set_option maxRecDepth 100000 in
theorem Try.sortedTops_ok {d : Nat → List V → Option V} (hA : Answers Try.prog d) : ExtOk Try.prog 24 (topsV (d 48)) := by
  intro args r h
  refine ⟨⟨Try.f24, Try.func24, rfl, by decide⟩, fun R w vals hg hR hl hv => ?_⟩
  unfold topsV at h
  split at h
  · rename_i a1 b1 c1 a2 b2 c2 a3 b3 c3 k n hs
    obtain ⟨v, hd, hsv⟩ := bind_inv h
    obtain ⟨x, y, rfl, e0, e1⟩ := vals2 hl
    have hx := hv 0 _ _ rfl e0
    have hy := hv 1 _ _ rfl e1
    obtain ⟨sp, rfl, hsp⟩ := rd_str hy
    cases hx with
    | agg _ vs hlen hr =>
      obtain ⟨v0, v1, v2, v3, rfl⟩ : ∃ v0 v1 v2 v3, vs = #[v0, v1, v2, v3] := by
        obtain ⟨l⟩ := vs
        match l, hlen with
        | [v0, v1, v2, v3], _ => exact ⟨v0, v1, v2, v3, rfl⟩
      obtain ⟨p0, q0, r0, rfl⟩ := rd_sl (hr 0 _ v0 rfl rfl)
      obtain ⟨p1, q1, r1, rfl⟩ := rd_sl (hr 1 _ v1 rfl rfl)
      obtain ⟨p2, q2, r2, rfl⟩ := rd_sl (hr 2 _ v2 rfl rfl)
      obtain rfl := rd_int (hr 3 _ v3 rfl rfl)
      have hK := Kept.alloc w (.cells #[.slice p0 q0 r0, .slice p1 q1 r1, .slice p2 q2 r2, .int k n] 38 (0, 0))
      have hT0 := (hA 48 _ _ hd).2 R _ #[.agg #[.slice p0 q0 r0, .slice p1 q1 r1, .slice p2 q2 r2, .int k n], .string sp] (hK.glob hg) (hK.lt hR) rfl (fun i c v h1 h2 => hK.rd hR (hv i c v h1 h2))
      have hT : Calls Try.prog 48 #[.agg #[.slice p0 q0 r0, .slice p1 q1 r1, .slice p2 q2 r2, .int k n], .string sp] (w.alloc (.cells #[.slice p0 q0 r0, .slice p1 q1 r1, .slice p2 q2 r2, .int k n] 38 (0, 0))) (fun e w' => ∃ x, e = .returned x ∧ Calls Try.prog 49 #[x] w' fun e W2 => e = .returned (.tuple #[]) ∧ Answer R w r x W2) :=
        hT0.mono (fun e w' h => by
          cases e with
          | returned x => exact ⟨x, rfl, (Try.topsTail h hsv).mono (fun e W2 ⟨h1, h2⟩ => ⟨h1, h2 w hK⟩)⟩
          | _ => exact h.elim)
      clear hT0 hr hv hd hsv h hK hg hR hl e0 e1 hy hsp hlen
      go_enter Try.func24, Try.ntmps24
      go_wp2_with (first
        | (go_at_call 48; refine hT.mono ?_; rintro e w1 ⟨x1, rfl, hC⟩)
        | (go_at_call 49; refine hC.mono ?_; rintro e w2 ⟨rfl, hans⟩))
      go_ret
      exact hans
  · cases h
end Go.Proofs

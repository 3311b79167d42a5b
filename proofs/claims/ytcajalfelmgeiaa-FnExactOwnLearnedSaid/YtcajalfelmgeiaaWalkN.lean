/-
  Laws' marks written into slices of flat rows, walked. Written by program (walkmark2.py).
-/
import Derived.Test.YtcajalfelmgeiaaAmExt3
import Derived.Test.YtcajalfelmgeiaaProg
import Derived.Sort.WalkB12
import Derived.WalkKit
import Derived.Deep.LoopGhost
import Derived.RegionTactic
set_option linter.unusedVariables false
set_option linter.unusedSimpArgs false
namespace Go.Am
open Go
/-- Nothing but blocks of X has changed. -/
structure Mod (X : Nat → Prop) (w w' : World) : Prop where
  os : w'.os = w.os
  tape : w'.tape = w.tape
  output : w'.output = w.output
  size : w.heap.size ≤ w'.heap.size
  old : ∀ k, k < w.heap.size → ¬ X k → w'.heap[k]? = w.heap[k]?
theorem Mod.refl {X : Nat → Prop} (w : World) : Mod X w w := ⟨rfl, rfl, rfl, Nat.le_refl _, fun _ _ _ => rfl⟩
theorem Mod.trans {X : Nat → Prop} {w w1 w2 : World} (h : Mod X w w1) (h' : Mod X w1 w2) : Mod X w w2 :=
  ⟨h'.os.trans h.os, h'.tape.trans h.tape, h'.output.trans h.output, Nat.le_trans h.size h'.size, fun k hk hx => (h'.old k (Nat.lt_of_lt_of_le hk h.size) hx).trans (h.old k hk hx)⟩
theorem Mod.of_kept {X : Nat → Prop} {w w' : World} (h : Kept w w') : Mod X w w' := ⟨h.1, h.2.1, h.2.2.1, h.2.2.2.1, fun k hk _ => h.2.2.2.2 k hk⟩
theorem Mod.mono {X Y : Nat → Prop} {w w' : World} (h : Mod X w w') (hx : ∀ k, X k → Y k) : Mod Y w w' := ⟨h.os, h.tape, h.output, h.size, fun k hk hy => h.old k hk (fun e => hy (hx k e))⟩
theorem Mod.glob {X : Nat → Prop} {w w' : World} (h : Mod X w w') (hx : ∀ k, X k → globN ≤ k) (hg : globOk w) : globOk w' :=
  ⟨globStable _ _ hg.1 (fun k hk => h.old k (Nat.lt_of_lt_of_le hk hg.2) (fun e => absurd (hx k e) (Nat.not_le.2 hk))), Nat.le_trans hg.2 h.size⟩
theorem hsc_same (w : World) (g j : Nat) (v : Value) {cur : Array Value} {ty : TypeId} (h : w.heap[g]? = some (.cells cur ty (0, 0))) : (w.setCell ⟨g, j, none⟩ v).heap[g]? = some (.cells (cur.setIfInBounds j v) ty (0, 0)) := by
  simp [World.setCell, Array.getElem?_modify, h]
theorem hsc_other (w : World) (g j k : Nat) (v : Value) (h : k ≠ g) : (w.setCell ⟨g, j, none⟩ v).heap[k]? = w.heap[k]? := by
  simp [World.setCell, Array.getElem?_modify, Ne.symm h]
theorem Mod.setCell {X : Nat → Prop} {w w' : World} (h : Mod X w w') {g j : Nat} {v : Value} (hg : X g) : Mod X w (w'.setCell ⟨g, j, none⟩ v) :=
  ⟨h.os, h.tape, h.output, by rw [World.size_setCell]; exact h.size, fun k hk hx => (hsc_other w' g j k v (fun e => hx (e ▸ hg))).trans (h.old k hk hx)⟩
theorem blk_kept {W W' : World} {g : Nat} {cs : Array Value} {ty : TypeId} (h : Kept W W') (hg : W.heap[g]? = some (.cells cs ty (0, 0))) : W'.heap[g]? = some (.cells cs ty (0, 0)) := by
  have hlt : g < W.heap.size := by
    rcases Nat.lt_or_ge g W.heap.size with h | h
    · exact h
    · rw [Array.getElem?_eq_none h] at hg; cases hg
  rw [h.2.2.2.2 g hlt, hg]
theorem blk_cell {W : World} {g o : Nat} {cs : Array Value} {ty : TypeId} (h : W.heap[g]? = some (.cells cs ty (0, 0))) (ho : o < cs.size) : W.cell? ⟨g, o, none⟩ = some cs[o]! ∧ W.frozen? ⟨g, o, none⟩ = false := ⟨by simp [World.cell?, h, ho], by simp [World.frozen?, h]⟩
theorem blk_at {W : World} {g o : Nat} {cs : Array Value} {ty : TypeId} (h : W.heap[g]? = some (.cells cs ty (0, 0))) : W.cell? ⟨g, o, none⟩ = cs[o]? := by simp [World.cell?, h]
end Go.Am
namespace Go.Proofs
open Go Go.Am Go.RowKit Go.Sort

set_option maxHeartbeats 4000000 in
set_option maxRecDepth 100000 in
theorem Try.markString (mt : Nat → List UInt8) (hmt : ∀ (k : Nat) (z : Int) (w : World), z = (k : Int) → k < 4611686018427387904 → globOk w → Calls Try.prog 38 #[.int .i64 z] w fun e w' => ∃ s, e = .returned (.string s) ∧ s.data.toList = mt k ∧ Kept w w')
    (bk o cap n k0 : Nat) (cur0 : Array Value) (ty : TypeId) (w : World) (hg : globOk w) (hgn : globN ≤ bk) (hb : w.heap[bk]? = some (.cells cur0 ty (0, 0))) (hs : o + n ≤ cur0.size) (hn : n ≤ 1048576) (hk : k0 ≤ 1152921504606846976) :
    Calls Try.prog 13 #[.slice (some ⟨bk, o, none⟩) n cap, .int .i64 (k0 : Int)] w fun e w' => e = .returned (.int .i64 ((k0 + n : Nat) : Int)) ∧ Mod (fun k => k = bk) w w' ∧ ∃ cur, w'.heap[bk]? = some (.cells cur ty (0, 0)) ∧ cur.size = cur0.size ∧ ∀ j, j < n → ∀ t, t < 1 → ∃ s, cur[o + j + t]? = some (.string s) ∧ s.data.toList = mt (k0 + j + t) := by
  have HB : Aside (w.heap[bk]? = some (.cells cur0 ty (0, 0))) := hb
  have HG : Aside (globOk w) := hg
  clear hb hg
  go_enter Try.func13, Try.ntmps13
  go_wp2
  go_loopg [1, 5] n (fun g s1 s5 wr => ∃ (i : Nat) (z : Int) (cur : Array Value), s1 = .int .i64 z ∧ Aside (z = (k0 : Int) + (i : Int)) ∧ s5 = .int .i64 (i : Int) ∧ i ≤ n ∧ n - i ≤ g ∧ Aside (Mod (fun k => k = bk) w wr) ∧ Aside (wr.heap[bk]? = some (.cells cur ty (0, 0))) ∧ cur.size = cur0.size ∧ Aside (∀ j, j < i → ∀ t, t < 1 → ∃ s, cur[o + j + t]? = some (.string s) ∧ s.data.toList = mt (k0 + j + t)))
  case atStart => exact ⟨0, (k0 : Int), cur0, rfl, (by unfold Aside; simp), rfl, Nat.zero_le _, by omega, Mod.refl w, HB.out, rfl, fun j hj => absurd hj (Nat.not_lt_zero _)⟩
  case round =>
    obtain ⟨i, z, cur, rfl, hz, rfl, hi, hgm, hM, hB, hcs, A⟩ := hrel
    have hz0 : 0 ≤ z := by have := hz.out; omega
    have hz1 : z ≤ 4611686018427387000 := by have := hz.out; omega
    by_cases hlt : i < n
    · have hin : ∀ t, t < 1 → o + i + t < cur.size := fun t ht => by
        have := Nat.mul_le_mul_right 1 (show i + 1 ≤ n from hlt)
        omega
      go_wp2_with (go_at_call_of 38 (Value.bool true); skip)
      refine Calls.mono (hmt (k0 + i + 0) _ _ ?_ (by omega) ?_) ?_
      · have := hz.out; omega
      · exact Mod.glob (hM.out) (fun k e => by rw [e]; exact hgn) HG.out
      rintro e w10 ⟨s10, rfl, hs2, hk2⟩
      have H10 : Aside (s10.data.toList = mt (k0 + i + 0)) := hs2
      have K10 : Aside (Kept _ w10) := hk2
      obtain ⟨c10, f10⟩ := blk_cell (blk_kept hk2 (hB.out)) (show o + i < _ from by exact hin 0 (by omega))
      clear hs2 hk2
      go_wp2
      go_roundg (n - (i + 1))
      case measure => omega
      case rel =>
        refine ⟨i + 1, _, (cur).setIfInBounds (o + i) (.string s10), rfl, (by unfold Aside; have := hz.out; omega), by go_num, by omega, Nat.le_refl _, (show Aside _ from Mod.setCell (Mod.trans (hM.out) (Mod.of_kept K10.out)) rfl), (show Aside _ from hsc_same _ _ _ _ (blk_kept K10.out (hB.out))), by simp only [Array.size_setIfInBounds]; exact hcs, (show Aside _ from fun j hj t ht => ?_)⟩
        by_cases e : j = i
        · subst e
          rcases (show t = 0 by omega) with rfl
          · exact ⟨s10, by exact Array.getElem?_setIfInBounds_self_of_lt (by exact hin 0 (by omega)), H10.out⟩
        · obtain ⟨s, h1, h2⟩ := A.out j (by omega) t ht
          have hne : ∀ t2, t2 < 1 → o + j + t ≠ o + i + t2 := fun t2 ht2 h => by
            have := Nat.mul_le_mul_right 1 (show j + 1 ≤ i by omega)
            omega
          exact ⟨s, by rw [Array.getElem?_setIfInBounds_ne (by have := hne 0 (by omega); omega)]; exact h1, h2⟩
    · have : i = n := by omega
      subst this
      go_wp2
      go_ret
      refine ⟨?_, hM.out, cur, hB.out, hcs, A.out⟩
      have := hz.out
      rw [this]
      go_num
set_option maxHeartbeats 2000000 in
set_option maxRecDepth 100000 in
theorem Try.markString0 (a : Option Addr) (cap : Nat) (z : Int) (w : World) : Calls Try.prog 13 #[.slice a 0 cap, .int .i64 z] w fun e w' => e = .returned (.int .i64 z) ∧ w' = w := by
  go_enter Try.func13, Try.ntmps13
  go_wp2
  go_loopg [1, 5] 0 (fun g s1 s5 wr => s1 = .int .i64 z ∧ s5 = .int .i64 0 ∧ wr = w)
  case atStart => exact ⟨rfl, rfl, rfl⟩
  case round =>
    obtain ⟨rfl, rfl, rfl⟩ := hrel
    go_wp2
    go_ret
    exact ⟨rfl, rfl⟩
set_option maxHeartbeats 4000000 in
set_option maxRecDepth 100000 in
theorem Try.markAddr (mt : Nat → List UInt8) (hmt : ∀ (k : Nat) (z : Int) (w : World), z = (k : Int) → k < 4611686018427387904 → globOk w → Calls Try.prog 38 #[.int .i64 z] w fun e w' => ∃ s, e = .returned (.string s) ∧ s.data.toList = mt k ∧ Kept w w')
    (bk o cap n k0 : Nat) (cur0 : Array Value) (ty : TypeId) (w : World) (hg : globOk w) (hgn : globN ≤ bk) (hb : w.heap[bk]? = some (.cells cur0 ty (0, 0))) (hs : o + n * 2 ≤ cur0.size) (hn : n ≤ 1048576) (hk : k0 ≤ 1152921504606846976) :
    Calls Try.prog 18 #[.slice (some ⟨bk, o, none⟩) n cap, .int .i64 (k0 : Int)] w fun e w' => e = .returned (.int .i64 ((k0 + n * 2 : Nat) : Int)) ∧ Mod (fun k => k = bk) w w' ∧ ∃ cur, w'.heap[bk]? = some (.cells cur ty (0, 0)) ∧ cur.size = cur0.size ∧ ∀ j, j < n → ∀ t, t < 2 → ∃ s, cur[o + j * 2 + t]? = some (.string s) ∧ s.data.toList = mt (k0 + j * 2 + t) := by
  have HB : Aside (w.heap[bk]? = some (.cells cur0 ty (0, 0))) := hb
  have HG : Aside (globOk w) := hg
  clear hb hg
  go_enter Try.func18, Try.ntmps18
  go_wp2
  go_loopg [1, 5] n (fun g s1 s5 wr => ∃ (i : Nat) (z : Int) (cur : Array Value), s1 = .int .i64 z ∧ Aside (z = (k0 : Int) + (i : Int) * 2) ∧ s5 = .int .i64 (i : Int) ∧ i ≤ n ∧ n - i ≤ g ∧ Aside (Mod (fun k => k = bk) w wr) ∧ Aside (wr.heap[bk]? = some (.cells cur ty (0, 0))) ∧ cur.size = cur0.size ∧ Aside (∀ j, j < i → ∀ t, t < 2 → ∃ s, cur[o + j * 2 + t]? = some (.string s) ∧ s.data.toList = mt (k0 + j * 2 + t)))
  case atStart => exact ⟨0, (k0 : Int), cur0, rfl, (by unfold Aside; simp), rfl, Nat.zero_le _, by omega, Mod.refl w, HB.out, rfl, fun j hj => absurd hj (Nat.not_lt_zero _)⟩
  case round =>
    obtain ⟨i, z, cur, rfl, hz, rfl, hi, hgm, hM, hB, hcs, A⟩ := hrel
    have hz0 : 0 ≤ z := by have := hz.out; omega
    have hz1 : z ≤ 4611686018427387000 := by have := hz.out; omega
    by_cases hlt : i < n
    · have hin : ∀ t, t < 2 → o + i * 2 + t < cur.size := fun t ht => by
        have := Nat.mul_le_mul_right 2 (show i + 1 ≤ n from hlt)
        omega
      go_wp2_with (go_at_call_of 38 (Value.bool true); skip)
      refine Calls.mono (hmt (k0 + i * 2 + 0) _ _ ?_ (by omega) ?_) ?_
      · have := hz.out; omega
      · exact Mod.glob (hM.out) (fun k e => by rw [e]; exact hgn) HG.out
      rintro e w10 ⟨s10, rfl, hs2, hk2⟩
      have H10 : Aside (s10.data.toList = mt (k0 + i * 2 + 0)) := hs2
      have K10 : Aside (Kept _ w10) := hk2
      obtain ⟨c10, f10⟩ := blk_cell (blk_kept hk2 (hB.out)) (show o + i * 2 < _ from by exact hin 0 (by omega))
      clear hs2 hk2
      go_wp2_with (go_at_call_of 38 (Value.bool true); skip)
      refine Calls.mono (hmt (k0 + i * 2 + 1) _ _ ?_ (by omega) ?_) ?_
      · have := hz.out; omega
      · exact Mod.glob (Mod.setCell (Mod.trans (hM.out) (Mod.of_kept K10.out)) rfl) (fun k e => by rw [e]; exact hgn) HG.out
      rintro e w11 ⟨s11, rfl, hs2, hk2⟩
      have H11 : Aside (s11.data.toList = mt (k0 + i * 2 + 1)) := hs2
      have K11 : Aside (Kept _ w11) := hk2
      obtain ⟨c11, f11⟩ := blk_cell (blk_kept hk2 (hsc_same _ _ _ _ (blk_kept K10.out (hB.out)))) (show o + i * 2 + 1 < _ from by simp only [Array.size_setIfInBounds]; exact hin 1 (by omega))
      clear hs2 hk2
      go_wp2
      go_roundg (n - (i + 1))
      case measure => omega
      case rel =>
        refine ⟨i + 1, _, ((cur).setIfInBounds (o + i * 2) (.string s10)).setIfInBounds (o + i * 2 + 1) (.string s11), rfl, (by unfold Aside; have := hz.out; omega), by go_num, by omega, Nat.le_refl _, (show Aside _ from Mod.setCell (Mod.trans (Mod.setCell (Mod.trans (hM.out) (Mod.of_kept K10.out)) rfl) (Mod.of_kept K11.out)) rfl), (show Aside _ from hsc_same _ _ _ _ (blk_kept K11.out (hsc_same _ _ _ _ (blk_kept K10.out (hB.out))))), by simp only [Array.size_setIfInBounds]; exact hcs, (show Aside _ from fun j hj t ht => ?_)⟩
        by_cases e : j = i
        · subst e
          rcases (show t = 0 ∨ t = 1 by omega) with rfl | rfl
          · exact ⟨s10, by rw [Array.getElem?_setIfInBounds_ne (by omega)]; exact Array.getElem?_setIfInBounds_self_of_lt (by exact hin 0 (by omega)), H10.out⟩
          · exact ⟨s11, by exact Array.getElem?_setIfInBounds_self_of_lt (by simp only [Array.size_setIfInBounds]; exact hin 1 (by omega)), H11.out⟩
        · obtain ⟨s, h1, h2⟩ := A.out j (by omega) t ht
          have hne : ∀ t2, t2 < 2 → o + j * 2 + t ≠ o + i * 2 + t2 := fun t2 ht2 h => by
            have := Nat.mul_le_mul_right 2 (show j + 1 ≤ i by omega)
            omega
          exact ⟨s, by rw [Array.getElem?_setIfInBounds_ne (by have := hne 1 (by omega); omega)]; rw [Array.getElem?_setIfInBounds_ne (by have := hne 0 (by omega); omega)]; exact h1, h2⟩
    · have : i = n := by omega
      subst this
      go_wp2
      go_ret
      refine ⟨?_, hM.out, cur, hB.out, hcs, A.out⟩
      have := hz.out
      rw [this]
      go_num
set_option maxHeartbeats 2000000 in
set_option maxRecDepth 100000 in
theorem Try.markAddr0 (a : Option Addr) (cap : Nat) (z : Int) (w : World) : Calls Try.prog 18 #[.slice a 0 cap, .int .i64 z] w fun e w' => e = .returned (.int .i64 z) ∧ w' = w := by
  go_enter Try.func18, Try.ntmps18
  go_wp2
  go_loopg [1, 5] 0 (fun g s1 s5 wr => s1 = .int .i64 z ∧ s5 = .int .i64 0 ∧ wr = w)
  case atStart => exact ⟨rfl, rfl, rfl⟩
  case round =>
    obtain ⟨rfl, rfl, rfl⟩ := hrel
    go_wp2
    go_ret
    exact ⟨rfl, rfl⟩
set_option maxHeartbeats 4000000 in
set_option maxRecDepth 100000 in
theorem Try.markSent (mt : Nat → List UInt8) (hmt : ∀ (k : Nat) (z : Int) (w : World), z = (k : Int) → k < 4611686018427387904 → globOk w → Calls Try.prog 38 #[.int .i64 z] w fun e w' => ∃ s, e = .returned (.string s) ∧ s.data.toList = mt k ∧ Kept w w')
    (bk o cap n k0 : Nat) (cur0 : Array Value) (ty : TypeId) (w : World) (hg : globOk w) (hgn : globN ≤ bk) (hb : w.heap[bk]? = some (.cells cur0 ty (0, 0))) (hs : o + n * 4 ≤ cur0.size) (hn : n ≤ 1048576) (hk : k0 ≤ 1152921504606846976) :
    Calls Try.prog 37 #[.slice (some ⟨bk, o, none⟩) n cap, .int .i64 (k0 : Int)] w fun e w' => e = .returned (.int .i64 ((k0 + n * 4 : Nat) : Int)) ∧ Mod (fun k => k = bk) w w' ∧ ∃ cur, w'.heap[bk]? = some (.cells cur ty (0, 0)) ∧ cur.size = cur0.size ∧ True := by
  have HB : Aside (w.heap[bk]? = some (.cells cur0 ty (0, 0))) := hb
  have HG : Aside (globOk w) := hg
  clear hb hg
  go_enter Try.func37, Try.ntmps37
  go_wp2
  go_loopg [1, 5] n (fun g s1 s5 wr => ∃ (i : Nat) (z : Int) (cur : Array Value), s1 = .int .i64 z ∧ Aside (z = (k0 : Int) + (i : Int) * 4) ∧ s5 = .int .i64 (i : Int) ∧ i ≤ n ∧ n - i ≤ g ∧ Aside (Mod (fun k => k = bk) w wr) ∧ Aside (wr.heap[bk]? = some (.cells cur ty (0, 0))) ∧ cur.size = cur0.size ∧ Aside (True))
  case atStart => exact ⟨0, (k0 : Int), cur0, rfl, (by unfold Aside; simp), rfl, Nat.zero_le _, by omega, Mod.refl w, HB.out, rfl, trivial⟩
  case round =>
    obtain ⟨i, z, cur, rfl, hz, rfl, hi, hgm, hM, hB, hcs, A⟩ := hrel
    have hz0 : 0 ≤ z := by have := hz.out; omega
    have hz1 : z ≤ 4611686018427387000 := by have := hz.out; omega
    by_cases hlt : i < n
    · have hin : ∀ t, t < 4 → o + i * 4 + t < cur.size := fun t ht => by
        have := Nat.mul_le_mul_right 4 (show i + 1 ≤ n from hlt)
        omega
      go_wp2_with (go_at_call_of 38 (Value.bool true); skip)
      refine Calls.mono (hmt (k0 + i * 4 + 0) _ _ ?_ (by omega) ?_) ?_
      · have := hz.out; omega
      · exact Mod.glob (hM.out) (fun k e => by rw [e]; exact hgn) HG.out
      rintro e w10 ⟨s10, rfl, hs2, hk2⟩
      have H10 : Aside (s10.data.toList = mt (k0 + i * 4 + 0)) := hs2
      have K10 : Aside (Kept _ w10) := hk2
      obtain ⟨c10, f10⟩ := blk_cell (blk_kept hk2 (hB.out)) (show o + i * 4 < _ from by exact hin 0 (by omega))
      clear hs2 hk2
      go_wp2_with (go_at_call_of 38 (Value.bool true); skip)
      refine Calls.mono (hmt (k0 + i * 4 + 1) _ _ ?_ (by omega) ?_) ?_
      · have := hz.out; omega
      · exact Mod.glob (Mod.setCell (Mod.trans (hM.out) (Mod.of_kept K10.out)) rfl) (fun k e => by rw [e]; exact hgn) HG.out
      rintro e w11 ⟨s11, rfl, hs2, hk2⟩
      have H11 : Aside (s11.data.toList = mt (k0 + i * 4 + 1)) := hs2
      have K11 : Aside (Kept _ w11) := hk2
      obtain ⟨c11, f11⟩ := blk_cell (blk_kept hk2 (hsc_same _ _ _ _ (blk_kept K10.out (hB.out)))) (show o + i * 4 + 1 < _ from by simp only [Array.size_setIfInBounds]; exact hin 1 (by omega))
      clear hs2 hk2
      go_wp2_with (go_at_call_of 38 (Value.bool true); skip)
      refine Calls.mono (hmt (k0 + i * 4 + 2) _ _ ?_ (by omega) ?_) ?_
      · have := hz.out; omega
      · exact Mod.glob (Mod.setCell (Mod.trans (Mod.setCell (Mod.trans (hM.out) (Mod.of_kept K10.out)) rfl) (Mod.of_kept K11.out)) rfl) (fun k e => by rw [e]; exact hgn) HG.out
      rintro e w12 ⟨s12, rfl, hs2, hk2⟩
      have H12 : Aside (s12.data.toList = mt (k0 + i * 4 + 2)) := hs2
      have K12 : Aside (Kept _ w12) := hk2
      obtain ⟨c12, f12⟩ := blk_cell (blk_kept hk2 (hsc_same _ _ _ _ (blk_kept K11.out (hsc_same _ _ _ _ (blk_kept K10.out (hB.out)))))) (show o + i * 4 + 2 < _ from by simp only [Array.size_setIfInBounds]; exact hin 2 (by omega))
      obtain ⟨c13, f13⟩ := blk_cell (blk_kept hk2 (hsc_same _ _ _ _ (blk_kept K11.out (hsc_same _ _ _ _ (blk_kept K10.out (hB.out)))))) (show o + i * 4 + 3 < _ from by simp only [Array.size_setIfInBounds]; exact hin 3 (by omega))
      generalize (((cur).setIfInBounds (o + i * 4) (.string s10)).setIfInBounds (o + i * 4 + 1) (.string s11))[o + i * 4 + 3]! = old3 at c13
      clear hs2 hk2
      go_wp2
      go_roundg (n - (i + 1))
      case measure => omega
      case rel =>
        refine ⟨i + 1, _, ((((cur).setIfInBounds (o + i * 4) (.string s10)).setIfInBounds (o + i * 4 + 1) (.string s11)).setIfInBounds (o + i * 4 + 2) (.string s12)).setIfInBounds (o + i * 4 + 3) _, rfl, (by unfold Aside; have := hz.out; omega), by go_num, by omega, Nat.le_refl _, (show Aside _ from Mod.setCell (Mod.setCell (Mod.trans (Mod.setCell (Mod.trans (Mod.setCell (Mod.trans (hM.out) (Mod.of_kept K10.out)) rfl) (Mod.of_kept K11.out)) rfl) (Mod.of_kept K12.out)) rfl) rfl), (show Aside _ from hsc_same _ _ _ _ (hsc_same _ _ _ _ (blk_kept K12.out (hsc_same _ _ _ _ (blk_kept K11.out (hsc_same _ _ _ _ (blk_kept K10.out (hB.out)))))))), by simp only [Array.size_setIfInBounds]; exact hcs, (show Aside _ from trivial)⟩
    · have : i = n := by omega
      subst this
      go_wp2
      go_ret
      refine ⟨?_, hM.out, cur, hB.out, hcs, A.out⟩
      have := hz.out
      rw [this]
      go_num
set_option maxHeartbeats 2000000 in
set_option maxRecDepth 100000 in
theorem Try.markSent0 (a : Option Addr) (cap : Nat) (z : Int) (w : World) : Calls Try.prog 37 #[.slice a 0 cap, .int .i64 z] w fun e w' => e = .returned (.int .i64 z) ∧ w' = w := by
  go_enter Try.func37, Try.ntmps37
  go_wp2
  go_loopg [1, 5] 0 (fun g s1 s5 wr => s1 = .int .i64 z ∧ s5 = .int .i64 0 ∧ wr = w)
  case atStart => exact ⟨rfl, rfl, rfl⟩
  case round =>
    obtain ⟨rfl, rfl, rfl⟩ := hrel
    go_wp2
    go_ret
    exact ⟨rfl, rfl⟩
set_option maxHeartbeats 4000000 in
set_option maxRecDepth 100000 in
theorem Try.markFile (mt : Nat → List UInt8) (hmt : ∀ (k : Nat) (z : Int) (w : World), z = (k : Int) → k < 4611686018427387904 → globOk w → Calls Try.prog 38 #[.int .i64 z] w fun e w' => ∃ s, e = .returned (.string s) ∧ s.data.toList = mt k ∧ Kept w w')
    (bk o cap n k0 : Nat) (cur0 : Array Value) (ty : TypeId) (w : World) (hg : globOk w) (hgn : globN ≤ bk) (hb : w.heap[bk]? = some (.cells cur0 ty (0, 0))) (hs : o + n * 7 ≤ cur0.size) (hn : n ≤ 1048576) (hk : k0 ≤ 1152921504606846976) :
    Calls Try.prog 57 #[.slice (some ⟨bk, o, none⟩) n cap, .int .i64 (k0 : Int)] w fun e w' => e = .returned (.int .i64 ((k0 + n * 7 : Nat) : Int)) ∧ Mod (fun k => k = bk) w w' ∧ ∃ cur, w'.heap[bk]? = some (.cells cur ty (0, 0)) ∧ cur.size = cur0.size ∧ True := by
  have HB : Aside (w.heap[bk]? = some (.cells cur0 ty (0, 0))) := hb
  have HG : Aside (globOk w) := hg
  clear hb hg
  go_enter Try.func57, Try.ntmps57
  go_wp2
  go_loopg [1, 5] n (fun g s1 s5 wr => ∃ (i : Nat) (z : Int) (cur : Array Value), s1 = .int .i64 z ∧ Aside (z = (k0 : Int) + (i : Int) * 7) ∧ s5 = .int .i64 (i : Int) ∧ i ≤ n ∧ n - i ≤ g ∧ Aside (Mod (fun k => k = bk) w wr) ∧ Aside (wr.heap[bk]? = some (.cells cur ty (0, 0))) ∧ cur.size = cur0.size ∧ Aside (True))
  case atStart => exact ⟨0, (k0 : Int), cur0, rfl, (by unfold Aside; simp), rfl, Nat.zero_le _, by omega, Mod.refl w, HB.out, rfl, trivial⟩
  case round =>
    obtain ⟨i, z, cur, rfl, hz, rfl, hi, hgm, hM, hB, hcs, A⟩ := hrel
    have hz0 : 0 ≤ z := by have := hz.out; omega
    have hz1 : z ≤ 4611686018427387000 := by have := hz.out; omega
    by_cases hlt : i < n
    · have hin : ∀ t, t < 7 → o + i * 7 + t < cur.size := fun t ht => by
        have := Nat.mul_le_mul_right 7 (show i + 1 ≤ n from hlt)
        omega
      go_wp2_with (go_at_call_of 38 (Value.bool true); skip)
      refine Calls.mono (hmt (k0 + i * 7 + 0) _ _ ?_ (by omega) ?_) ?_
      · have := hz.out; omega
      · exact Mod.glob (hM.out) (fun k e => by rw [e]; exact hgn) HG.out
      rintro e w10 ⟨s10, rfl, hs2, hk2⟩
      have H10 : Aside (s10.data.toList = mt (k0 + i * 7 + 0)) := hs2
      have K10 : Aside (Kept _ w10) := hk2
      obtain ⟨c10, f10⟩ := blk_cell (blk_kept hk2 (hB.out)) (show o + i * 7 < _ from by exact hin 0 (by omega))
      obtain ⟨c11, f11⟩ := blk_cell (blk_kept hk2 (hB.out)) (show o + i * 7 + 1 < _ from by exact hin 1 (by omega))
      generalize (cur)[o + i * 7 + 1]! = old1 at c11
      obtain ⟨c12, f12⟩ := blk_cell (blk_kept hk2 (hB.out)) (show o + i * 7 + 2 < _ from by exact hin 2 (by omega))
      generalize (cur)[o + i * 7 + 2]! = old2 at c12
      clear hs2 hk2
      go_wp2_with (go_at_call_of 38 (Value.bool true); skip)
      refine Calls.mono (hmt (k0 + i * 7 + 3) _ _ ?_ (by omega) ?_) ?_
      · have := hz.out; omega
      · exact Mod.glob (Mod.setCell (Mod.setCell (Mod.setCell (Mod.trans (hM.out) (Mod.of_kept K10.out)) rfl) rfl) rfl) (fun k e => by rw [e]; exact hgn) HG.out
      rintro e w13 ⟨s13, rfl, hs2, hk2⟩
      have H13 : Aside (s13.data.toList = mt (k0 + i * 7 + 3)) := hs2
      have K13 : Aside (Kept _ w13) := hk2
      obtain ⟨c13, f13⟩ := blk_cell (blk_kept hk2 (hsc_same _ _ _ _ (hsc_same _ _ _ _ (hsc_same _ _ _ _ (blk_kept K10.out (hB.out)))))) (show o + i * 7 + 3 < _ from by simp only [Array.size_setIfInBounds]; exact hin 3 (by omega))
      obtain ⟨c14, f14⟩ := blk_cell (blk_kept hk2 (hsc_same _ _ _ _ (hsc_same _ _ _ _ (hsc_same _ _ _ _ (blk_kept K10.out (hB.out)))))) (show o + i * 7 + 4 < _ from by simp only [Array.size_setIfInBounds]; exact hin 4 (by omega))
      generalize ((((cur).setIfInBounds (o + i * 7) (.string s10)).setIfInBounds (o + i * 7 + 1) _).setIfInBounds (o + i * 7 + 2) _)[o + i * 7 + 4]! = old4 at c14
      obtain ⟨c15, f15⟩ := blk_cell (blk_kept hk2 (hsc_same _ _ _ _ (hsc_same _ _ _ _ (hsc_same _ _ _ _ (blk_kept K10.out (hB.out)))))) (show o + i * 7 + 5 < _ from by simp only [Array.size_setIfInBounds]; exact hin 5 (by omega))
      generalize ((((cur).setIfInBounds (o + i * 7) (.string s10)).setIfInBounds (o + i * 7 + 1) _).setIfInBounds (o + i * 7 + 2) _)[o + i * 7 + 5]! = old5 at c15
      clear hs2 hk2
      go_wp2_with (go_at_call_of 38 (Value.bool true); skip)
      refine Calls.mono (hmt (k0 + i * 7 + 6) _ _ ?_ (by omega) ?_) ?_
      · have := hz.out; omega
      · exact Mod.glob (Mod.setCell (Mod.setCell (Mod.setCell (Mod.trans (Mod.setCell (Mod.setCell (Mod.setCell (Mod.trans (hM.out) (Mod.of_kept K10.out)) rfl) rfl) rfl) (Mod.of_kept K13.out)) rfl) rfl) rfl) (fun k e => by rw [e]; exact hgn) HG.out
      rintro e w16 ⟨s16, rfl, hs2, hk2⟩
      have H16 : Aside (s16.data.toList = mt (k0 + i * 7 + 6)) := hs2
      have K16 : Aside (Kept _ w16) := hk2
      obtain ⟨c16, f16⟩ := blk_cell (blk_kept hk2 (hsc_same _ _ _ _ (hsc_same _ _ _ _ (hsc_same _ _ _ _ (blk_kept K13.out (hsc_same _ _ _ _ (hsc_same _ _ _ _ (hsc_same _ _ _ _ (blk_kept K10.out (hB.out)))))))))) (show o + i * 7 + 6 < _ from by simp only [Array.size_setIfInBounds]; exact hin 6 (by omega))
      clear hs2 hk2
      go_wp2
      go_roundg (n - (i + 1))
      case measure => omega
      case rel =>
        refine ⟨i + 1, _, (((((((cur).setIfInBounds (o + i * 7) (.string s10)).setIfInBounds (o + i * 7 + 1) _).setIfInBounds (o + i * 7 + 2) _).setIfInBounds (o + i * 7 + 3) (.string s13)).setIfInBounds (o + i * 7 + 4) _).setIfInBounds (o + i * 7 + 5) _).setIfInBounds (o + i * 7 + 6) (.string s16), rfl, (by unfold Aside; have := hz.out; omega), by go_num, by omega, Nat.le_refl _, (show Aside _ from Mod.setCell (Mod.trans (Mod.setCell (Mod.setCell (Mod.setCell (Mod.trans (Mod.setCell (Mod.setCell (Mod.setCell (Mod.trans (hM.out) (Mod.of_kept K10.out)) rfl) rfl) rfl) (Mod.of_kept K13.out)) rfl) rfl) rfl) (Mod.of_kept K16.out)) rfl), (show Aside _ from hsc_same _ _ _ _ (blk_kept K16.out (hsc_same _ _ _ _ (hsc_same _ _ _ _ (hsc_same _ _ _ _ (blk_kept K13.out (hsc_same _ _ _ _ (hsc_same _ _ _ _ (hsc_same _ _ _ _ (blk_kept K10.out (hB.out))))))))))), by simp only [Array.size_setIfInBounds]; exact hcs, (show Aside _ from trivial)⟩
    · have : i = n := by omega
      subst this
      go_wp2
      go_ret
      refine ⟨?_, hM.out, cur, hB.out, hcs, A.out⟩
      have := hz.out
      rw [this]
      go_num
set_option maxHeartbeats 2000000 in
set_option maxRecDepth 100000 in
theorem Try.markFile0 (a : Option Addr) (cap : Nat) (z : Int) (w : World) : Calls Try.prog 57 #[.slice a 0 cap, .int .i64 z] w fun e w' => e = .returned (.int .i64 z) ∧ w' = w := by
  go_enter Try.func57, Try.ntmps57
  go_wp2
  go_loopg [1, 5] 0 (fun g s1 s5 wr => s1 = .int .i64 z ∧ s5 = .int .i64 0 ∧ wr = w)
  case atStart => exact ⟨rfl, rfl, rfl⟩
  case round =>
    obtain ⟨rfl, rfl, rfl⟩ := hrel
    go_wp2
    go_ret
    exact ⟨rfl, rfl⟩
set_option maxHeartbeats 4000000 in
set_option maxRecDepth 100000 in
theorem Try.markEntry (mt : Nat → List UInt8) (hmt : ∀ (k : Nat) (z : Int) (w : World), z = (k : Int) → k < 4611686018427387904 → globOk w → Calls Try.prog 38 #[.int .i64 z] w fun e w' => ∃ s, e = .returned (.string s) ∧ s.data.toList = mt k ∧ Kept w w')
    (bk o cap n k0 : Nat) (cur0 : Array Value) (ty : TypeId) (w : World) (hg : globOk w) (hgn : globN ≤ bk) (hb : w.heap[bk]? = some (.cells cur0 ty (0, 0))) (hs : o + n * 10 ≤ cur0.size) (hn : n ≤ 1048576) (hk : k0 ≤ 1152921504606846976) :
    Calls Try.prog 58 #[.slice (some ⟨bk, o, none⟩) n cap, .int .i64 (k0 : Int)] w fun e w' => e = .returned (.int .i64 ((k0 + n * 10 : Nat) : Int)) ∧ Mod (fun k => k = bk) w w' ∧ ∃ cur, w'.heap[bk]? = some (.cells cur ty (0, 0)) ∧ cur.size = cur0.size ∧ True := by
  have HB : Aside (w.heap[bk]? = some (.cells cur0 ty (0, 0))) := hb
  have HG : Aside (globOk w) := hg
  clear hb hg
  go_enter Try.func58, Try.ntmps58
  go_wp2
  go_loopg [1, 5] n (fun g s1 s5 wr => ∃ (i : Nat) (z : Int) (cur : Array Value), s1 = .int .i64 z ∧ Aside (z = (k0 : Int) + (i : Int) * 10) ∧ s5 = .int .i64 (i : Int) ∧ i ≤ n ∧ n - i ≤ g ∧ Aside (Mod (fun k => k = bk) w wr) ∧ Aside (wr.heap[bk]? = some (.cells cur ty (0, 0))) ∧ cur.size = cur0.size ∧ Aside (True))
  case atStart => exact ⟨0, (k0 : Int), cur0, rfl, (by unfold Aside; simp), rfl, Nat.zero_le _, by omega, Mod.refl w, HB.out, rfl, trivial⟩
  case round =>
    obtain ⟨i, z, cur, rfl, hz, rfl, hi, hgm, hM, hB, hcs, A⟩ := hrel
    have hz0 : 0 ≤ z := by have := hz.out; omega
    have hz1 : z ≤ 4611686018427387000 := by have := hz.out; omega
    by_cases hlt : i < n
    · have hin : ∀ t, t < 10 → o + i * 10 + t < cur.size := fun t ht => by
        have := Nat.mul_le_mul_right 10 (show i + 1 ≤ n from hlt)
        omega
      go_wp2_with (go_at_call_of 38 (Value.bool true); skip)
      refine Calls.mono (hmt (k0 + i * 10 + 0) _ _ ?_ (by omega) ?_) ?_
      · have := hz.out; omega
      · exact Mod.glob (hM.out) (fun k e => by rw [e]; exact hgn) HG.out
      rintro e w10 ⟨s10, rfl, hs2, hk2⟩
      have H10 : Aside (s10.data.toList = mt (k0 + i * 10 + 0)) := hs2
      have K10 : Aside (Kept _ w10) := hk2
      obtain ⟨c10, f10⟩ := blk_cell (blk_kept hk2 (hB.out)) (show o + i * 10 < _ from by exact hin 0 (by omega))
      clear hs2 hk2
      go_wp2_with (go_at_call_of 38 (Value.bool true); skip)
      refine Calls.mono (hmt (k0 + i * 10 + 1) _ _ ?_ (by omega) ?_) ?_
      · have := hz.out; omega
      · exact Mod.glob (Mod.setCell (Mod.trans (hM.out) (Mod.of_kept K10.out)) rfl) (fun k e => by rw [e]; exact hgn) HG.out
      rintro e w11 ⟨s11, rfl, hs2, hk2⟩
      have H11 : Aside (s11.data.toList = mt (k0 + i * 10 + 1)) := hs2
      have K11 : Aside (Kept _ w11) := hk2
      obtain ⟨c11, f11⟩ := blk_cell (blk_kept hk2 (hsc_same _ _ _ _ (blk_kept K10.out (hB.out)))) (show o + i * 10 + 1 < _ from by simp only [Array.size_setIfInBounds]; exact hin 1 (by omega))
      clear hs2 hk2
      go_wp2_with (go_at_call_of 38 (Value.bool true); skip)
      refine Calls.mono (hmt (k0 + i * 10 + 2) _ _ ?_ (by omega) ?_) ?_
      · have := hz.out; omega
      · exact Mod.glob (Mod.setCell (Mod.trans (Mod.setCell (Mod.trans (hM.out) (Mod.of_kept K10.out)) rfl) (Mod.of_kept K11.out)) rfl) (fun k e => by rw [e]; exact hgn) HG.out
      rintro e w12 ⟨s12, rfl, hs2, hk2⟩
      have H12 : Aside (s12.data.toList = mt (k0 + i * 10 + 2)) := hs2
      have K12 : Aside (Kept _ w12) := hk2
      obtain ⟨c12, f12⟩ := blk_cell (blk_kept hk2 (hsc_same _ _ _ _ (blk_kept K11.out (hsc_same _ _ _ _ (blk_kept K10.out (hB.out)))))) (show o + i * 10 + 2 < _ from by simp only [Array.size_setIfInBounds]; exact hin 2 (by omega))
      obtain ⟨c13, f13⟩ := blk_cell (blk_kept hk2 (hsc_same _ _ _ _ (blk_kept K11.out (hsc_same _ _ _ _ (blk_kept K10.out (hB.out)))))) (show o + i * 10 + 3 < _ from by simp only [Array.size_setIfInBounds]; exact hin 3 (by omega))
      generalize (((cur).setIfInBounds (o + i * 10) (.string s10)).setIfInBounds (o + i * 10 + 1) (.string s11))[o + i * 10 + 3]! = old3 at c13
      obtain ⟨c14, f14⟩ := blk_cell (blk_kept hk2 (hsc_same _ _ _ _ (blk_kept K11.out (hsc_same _ _ _ _ (blk_kept K10.out (hB.out)))))) (show o + i * 10 + 4 < _ from by simp only [Array.size_setIfInBounds]; exact hin 4 (by omega))
      generalize (((cur).setIfInBounds (o + i * 10) (.string s10)).setIfInBounds (o + i * 10 + 1) (.string s11))[o + i * 10 + 4]! = old4 at c14
      clear hs2 hk2
      go_wp2_with (go_at_call_of 38 (Value.bool true); skip)
      refine Calls.mono (hmt (k0 + i * 10 + 5) _ _ ?_ (by omega) ?_) ?_
      · have := hz.out; omega
      · exact Mod.glob (Mod.setCell (Mod.setCell (Mod.setCell (Mod.trans (Mod.setCell (Mod.trans (Mod.setCell (Mod.trans (hM.out) (Mod.of_kept K10.out)) rfl) (Mod.of_kept K11.out)) rfl) (Mod.of_kept K12.out)) rfl) rfl) rfl) (fun k e => by rw [e]; exact hgn) HG.out
      rintro e w15 ⟨s15, rfl, hs2, hk2⟩
      have H15 : Aside (s15.data.toList = mt (k0 + i * 10 + 5)) := hs2
      have K15 : Aside (Kept _ w15) := hk2
      obtain ⟨c15, f15⟩ := blk_cell (blk_kept hk2 (hsc_same _ _ _ _ (hsc_same _ _ _ _ (hsc_same _ _ _ _ (blk_kept K12.out (hsc_same _ _ _ _ (blk_kept K11.out (hsc_same _ _ _ _ (blk_kept K10.out (hB.out)))))))))) (show o + i * 10 + 5 < _ from by simp only [Array.size_setIfInBounds]; exact hin 5 (by omega))
      obtain ⟨c16, f16⟩ := blk_cell (blk_kept hk2 (hsc_same _ _ _ _ (hsc_same _ _ _ _ (hsc_same _ _ _ _ (blk_kept K12.out (hsc_same _ _ _ _ (blk_kept K11.out (hsc_same _ _ _ _ (blk_kept K10.out (hB.out)))))))))) (show o + i * 10 + 6 < _ from by simp only [Array.size_setIfInBounds]; exact hin 6 (by omega))
      generalize ((((((cur).setIfInBounds (o + i * 10) (.string s10)).setIfInBounds (o + i * 10 + 1) (.string s11)).setIfInBounds (o + i * 10 + 2) (.string s12)).setIfInBounds (o + i * 10 + 3) _).setIfInBounds (o + i * 10 + 4) _)[o + i * 10 + 6]! = old6 at c16
      obtain ⟨c17, f17⟩ := blk_cell (blk_kept hk2 (hsc_same _ _ _ _ (hsc_same _ _ _ _ (hsc_same _ _ _ _ (blk_kept K12.out (hsc_same _ _ _ _ (blk_kept K11.out (hsc_same _ _ _ _ (blk_kept K10.out (hB.out)))))))))) (show o + i * 10 + 7 < _ from by simp only [Array.size_setIfInBounds]; exact hin 7 (by omega))
      generalize ((((((cur).setIfInBounds (o + i * 10) (.string s10)).setIfInBounds (o + i * 10 + 1) (.string s11)).setIfInBounds (o + i * 10 + 2) (.string s12)).setIfInBounds (o + i * 10 + 3) _).setIfInBounds (o + i * 10 + 4) _)[o + i * 10 + 7]! = old7 at c17
      clear hs2 hk2
      go_wp2_with (go_at_call_of 38 (Value.bool true); skip)
      refine Calls.mono (hmt (k0 + i * 10 + 8) _ _ ?_ (by omega) ?_) ?_
      · have := hz.out; omega
      · exact Mod.glob (Mod.setCell (Mod.setCell (Mod.setCell (Mod.trans (Mod.setCell (Mod.setCell (Mod.setCell (Mod.trans (Mod.setCell (Mod.trans (Mod.setCell (Mod.trans (hM.out) (Mod.of_kept K10.out)) rfl) (Mod.of_kept K11.out)) rfl) (Mod.of_kept K12.out)) rfl) rfl) rfl) (Mod.of_kept K15.out)) rfl) rfl) rfl) (fun k e => by rw [e]; exact hgn) HG.out
      rintro e w18 ⟨s18, rfl, hs2, hk2⟩
      have H18 : Aside (s18.data.toList = mt (k0 + i * 10 + 8)) := hs2
      have K18 : Aside (Kept _ w18) := hk2
      obtain ⟨c18, f18⟩ := blk_cell (blk_kept hk2 (hsc_same _ _ _ _ (hsc_same _ _ _ _ (hsc_same _ _ _ _ (blk_kept K15.out (hsc_same _ _ _ _ (hsc_same _ _ _ _ (hsc_same _ _ _ _ (blk_kept K12.out (hsc_same _ _ _ _ (blk_kept K11.out (hsc_same _ _ _ _ (blk_kept K10.out (hB.out)))))))))))))) (show o + i * 10 + 8 < _ from by simp only [Array.size_setIfInBounds]; exact hin 8 (by omega))
      obtain ⟨c19, f19⟩ := blk_cell (blk_kept hk2 (hsc_same _ _ _ _ (hsc_same _ _ _ _ (hsc_same _ _ _ _ (blk_kept K15.out (hsc_same _ _ _ _ (hsc_same _ _ _ _ (hsc_same _ _ _ _ (blk_kept K12.out (hsc_same _ _ _ _ (blk_kept K11.out (hsc_same _ _ _ _ (blk_kept K10.out (hB.out)))))))))))))) (show o + i * 10 + 9 < _ from by simp only [Array.size_setIfInBounds]; exact hin 9 (by omega))
      generalize (((((((((cur).setIfInBounds (o + i * 10) (.string s10)).setIfInBounds (o + i * 10 + 1) (.string s11)).setIfInBounds (o + i * 10 + 2) (.string s12)).setIfInBounds (o + i * 10 + 3) _).setIfInBounds (o + i * 10 + 4) _).setIfInBounds (o + i * 10 + 5) (.string s15)).setIfInBounds (o + i * 10 + 6) _).setIfInBounds (o + i * 10 + 7) _)[o + i * 10 + 9]! = old9 at c19
      clear hs2 hk2
      go_wp2
      go_roundg (n - (i + 1))
      case measure => omega
      case rel =>
        refine ⟨i + 1, _, ((((((((((cur).setIfInBounds (o + i * 10) (.string s10)).setIfInBounds (o + i * 10 + 1) (.string s11)).setIfInBounds (o + i * 10 + 2) (.string s12)).setIfInBounds (o + i * 10 + 3) _).setIfInBounds (o + i * 10 + 4) _).setIfInBounds (o + i * 10 + 5) (.string s15)).setIfInBounds (o + i * 10 + 6) _).setIfInBounds (o + i * 10 + 7) _).setIfInBounds (o + i * 10 + 8) (.string s18)).setIfInBounds (o + i * 10 + 9) _, rfl, (by unfold Aside; have := hz.out; omega), by go_num, by omega, Nat.le_refl _, (show Aside _ from Mod.setCell (Mod.setCell (Mod.trans (Mod.setCell (Mod.setCell (Mod.setCell (Mod.trans (Mod.setCell (Mod.setCell (Mod.setCell (Mod.trans (Mod.setCell (Mod.trans (Mod.setCell (Mod.trans (hM.out) (Mod.of_kept K10.out)) rfl) (Mod.of_kept K11.out)) rfl) (Mod.of_kept K12.out)) rfl) rfl) rfl) (Mod.of_kept K15.out)) rfl) rfl) rfl) (Mod.of_kept K18.out)) rfl) rfl), (show Aside _ from hsc_same _ _ _ _ (hsc_same _ _ _ _ (blk_kept K18.out (hsc_same _ _ _ _ (hsc_same _ _ _ _ (hsc_same _ _ _ _ (blk_kept K15.out (hsc_same _ _ _ _ (hsc_same _ _ _ _ (hsc_same _ _ _ _ (blk_kept K12.out (hsc_same _ _ _ _ (blk_kept K11.out (hsc_same _ _ _ _ (blk_kept K10.out (hB.out)))))))))))))))), by simp only [Array.size_setIfInBounds]; exact hcs, (show Aside _ from trivial)⟩
    · have : i = n := by omega
      subst this
      go_wp2
      go_ret
      refine ⟨?_, hM.out, cur, hB.out, hcs, A.out⟩
      have := hz.out
      rw [this]
      go_num
set_option maxHeartbeats 2000000 in
set_option maxRecDepth 100000 in
theorem Try.markEntry0 (a : Option Addr) (cap : Nat) (z : Int) (w : World) : Calls Try.prog 58 #[.slice a 0 cap, .int .i64 z] w fun e w' => e = .returned (.int .i64 z) ∧ w' = w := by
  go_enter Try.func58, Try.ntmps58
  go_wp2
  go_loopg [1, 5] 0 (fun g s1 s5 wr => s1 = .int .i64 z ∧ s5 = .int .i64 0 ∧ wr = w)
  case atStart => exact ⟨rfl, rfl, rfl⟩
  case round =>
    obtain ⟨rfl, rfl, rfl⟩ := hrel
    go_wp2
    go_ret
    exact ⟨rfl, rfl⟩

end Go.Proofs
namespace Go.Am
open Go
/-- Blocks of X keep their kind and their size. -/
def Keeps (X : Nat → Prop) (W W' : World) : Prop := ∀ k cur ty, X k → W.heap[k]? = some (.cells cur ty (0, 0)) → ∃ cur', W'.heap[k]? = some (.cells cur' ty (0, 0)) ∧ cur'.size = cur.size
theorem Keeps.refl {X : Nat → Prop} (W : World) : Keeps X W W := fun _ cur _ _ h => ⟨cur, h, rfl⟩
theorem Keeps.trans {X : Nat → Prop} {W W1 W2 : World} (h : Keeps X W W1) (h' : Keeps X W1 W2) : Keeps X W W2 := fun k cur ty hx hk => by
  obtain ⟨c1, h1, e1⟩ := h k cur ty hx hk
  obtain ⟨c2, h2, e2⟩ := h' k c1 ty hx h1
  exact ⟨c2, h2, e2.trans e1⟩
theorem Keeps.of_kept {X : Nat → Prop} {W W' : World} (h : Kept W W') : Keeps X W W' := fun _ cur _ _ hk => ⟨cur, blk_kept h hk, rfl⟩
theorem Keeps.setCell {X : Nat → Prop} {W : World} {g j : Nat} {v : Value} (hg : ¬ X g) : Keeps X W (W.setCell ⟨g, j, none⟩ v) := fun k cur ty hx hk => ⟨cur, by rw [hsc_other W g j k v (fun e => hg (e ▸ hx))]; exact hk, rfl⟩
theorem Keeps.of_mod {X : Nat → Prop} {W W' : World} {g : Nat} {cur cur' : Array Value} {ty : TypeId} (h : Mod (fun k => k = g) W W') (hg : W.heap[g]? = some (.cells cur ty (0, 0))) (hg' : W'.heap[g]? = some (.cells cur' ty (0, 0))) (hs : cur'.size = cur.size) : Keeps X W W' := fun k c t _ hk => by
  by_cases e : k = g
  · subst e
    rw [hg] at hk
    injection hk with hk
    injection hk with h1 h2
    subst h1; subst h2
    exact ⟨cur', hg', hs⟩
  · have hlt : k < W.heap.size := by
      rcases Nat.lt_or_ge k W.heap.size with h | h
      · exact h
      · rw [Array.getElem?_eq_none h] at hk; cases hk
    exact ⟨c, by rw [h.old k hlt e]; exact hk, rfl⟩
/-- A slice of flat rows of s cells in a block of X, or none. -/
def InX (s : Nat) (X : Nat → Prop) (W : World) (v : Value) : Prop := (∃ a cap, v = .slice a 0 cap) ∨ ∃ k oo m cap cur ty, v = .slice (some ⟨k, oo, none⟩) m cap ∧ X k ∧ W.heap[k]? = some (.cells cur ty (0, 0)) ∧ oo + m * s ≤ cur.size ∧ m ≤ 1048576
theorem InX.step {s : Nat} {X : Nat → Prop} {W W' : World} {v : Value} (h : InX s X W v) (hk : Keeps X W W') : InX s X W' v := by
  rcases h with h | ⟨k, oo, m, cap, cur, ty, h1, h2, h3, h4, h5⟩
  · exact .inl h
  · obtain ⟨cur', h6, h7⟩ := hk k cur ty h2 h3
    exact .inr ⟨k, oo, m, cap, cur', ty, h1, h2, h6, by rw [h7]; exact h4, h5⟩
end Go.Am
namespace Go.Proofs
open Go Go.Am Go.RowKit Go.Sort
set_option maxHeartbeats 4000000 in
set_option maxRecDepth 100000 in
theorem Try.markServer (mt : Nat → List UInt8) (hmt : ∀ (k : Nat) (z : Int) (w : World), z = (k : Int) → k < 4611686018427387904 → globOk w → Calls Try.prog 38 #[.int .i64 z] w fun e w' => ∃ s, e = .returned (.string s) ∧ s.data.toList = mt k ∧ Kept w w')
    (X : Nat → Prop) (hX : ∀ k, X k → globN ≤ k) (bk o cap n k0 : Nat) (cur0 : Array Value) (ty : TypeId) (w : World) (hg : globOk w) (hgn : globN ≤ bk) (hb : w.heap[bk]? = some (.cells cur0 ty (0, 0))) (hs : o + n * 2 ≤ cur0.size) (hn : n ≤ 1048576) (hk : k0 ≤ 1125899906842624) (hbx : ¬ X bk)
    (hF : ∀ i, i < n → ∃ v, cur0[o + i * 2 + 1]? = some v ∧ InX 7 X w v) :
    Calls Try.prog 35 #[.slice (some ⟨bk, o, none⟩) n cap, .int .i64 (k0 : Int)] w fun e w' => ∃ z : Int, e = .returned (.int .i64 z) ∧ (k0 : Int) ≤ z ∧ z ≤ (k0 : Int) + (n : Int) * 7340033 ∧ Mod (fun k => k = bk ∨ X k) w w' ∧ Keeps X w w' ∧ ∃ cur, w'.heap[bk]? = some (.cells cur ty (0, 0)) ∧ cur.size = cur0.size := by
  have HB : Aside (w.heap[bk]? = some (.cells cur0 ty (0, 0))) := hb
  have HG : Aside (globOk w) := hg
  have HF : Aside (∀ i, i < n → ∃ v, cur0[o + i * 2 + 1]? = some v ∧ InX 7 X w v) := hF
  have HX : Aside (∀ k, k = bk ∨ X k → globN ≤ k) := fun k h => h.elim (fun e => by rw [e]; exact hgn) (hX k)
  clear hb hg hF
  go_enter Try.func35, Try.ntmps35
  go_wp2
  go_loopg [1, 5] n (fun g s1 s5 wr => ∃ (i : Nat) (z : Int) (cur : Array Value), s1 = .int .i64 z ∧ Aside ((k0 : Int) ≤ z ∧ z ≤ (k0 : Int) + (i : Int) * 7340033) ∧ s5 = .int .i64 (i : Int) ∧ i ≤ n ∧ n - i ≤ g ∧ Aside (Mod (fun k => k = bk ∨ X k) w wr) ∧ Aside (Keeps X w wr) ∧ Aside (wr.heap[bk]? = some (.cells cur ty (0, 0))) ∧ cur.size = cur0.size ∧ Aside (∀ j, j < n → cur[o + j * 2 + 1]? = cur0[o + j * 2 + 1]?))
  case atStart => exact ⟨0, (k0 : Int), cur0, rfl, ⟨Int.le_refl _, by simp⟩, rfl, Nat.zero_le _, by omega, Mod.refl w, Keeps.refl w, HB.out, rfl, fun _ _ => rfl⟩
  case round =>
    obtain ⟨i, z, cur, rfl, hz, rfl, hi, hgm, hM, hP, hB, hcs, A⟩ := hrel
    have hz0 : 0 ≤ z := by have := hz.out; omega
    have hz1 : z ≤ 4503599627370496 := by have := hz.out; omega
    by_cases hlt : i < n
    · have hin : ∀ t, t < 2 → o + i * 2 + t < cur.size := fun t ht => by
        have := Nat.mul_le_mul_right 2 (show i + 1 ≤ n from hlt)
        omega
      obtain ⟨v, hv, hvx⟩ := HF.out i hlt
      have hv' : cur[o + i * 2 + 1]? = some v := (A.out i hlt).trans hv
      have hvx := hvx.step hP.out
      have next : ∀ (w10 : World) (s : ByteArray) (z' : Int) (wn : World), Kept wr w10 → z + 1 ≤ z' → z' ≤ z + 7340033 → (∃ curn, wn.heap[bk]? = some (.cells curn ty (0, 0)) ∧ curn = cur.setIfInBounds (o + i * 2) (.string s)) → Mod (fun k => k = bk ∨ X k) (w10.setCell ⟨bk, o + i * 2, none⟩ (.string s)) wn → Keeps X (w10.setCell ⟨bk, o + i * 2, none⟩ (.string s)) wn →
          ∃ (i' : Nat) (z'' : Int) (cur' : Array Value), Value.int .i64 z' = .int .i64 z'' ∧ Aside ((k0 : Int) ≤ z'' ∧ z'' ≤ (k0 : Int) + (i' : Int) * 7340033) ∧ Value.int .i64 ((i : Int) + 1) = .int .i64 (i' : Int) ∧ i' ≤ n ∧ n - i' ≤ n - (i + 1) ∧ Aside (Mod (fun k => k = bk ∨ X k) w wn) ∧ Aside (Keeps X w wn) ∧ Aside (wn.heap[bk]? = some (.cells cur' ty (0, 0))) ∧ cur'.size = cur0.size ∧ Aside (∀ j, j < n → cur'[o + j * 2 + 1]? = cur0[o + j * 2 + 1]?) := by
        rintro w10 s z' wn k10 l1 l2 ⟨curn, hbn, rfl⟩ hm hp
        refine ⟨i + 1, z', _, rfl, ?_, by congr 1, by omega, Nat.le_refl _, ?_, ?_, hbn, by rw [Array.size_setIfInBounds]; exact hcs, fun j hj => ?_⟩
        · have := hz.out
          exact ⟨by omega, by omega⟩
        · exact (Mod.setCell (hM.out.trans (Mod.of_kept k10)) (.inl rfl)).trans hm
        · exact ((hP.out.trans (Keeps.of_kept k10)).trans (Keeps.setCell hbx)).trans hp
        · rw [Array.getElem?_setIfInBounds_ne (by omega)]
          exact A.out j hj
      have NX : Aside (∀ (w10 : World) (s : ByteArray) (z' : Int) (wn : World), _) := next
      clear next
      rcases hvx with ⟨a, cp, rfl⟩ | ⟨k, oo, m, cp, kc, kt, rfl, hkX, hkb, hks, hm⟩
      · go_wp2_with (go_at_call_of 38 (Value.bool true); skip)
        refine Calls.mono (hmt z.toNat _ _ ?_ (by omega) ?_) ?_
        · omega
        · exact Mod.glob hM.out HX.out HG.out
        rintro e w10 ⟨s10, rfl, hs2, hk2⟩
        have K10 : Aside (Kept _ w10) := hk2
        obtain ⟨c10, f10⟩ := blk_cell (blk_kept hk2 hB.out) (show o + i * 2 < _ from hin 0 (by omega))
        have c11 : w10.cell? ⟨bk, o + i * 2 + 1, none⟩ = some (.slice a 0 cp) := by rw [blk_at (blk_kept hk2 hB.out)]; exact hv'
        clear hs2 hk2
        generalize cur[o + i * 2]! = old at c10
        go_wp2_with (go_at_call_of 38 (Value.bool true); skip)
        refine Calls.mono (Try.markFile0 _ _ _ _) ?_
        rintro e w11 ⟨rfl, rfl⟩
        go_wp2
        go_roundg (n - (i + 1))
        case measure => omega
        case rel => exact NX.out w10 s10 _ _ K10.out (Int.le_refl _) (by omega) ⟨_, hsc_same _ _ _ _ (blk_kept K10.out hB.out), rfl⟩ (Mod.refl _) (Keeps.refl _)
      · have HK : Aside (wr.heap[k]? = some (.cells kc kt (0, 0))) := hkb
        clear hkb
        have hkbk : k ≠ bk := fun e => hbx (e ▸ hkX)
        go_wp2_with (go_at_call_of 38 (Value.bool true); skip)
        refine Calls.mono (hmt z.toNat _ _ ?_ (by omega) ?_) ?_
        · omega
        · exact Mod.glob hM.out HX.out HG.out
        rintro e w10 ⟨s10, rfl, hs2, hk2⟩
        have K10 : Aside (Kept _ w10) := hk2
        obtain ⟨c10, f10⟩ := blk_cell (blk_kept hk2 hB.out) (show o + i * 2 < _ from hin 0 (by omega))
        have c11 : w10.cell? ⟨bk, o + i * 2 + 1, none⟩ = some (.slice (some ⟨k, oo, none⟩) m cp) := by rw [blk_at (blk_kept hk2 hB.out)]; exact hv'
        clear hs2 hk2
        generalize cur[o + i * 2]! = old at c10
        go_wp2_with (go_at_call_of 38 (Value.bool true); skip)
        have hkb2 : (w10.setCell ⟨bk, o + i * 2, none⟩ (.string s10)).heap[k]? = some (.cells kc kt (0, 0)) := by rw [hsc_other _ _ _ _ _ hkbk]; exact blk_kept K10.out HK.out
        have hmf := Try.markFile mt hmt k oo cp m (z + 1).toNat kc kt (w10.setCell ⟨bk, o + i * 2, none⟩ (.string s10)) (Mod.glob (Mod.setCell (hM.out.trans (Mod.of_kept K10.out)) (.inl rfl)) HX.out HG.out) (hX k hkX) hkb2 hks hm (by omega)
        rw [show (((z + 1).toNat : Nat) : Int) = z + 1 by omega] at hmf
        refine Calls.mono hmf ?_
        clear hmf hkb2
        rintro e w11 ⟨rfl, hm11, kc', hkb', hks', -⟩
        have H11 : Aside (Mod (fun k' => k' = k) (w10.setCell ⟨bk, o + i * 2, none⟩ (.string s10)) w11 ∧ w11.heap[k]? = some (.cells kc' kt (0, 0)) ∧ kc'.size = kc.size) := ⟨hm11, hkb', hks'⟩
        clear hm11 hkb' hks'
        go_wp2
        go_roundg (n - (i + 1))
        case measure => omega
        case rel =>
          obtain ⟨hm11, hkb', hks'⟩ := H11.out
          have hb10 := hsc_same w10 bk (o + i * 2) (.string s10) (blk_kept K10.out hB.out)
          have hltb : bk < (w10.setCell ⟨bk, o + i * 2, none⟩ (.string s10)).heap.size := by
            rcases Nat.lt_or_ge bk (w10.setCell ⟨bk, o + i * 2, none⟩ (.string s10)).heap.size with h | h
            · exact h
            · rw [Array.getElem?_eq_none h] at hb10; cases hb10
          have hk10 : (w10.setCell ⟨bk, o + i * 2, none⟩ (.string s10)).heap[k]? = some (.cells kc kt (0, 0)) := by rw [hsc_other _ _ _ _ _ hkbk]; exact blk_kept K10.out HK.out
          exact NX.out w10 s10 _ w11 K10.out (by omega) (by omega) ⟨_, (hm11.old bk hltb (fun e => hkbk e.symm)).trans hb10, rfl⟩ (hm11.mono (fun k' e => .inr (e ▸ hkX))) (Keeps.of_mod hm11 hk10 hkb' hks')
    · have : i = n := by omega
      subst this
      go_wp2
      go_ret
      exact ⟨z, rfl, hz.out.1, hz.out.2, hM.out, hP.out, cur, hB.out, hcs⟩

set_option maxHeartbeats 2000000 in
set_option maxRecDepth 100000 in
theorem Try.markServer0 (a : Option Addr) (cap : Nat) (z : Int) (w : World) : Calls Try.prog 35 #[.slice a 0 cap, .int .i64 z] w fun e w' => e = .returned (.int .i64 z) ∧ w' = w := by
  go_enter Try.func35, Try.ntmps35
  go_wp2
  go_loopg [1, 5] 0 (fun g s1 s5 wr => s1 = .int .i64 z ∧ s5 = .int .i64 0 ∧ wr = w)
  case atStart => exact ⟨rfl, rfl, rfl⟩
  case round =>
    obtain ⟨rfl, rfl, rfl⟩ := hrel
    go_wp2
    go_ret
    exact ⟨rfl, rfl⟩

set_option maxHeartbeats 4000000 in
set_option maxRecDepth 100000 in
theorem Try.markCache (X : Nat → Prop) (ev : Value) (k0 : Nat) (w : World) (C : Int) (hX : ∀ k, X k → k < w.heap.size)
    (hE : ∀ W, Kept w W → Calls Try.prog 58 #[ev, .int .i64 (k0 : Int)] W fun e w' => ∃ z : Int, e = .returned (.int .i64 z) ∧ (k0 : Int) ≤ z ∧ z ≤ (k0 : Int) + C ∧ Mod X W w' ∧ Keeps X W w') :
    Calls Try.prog 36 #[.agg #[ev], .int .i64 (k0 : Int)] w fun e w' => ∃ z : Int, e = .returned (.int .i64 z) ∧ (k0 : Int) ≤ z ∧ z ≤ (k0 : Int) + C ∧ Mod X w w' ∧ Keeps X w w' := by
  have HE : Aside (∀ W, Kept w W → Calls Try.prog 58 #[ev, .int .i64 (k0 : Int)] W fun e w' => ∃ z : Int, e = .returned (.int .i64 z) ∧ (k0 : Int) ≤ z ∧ z ≤ (k0 : Int) + C ∧ Mod X W w' ∧ Keeps X W w') := hE
  clear hE
  go_enter Try.func36, Try.ntmps36
  go_wp2_with (go_at_call_of 38 (Value.bool true); skip)
  refine Calls.mono (HE.out _ (Kept.alloc _ _)) ?_
  rintro e w1 ⟨z, rfl, h1, h2, h3, h4⟩
  have H : Aside ((k0 : Int) ≤ z ∧ z ≤ (k0 : Int) + C ∧ Mod X w w1 ∧ Keeps X w w1) := ⟨h1, h2, (Mod.of_kept (Kept.alloc _ _)).trans h3, (Keeps.of_kept (Kept.alloc _ _)).trans h4⟩
  clear h1 h2 h3 h4
  go_wp2
  go_ret
  exact ⟨z, rfl, H.out.1, H.out.2.1, H.out.2.2.1, H.out.2.2.2⟩
set_option maxHeartbeats 4000000 in
set_option maxRecDepth 100000 in
theorem Try.markNet (X : Nat → Prop) (sv ev lv : Value) (now : Int) (w : World) (hX : ∀ k, X k → k < w.heap.size)
    (hS : ∀ W, Kept w W → Calls Try.prog 35 #[sv, .int .i64 1] W fun e w' => ∃ z' : Int, e = .returned (.int .i64 z') ∧ 1 ≤ z' ∧ z' ≤ 1 + 140737488355328 ∧ Mod X W w' ∧ Keeps X W w')
    (hC : ∀ (W : World) (z : Int), 1 ≤ z → z ≤ 1125899906842624 → Mod X w W → Keeps X w W → Calls Try.prog 36 #[.agg #[ev], .int .i64 z] W fun e w' => ∃ z' : Int, e = .returned (.int .i64 z') ∧ z ≤ z' ∧ z' ≤ z + 140737488355328 ∧ Mod X W w' ∧ Keeps X W w')
    (hL : ∀ (W : World) (z : Int), 1 ≤ z → z ≤ 1125899906842624 → Mod X w W → Keeps X w W → Calls Try.prog 37 #[lv, .int .i64 z] W fun e w' => ∃ z' : Int, e = .returned (.int .i64 z') ∧ z ≤ z' ∧ z' ≤ z + 140737488355328 ∧ Mod X W w' ∧ Keeps X W w') :
    Calls Try.prog 12 #[.agg #[sv, ev, lv, .int .i64 now], .int .i64 1] w fun e w' => ∃ z : Int, e = .returned (.int .i64 z) ∧ 1 ≤ z ∧ z ≤ 1125899906842624 ∧ Mod X w w' ∧ Keeps X w w' := by
  have HS := (show Aside _ from hS)
  have HC := (show Aside _ from hC)
  have HL := (show Aside _ from hL)
  have HX := (show Aside _ from hX)
  clear hS hC hL hX
  go_enter Try.func12, Try.ntmps12
  go_wp2_with (go_at_call_of 38 (Value.bool true); skip)
  refine Calls.mono (HS.out _ (Kept.alloc _ _)) ?_
  rintro e w1 ⟨z1, rfl, a1, b1, m1, p1⟩
  have box1 : ∀ j, w1.cell? ⟨w.heap.size, j, none⟩ = (#[sv, ev, lv, Value.int .i64 now] : Array Value)[j]? := fun j => by
    exact blk_at ((m1.old w.heap.size (by rw [World.size_alloc]; omega) (fun h => absurd (HX.out _ h) (Nat.lt_irrefl _))).trans (heap_alloc_eq w _))
  have M1 : Aside (Mod X w w1 ∧ Keeps X w w1 ∧ w.heap.size < w1.heap.size) := ⟨(Mod.of_kept (Kept.alloc _ _)).trans m1, (Keeps.of_kept (Kept.alloc _ _)).trans p1, Nat.lt_of_lt_of_le (by rw [World.size_alloc]; omega) m1.size⟩
  clear m1 p1
  have c1 : w1.cell? ⟨w.heap.size, 1, none⟩ = some ev := box1 1
  go_wp2_with (go_at_call_of 38 (Value.bool true); skip)
  refine Calls.mono (HC.out _ z1 a1 (by omega) M1.out.1 M1.out.2.1) ?_
  rintro e w2 ⟨z2, rfl, a2, b2, m2, p2⟩
  have box2 : ∀ j, w2.cell? ⟨w.heap.size, j, none⟩ = (#[sv, ev, lv, Value.int .i64 now] : Array Value)[j]? := fun j => by
    rw [← box1 j]
    simp only [World.cell?, m2.old w.heap.size M1.out.2.2 (fun h => absurd (HX.out _ h) (Nat.lt_irrefl _))]
  have M2 : Aside (Mod X w w2 ∧ Keeps X w w2) := ⟨M1.out.1.trans m2, M1.out.2.1.trans p2⟩
  clear m2 p2 box1 c1
  have c2 : w2.cell? ⟨w.heap.size, 2, none⟩ = some lv := box2 2
  go_wp2_with (go_at_call_of 38 (Value.bool true); skip)
  refine Calls.mono (HL.out _ z2 (by omega) (by omega) M2.out.1 M2.out.2) ?_
  rintro e w3 ⟨z3, rfl, a3, b3, m3, p3⟩
  have M3 : Aside (Mod X w w3 ∧ Keeps X w w3) := ⟨M2.out.1.trans m3, M2.out.2.trans p3⟩
  clear m3 p3 box2 c2
  go_wp2
  go_ret
  exact ⟨z3, rfl, by omega, by omega, M3.out.1, M3.out.2⟩

end Go.Proofs
namespace Go.Am
open Go
theorem rd_inX {w : World} {S : Nat → Prop} {s : Nat} {f : Bool} {rs : List V} {v : Value} {X : Nat → Prop} (h : Rd w S (.sl s f rs) v) (hs : 0 < s) (hX : ∀ k, S k → X k ∧ ∃ cur e, w.heap[k]? = some (.cells cur e (0, 0))) (hl : rs.length ≤ 1048576) : InX s X w v := by
  cases h with
  | empty s f a cap => exact .inl ⟨a, cap, rfl⟩
  | sl s f xs k o cap g hpos hcap hS hsz hf hg hr =>
    obtain ⟨h1, cur, e, h2⟩ := hX k hS
    refine .inr ⟨k, o, _, cap, cur, e, rfl, h1, h2, ?_, hl⟩
    have := (hg (rs.length - 1) (s - 1) (by omega) (by omega)).1
    rw [blk_at h2] at this
    have := (Array.getElem?_eq_some_iff.1 this).1
    have hm : (rs.length - 1) * s + s = rs.length * s := by
      have : rs.length = (rs.length - 1) + 1 := by omega
      conv => rhs; rw [this, Nat.add_mul, Nat.one_mul]
    omega
theorem vr_own_inX {Γ : Ctx} {w : World} {b s : Nat} {q : Q} {xs : List V} {v : Value} {X : Nat → Prop} (h : VR Γ w (.own b s q xs) v) (hX : ∀ b, Γ.has b → X (Γ.blk b) ∧ ∃ cur e, w.heap[Γ.blk b]? = some (.cells cur e (0, 0)) ∧ Γ.off b + Γ.cap b * Γ.sz b ≤ cur.size) (hl : xs.length ≤ 1048576) : InX s X w v := by
  cases h with
  | rd _ _ h => cases h
  | ownNil b s q hb => exact .inl ⟨none, 0, rfl⟩
  | own b s q xs hb hs hlen hr hq =>
    obtain ⟨h1, cur, e, h2, h3⟩ := hX b hb
    refine .inr ⟨Γ.blk b, Γ.off b, _, Γ.cap b, cur, e, rfl, h1, h2, ?_, hl⟩
    subst hs
    have := Nat.mul_le_mul_right (Γ.sz b) hlen.1
    omega
/-- A slice of rows that lead to flat rows, in new memory. -/
def Deep (X : Nat → Prop) (W : World) (v : Value) : Prop := (∃ a cap, v = .slice a 0 cap) ∨ ∃ bk o n cap cur ty, v = .slice (some ⟨bk, o, none⟩) n cap ∧ X bk ∧ W.heap[bk]? = some (.cells cur ty (0, 0)) ∧ o + n * 2 ≤ cur.size ∧ n ≤ 1048576 ∧ ∀ i, i < n → ∃ u, cur[o + i * 2 + 1]? = some u ∧ InX 7 (fun k => X k ∧ k ≠ bk) W u
theorem vr_own_deep {Γ : Ctx} {w : World} {b : Nat} {q : Q} {xs : List V} {v : Value} {X : Nat → Prop} (h : VR Γ w (.own b 2 q xs) v) (hq : q ≠ .any) (hX : ∀ b, Γ.has b → X (Γ.blk b) ∧ ¬ Γ.S (Γ.blk b) ∧ ∃ cur e, w.heap[Γ.blk b]? = some (.cells cur e (0, 0)) ∧ Γ.off b + Γ.cap b * Γ.sz b ≤ cur.size)
    (hZ : ∀ k, Γ.Z k → X k ∧ ∃ cur e, w.heap[k]? = some (.cells cur e (0, 0))) (hl : xs.length ≤ 1048576) (hrow : ∀ x ∈ xs, ∃ a f rs, x.cells = [a, .sl 7 f rs] ∧ rs.length ≤ 1048576) : Deep X w v := by
  cases h with
  | rd _ _ h => cases h
  | ownNil b s q hb => exact .inl ⟨none, 0, rfl⟩
  | own b s q xs hb hs hlen hr hq2 =>
    obtain ⟨h1, h1s, cur, e, h2, h3⟩ := hX b hb
    refine .inr ⟨Γ.blk b, Γ.off b, _, Γ.cap b, cur, e, rfl, h1, h2, ?_, hl, fun i hi => ?_⟩
    · have := Nat.mul_le_mul_right 2 hlen.1
      rw [← hs] at h3
      omega
    · obtain ⟨_, g, hg, hrd⟩ := hr
      obtain ⟨x, hx⟩ : ∃ x, xs[i]? = some x := ⟨_, List.getElem?_eq_getElem hi⟩
      obtain ⟨a, f, rs, hc, hrl⟩ := hrow x (List.mem_of_getElem? hx)
      have h4 := (hg i 1 hi (by decide)).1
      rw [blk_at h2] at h4
      refine ⟨g i 1, h4, rd_inX (hrd i x 1 (.sl 7 f rs) hx (by rw [hc]; rfl)) (by decide) (fun k hk => ?_) hrl⟩
      have hk2 : Γ.S k ∧ Γ.Z k := by
        cases q with
        | any => exact absurd rfl hq
        | flat => exact hk
        | clean => exact hk
      exact ⟨⟨(hZ k hk2.2).1, fun e => h1s (e ▸ hk2.1)⟩, (hZ k hk2.2).2⟩
end Go.Am
namespace Go.Am
open Go
theorem Deep.kept {X : Nat → Prop} {W W' : World} {v : Value} (h : Deep X W v) (hk : Kept W W') : Deep X W' v := by
  rcases h with h | ⟨bk, o, n, cap, cur, ty, h1, h2, h3, h4, h5, h6⟩
  · exact .inl h
  · refine .inr ⟨bk, o, n, cap, cur, ty, h1, h2, blk_kept hk h3, h4, h5, fun i hi => ?_⟩
    obtain ⟨u, hu, hx⟩ := h6 i hi
    exact ⟨u, hu, hx.step (Keeps.of_kept hk)⟩
theorem InX.mono {s : Nat} {X Y : Nat → Prop} {W : World} {v : Value} (h : InX s X W v) (hxy : ∀ k, X k → Y k) : InX s Y W v := by
  rcases h with h | ⟨k, oo, m, cap, cur, ty, h1, h2, h3⟩
  · exact .inl h
  · exact .inr ⟨k, oo, m, cap, cur, ty, h1, hxy k h2, h3⟩
theorem rd_no_own {w : World} {S : Nat → Prop} {b s : Nat} {q : Q} {xs : List V} {x : Value} (h : Rd w S (.own b s q xs) x) : False := by cases h
/-- What laws.toNet hands over: all of it new. -/
theorem net_new {R : Nat → Prop} {w w1 : World} {x : Value} {b0 b1 b2 : Nat} {q0 q1 q2 : Q} {xs ys zs : List V} {n : Int} (h : Answer R w (.agg [.own b0 2 q0 xs, .own b1 10 q1 ys, .own b2 4 q2 zs, .int .i64 n]) x w1) (hq : q0 ≠ .any)
    (l0 : xs.length ≤ 1048576) (l1 : ys.length ≤ 1048576) (l2 : zs.length ≤ 1048576) (hrow : ∀ x ∈ xs, ∃ a f rs, x.cells = [a, .sl 7 f rs] ∧ rs.length ≤ 1048576) :
    ∃ sv ev lv, x = .agg #[sv, ev, lv, .int .i64 n] ∧ Deep (fun k => w.heap.size ≤ k ∧ k < w1.heap.size) w1 sv ∧ InX 10 (fun k => w.heap.size ≤ k ∧ k < w1.heap.size) w1 ev ∧ InX 4 (fun k => w.heap.size ≤ k ∧ k < w1.heap.size) w1 lv := by
  obtain ⟨Γ, hv, hF, hS, hb, hinj, hbz, hzf⟩ := h.val
  have hX : ∀ b, Γ.has b → (w.heap.size ≤ Γ.blk b ∧ Γ.blk b < w1.heap.size) ∧ ¬ Γ.S (Γ.blk b) ∧ ∃ cur e, w1.heap[Γ.blk b]? = some (.cells cur e (0, 0)) ∧ Γ.off b + Γ.cap b * Γ.sz b ≤ cur.size := fun b hb' => by
    obtain ⟨h1, h2, h3, _, h4⟩ := hb b hb'
    exact ⟨⟨h1, h2⟩, h3, h4⟩
  have hX2 : ∀ b, Γ.has b → (w.heap.size ≤ Γ.blk b ∧ Γ.blk b < w1.heap.size) ∧ ∃ cur e, w1.heap[Γ.blk b]? = some (.cells cur e (0, 0)) ∧ Γ.off b + Γ.cap b * Γ.sz b ≤ cur.size := fun b hb' => ⟨(hX b hb').1, (hX b hb').2.2⟩
  have hZ : ∀ k, Γ.Z k → (w.heap.size ≤ k ∧ k < w1.heap.size) ∧ ∃ cur e, w1.heap[k]? = some (.cells cur e (0, 0)) := fun k hk => by
    obtain ⟨h1, h2, h3⟩ := hzf k hk
    exact ⟨⟨h1, h2⟩, h3⟩
  cases hv with
  | rd _ _ h =>
    cases h with
    | agg cs vs hl hr =>
      have h0 : 0 < vs.size := by simp at hl; omega
      exact (rd_no_own (hr 0 _ _ rfl (Array.getElem?_eq_getElem h0))).elim
  | agg cs vs hl hr =>
    have e4 : vs.size = 4 := by simpa using hl.symm
    have g0 := hr 0 _ _ rfl (Array.getElem?_eq_getElem (show 0 < vs.size by omega))
    have g1 := hr 1 _ _ rfl (Array.getElem?_eq_getElem (show 1 < vs.size by omega))
    have g2 := hr 2 _ _ rfl (Array.getElem?_eq_getElem (show 2 < vs.size by omega))
    have g3 := hr 3 _ _ rfl (Array.getElem?_eq_getElem (show 3 < vs.size by omega))
    have e3 : vs[3] = .int .i64 n := by
      generalize vs[3] = y at g3
      cases g3 with
      | rd _ _ h => cases h; rfl
    refine ⟨vs[0], vs[1], vs[2], ?_, vr_own_deep g0 hq hX hZ l0 hrow, vr_own_inX g1 hX2 l1, vr_own_inX g2 hX2 l2⟩
    congr 1
    apply Array.ext
    · simpa using e4
    · intro i h1 h2
      simp at h2
      match i, h2 with
      | 0, _ => rfl
      | 1, _ => rfl
      | 2, _ => rfl
      | 3, _ => simpa using e3
      | i + 4, h => omega
end Go.Am
namespace Go.Proofs
open Go Go.Am Go.RowKit Go.Sort
/-- Marking such a net changes nothing but what is new in it. -/
theorem Try.markNet_new (mt : Nat → List UInt8) (hmt : ∀ (k : Nat) (z : Int) (w : World), z = (k : Int) → k < 4611686018427387904 → globOk w → Calls Try.prog 38 #[.int .i64 z] w fun e w' => ∃ s, e = .returned (.string s) ∧ s.data.toList = mt k ∧ Kept w w')
    (X : Nat → Prop) (hXg : ∀ k, X k → globN ≤ k) (sv ev lv : Value) (now : Int) (w : World) (hX : ∀ k, X k → k < w.heap.size) (hg : globOk w) (hs : Deep X w sv) (he : InX 10 X w ev) (hl : InX 4 X w lv) :
    Calls Try.prog 12 #[.agg #[sv, ev, lv, .int .i64 now], .int .i64 1] w fun e w' => ∃ z : Int, e = .returned (.int .i64 z) ∧ 1 ≤ z ∧ z ≤ 1125899906842624 ∧ Mod X w w' ∧ Keeps X w w' := by
  refine Try.markNet X sv ev lv now w hX (fun W hk => ?_) (fun W z h1 h2 hm hp => ?_) (fun W z h1 h2 hm hp => ?_)
  · have hgW := hk.glob hg
    rcases hs.kept hk with ⟨a, cap, rfl⟩ | ⟨bk, o, n, cap, cur, ty, rfl, k1, k2, k3, k4, k5⟩
    · refine (Try.markServer0 a cap 1 W).mono ?_
      rintro e w' ⟨rfl, rfl⟩
      exact ⟨1, rfl, by decide, by decide, Mod.refl _, Keeps.refl _⟩
    · refine (Try.markServer mt hmt (fun k => X k ∧ k ≠ bk) (fun k h => hXg k h.1) bk o cap n 1 cur ty W hgW (hXg bk k1) k2 k3 k4 (by omega) (fun h => h.2 rfl) k5).mono ?_
      rintro e w' ⟨z, rfl, z1, z2, hm, hp, cur', hc1, hc2⟩
      refine ⟨z, rfl, by omega, by omega, hm.mono (fun k h => h.elim (fun e => by rw [e]; exact k1) (fun h => h.1)), fun k c t hxk hck => ?_⟩
      by_cases e : k = bk
      · subst e
        rw [k2] at hck
        injection hck with hck
        injection hck with e1 e2
        subst e1; subst e2
        exact ⟨cur', hc1, hc2⟩
      · exact hp k c t ⟨hxk, e⟩ hck
  · rcases he.step hp with ⟨a, cap, rfl⟩ | ⟨bk, o, n, cap, cur, ty, rfl, k1, k2, k3, k4⟩
    · have := Try.markCache X (.slice a 0 cap) z.toNat W 140737488355328 (fun k h => Nat.lt_of_lt_of_le (hX k h) hm.size) (fun W' hk => by
        refine (Try.markEntry0 a cap _ W').mono ?_
        rintro e w' ⟨rfl, rfl⟩
        exact ⟨_, rfl, Int.le_refl _, by omega, Mod.refl _, Keeps.refl _⟩)
      rwa [show ((z.toNat : Nat) : Int) = z by omega] at this
    · have := Try.markCache X (.slice (some ⟨bk, o, none⟩) n cap) z.toNat W 140737488355328 (fun k h => Nat.lt_of_lt_of_le (hX k h) hm.size) (fun W' hk => by
        refine (Try.markEntry mt hmt bk o cap n z.toNat cur ty W' (hk.glob (hm.glob hXg hg)) (hXg bk k1) (blk_kept hk k2) k3 k4 (by omega)).mono ?_
        rintro e w' ⟨rfl, hm', cur', hc', hs', _⟩
        exact ⟨_, rfl, by omega, by omega, hm'.mono (fun k e => by rw [e]; exact k1), Keeps.of_mod hm' (blk_kept hk k2) hc' hs'⟩)
      rwa [show ((z.toNat : Nat) : Int) = z by omega] at this
  · rcases hl.step hp with ⟨a, cap, rfl⟩ | ⟨bk, o, n, cap, cur, ty, rfl, k1, k2, k3, k4⟩
    · refine (Try.markSent0 a cap z W).mono ?_
      rintro e w' ⟨rfl, rfl⟩
      exact ⟨_, rfl, Int.le_refl _, by omega, Mod.refl _, Keeps.refl _⟩
    · have := Try.markSent mt hmt bk o cap n z.toNat cur ty W (hm.glob hXg hg) (hXg bk k1) k2 k3 k4 (by omega)
      rw [show ((z.toNat : Nat) : Int) = z by omega] at this
      refine this.mono ?_
      rintro e w' ⟨rfl, hm', cur', hc', hs', _⟩
      exact ⟨_, rfl, by omega, by omega, hm'.mono (fun k e => by rw [e]; exact k1), Keeps.of_mod hm' k2 hc' hs'⟩
end Go.Proofs
namespace Go.Am
open Go
theorem vr_own_rd {Γ : Ctx} {w : World} {b s : Nat} {q : Q} {f : Bool} {xs : List V} {x : Value} {T : Nat → Prop} (h : VR Γ w (.own b s q xs) x) (hS : ∀ k, Γ.Sq q k → T k) (hb : ∀ b, Γ.has b → T (Γ.blk b)) (hf : f = true → q = .flat) : Rd w T (.sl s f xs) x := by
  cases h with
  | rd _ _ h => cases h
  | ownNil b s q hb => exact .empty s f none 0
  | own b s q xs hb' hs hlen hr hq =>
    cases xs with
    | nil => exact .empty s f _ _
    | cons y ys =>
      obtain ⟨hsz, g, hg, hrd⟩ := hr
      exact .sl s f _ _ _ _ g (by simp) hlen.1 (hb b hb') hsz (fun e x hx c hc => hq (hf e) x hx c hc) hg (fun i x j c hx hc => (hrd i x j c hx hc).mono hS (fun _ _ _ => rfl))
theorem rd_noSl {w w' : World} {S S' : Nat → Prop} {c : V} {y : Value} (h : Rd w S c y) (hn : noSl c) : Rd w' S' c y := by
  cases h with
  | bool b => exact .bool b
  | int k n => exact .int k n
  | str s x h => exact .str s x h
  | nil => exact .nil
  | undef x => exact hn.elim
  | empty s f a cap => exact hn.elim
  | sl s f xs k o cap g hl hcap hS hsz hf hg hr => exact hn.elim
  | iptr x k o n g hS hg hr => exact hn.elim
  | agg cs vs hl hr => exact hn.elim
  | tup cs vs hl hr => exact hn.elim
  | clo f cs vs hl hr => exact hn.elim
/-- A slice of flat rows in a block of its own, or none. -/
def FlatAt (W : World) (lo hi c : Nat) (rs : List V) (x : Value) : Prop := (rs = [] ∧ ∃ a cap, x = .slice a 0 cap) ∨ (0 < rs.length ∧ ∃ bk o cap cur ty, x = .slice (some ⟨bk, o, none⟩) rs.length cap ∧ rs.length ≤ cap ∧ lo ≤ bk ∧ bk < hi ∧ W.heap[bk]? = some (.cells cur ty (0, 0)) ∧ o + rs.length * c ≤ cur.size ∧ Rd W (fun k => k = bk) (.sl c true rs) x)
theorem FlatAt.rd {W : World} {lo hi c : Nat} {rs : List V} {x : Value} (h : FlatAt W lo hi c rs x) : Rd W (fun k => lo ≤ k ∧ k < hi) (.sl c true rs) x := by
  rcases h with ⟨rfl, a, cap, rfl⟩ | ⟨_, bk, o, cap, cur, ty, rfl, _, h1, h2, _, _, h3⟩
  · exact .empty _ _ _ _
  · exact h3.mono (fun k e => by rw [e]; exact ⟨h1, h2⟩) (fun _ _ _ => rfl)
theorem own_flat {R : Nat → Prop} {w w1 : World} {x : Value} {b s : Nat} {xs : List V} (h : Answer R w (.own b s .flat xs) x w1) : FlatAt w1 w.heap.size w1.heap.size s xs x := by
  obtain ⟨Γ, hv, hF, hS, hb, hinj, hbz, hzf⟩ := h.val
  cases hv with
  | rd _ _ h => cases h
  | ownNil b s q hb => exact .inl ⟨rfl, none, 0, rfl⟩
  | own b s q xs hb' hs hlen hr hq =>
    obtain ⟨b1, b2, _, _, cur, e, b4, b5⟩ := hb b hb'
    cases xs with
    | nil => exact .inl ⟨rfl, _, _, rfl⟩
    | cons y ys =>
      obtain ⟨hsz, g, hg, hrd⟩ := hr
      refine .inr ⟨by simp, Γ.blk b, Γ.off b, Γ.cap b, cur, e, rfl, hlen.1, b1, b2, b4, ?_, ?_⟩
      · have := Nat.mul_le_mul_right s hlen.1
        rw [← hs] at b5
        omega
      · exact .sl s true _ _ _ _ g (by simp) hlen.1 rfl hsz (fun _ x hx c hc => hq rfl x hx c hc) hg (fun i x j c hx hc => rd_noSl (hrd i x j c hx hc) (hq rfl x (List.mem_of_getElem? hx) c (List.mem_of_getElem? hc)))
theorem FlatAt.same {W W' : World} {lo hi c : Nat} {rs : List V} {x : Value} (h : FlatAt W lo hi c rs x) (he : ∀ k, lo ≤ k → k < hi → W'.heap[k]? = W.heap[k]?) : FlatAt W' lo hi c rs x := by
  rcases h with h | ⟨h0, bk, o, cap, cur, ty, rfl, h1, h2, h3, h4, h5, h6⟩
  · exact .inl h
  · exact .inr ⟨h0, bk, o, cap, cur, ty, rfl, h1, h2, h3, by rw [he bk h2 h3]; exact h4, h5, h6.mono (fun _ e => e) (fun k e o => by rw [e]; simp only [World.cell?, he bk h2 h3])⟩
/-- Rows of marks. -/
def mrows (mr : Nat → V) (c n : Nat) : List V := (List.range n).map fun j => mr (1 + j * c)
theorem marked_flat {mt : Nat → List UInt8} {mr : Nat → V} {c n : Nat} (hc : 0 < c) (hmr : ∀ k, (mr k).cells = (List.range c).map fun t => V.str (mt (k + t))) {W : World} {bk o cap lo hi : Nat} {cur : Array Value} {ty : TypeId} (h0 : 0 < n) (hn : n ≤ cap) (h1 : lo ≤ bk) (h2 : bk < hi) (hb : W.heap[bk]? = some (.cells cur ty (0, 0))) (hs : o + n * c ≤ cur.size)
    (hm : ∀ j, j < n → ∀ t, t < c → ∃ s, cur[o + j * c + t]? = some (.string s) ∧ s.data.toList = mt (1 + j * c + t)) : FlatAt W lo hi c (mrows mr c n) (.slice (some ⟨bk, o, none⟩) n cap) := by
  have hl : (mrows mr c n).length = n := by simp [mrows]
  have hget : ∀ (i : Nat) (x : V), (mrows mr c n)[i]? = some x → i < n ∧ x = mr (1 + i * c) := fun i x hx => by
    have hi : i < n := by have := (List.getElem?_eq_some_iff.1 hx).1; rwa [hl] at this
    refine ⟨hi, ?_⟩
    rw [mrows, List.getElem?_map, List.getElem?_range hi] at hx
    simpa using hx.symm
  have hcell : ∀ (i : Nat) (x : V) (j : Nat) (u : V), (mrows mr c n)[i]? = some x → x.cells[j]? = some u → i < n ∧ j < c ∧ u = .str (mt (1 + i * c + j)) := fun i x j u hx hu => by
    obtain ⟨hi, rfl⟩ := hget i x hx
    rw [hmr] at hu
    have hj : j < c := by have := (List.getElem?_eq_some_iff.1 hu).1; simpa using this
    refine ⟨hi, hj, ?_⟩
    rw [List.getElem?_map, List.getElem?_range hj] at hu
    simpa using hu.symm
  have key : ∀ i j, i < n → j < c → ∃ s, cur[o + i * c + j]? = some (.string s) ∧ s.data.toList = mt (1 + i * c + j) := fun i j hi hj => hm i hi j hj
  refine .inr ⟨by rw [hl]; exact h0, bk, o, cap, cur, ty, by rw [hl], by rw [hl]; exact hn, h1, h2, hb, by rw [hl]; exact hs, ?_⟩
  conv => rhs; rw [← hl]
  refine .sl c true _ bk o cap (fun i j => cur[o + i * c + j]!) (by rw [hl]; exact h0) (by rw [hl]; exact hn) rfl (fun x hx => ?_) (fun _ x hx u hu => ?_) (fun i j hi hj => ?_) (fun i x j u hx hu => ?_)
  · obtain ⟨i, hi⟩ := List.mem_iff_getElem?.1 hx
    rw [(hget i x hi).2, hmr]
    simp
  · obtain ⟨i, hi⟩ := List.mem_iff_getElem?.1 hx
    obtain ⟨j, hj⟩ := List.mem_iff_getElem?.1 hu
    rw [(hcell i x j u hi hj).2.2]
    exact trivial
  · rw [hl] at hi
    obtain ⟨s, h3, _⟩ := key i j hi hj
    have hlt := (Array.getElem?_eq_some_iff.1 h3)
    obtain ⟨hlt, h4⟩ := hlt
    refine ⟨?_, ?_⟩
    · rw [blk_at hb, h3, getElem!_pos cur _ hlt, h4]
    · show (cur[o + i * c + j]!).oneCell' = true
      rw [getElem!_pos cur _ hlt, h4]
      rfl
  · obtain ⟨hi, hj, rfl⟩ := hcell i x j u hx hu
    obtain ⟨s, h3, h5⟩ := key i j hi hj
    obtain ⟨hlt, h4⟩ := Array.getElem?_eq_some_iff.1 h3
    show Rd _ _ _ (cur[o + i * c + j]!)
    rw [getElem!_pos cur _ hlt, h4]
    exact .str _ _ h5
/-- The net that laws.toNet hands over, as an argument. -/
theorem net_rd {R : Nat → Prop} {w w1 : World} {x : Value} {b0 b1 b2 : Nat} {q0 q1 q2 : Q} {xs ys zs : List V} {n : Int} {f0 f1 f2 : Bool} (h : Answer R w (.agg [.own b0 2 q0 xs, .own b1 10 q1 ys, .own b2 4 q2 zs, .int .i64 n]) x w1) (hR : ∀ k, R k → k < w.heap.size)
    (h0 : f0 = true → q0 = .flat) (h1 : f1 = true → q1 = .flat) (h2 : f2 = true → q2 = .flat) : Rd w1 (fun k => k < w1.heap.size) (.agg [.sl 2 f0 xs, .sl 10 f1 ys, .sl 4 f2 zs, .int .i64 n]) x := by
  obtain ⟨Γ, hv, hF, hS, hb, hinj, hbz, hzf⟩ := h.val
  have hq : ∀ q k, Γ.Sq q k → k < w1.heap.size := fun q k hk => by
    cases q with
    | any => exact (hS k hk).2
    | flat => exact (hS k hk.1).2
    | clean => exact (hS k hk.1).2
  cases hv with
  | rd _ _ h =>
    cases h with
    | agg cs vs hl hr =>
      have h0 : 0 < vs.size := by simp at hl; omega
      exact (rd_no_own (hr 0 _ _ rfl (Array.getElem?_eq_getElem h0))).elim
  | agg cs vs hl hr =>
    refine .agg _ _ (by simpa using hl) (fun i c v hc hv => ?_)
    match i, hc with
    | 0, hc => injection hc with hc; subst hc; exact vr_own_rd (hr 0 _ v rfl hv) (hq q0) (fun b hb' => (hb b hb').2.1) h0
    | 1, hc => injection hc with hc; subst hc; exact vr_own_rd (hr 1 _ v rfl hv) (hq q1) (fun b hb' => (hb b hb').2.1) h1
    | 2, hc => injection hc with hc; subst hc; exact vr_own_rd (hr 2 _ v rfl hv) (hq q2) (fun b hb' => (hb b hb').2.1) h2
    | 3, hc =>
      injection hc with hc; subst hc
      have := hr 3 _ v rfl hv
      cases this with
      | rd _ _ h => cases h; exact .int _ _
    | i + 4, hc => simp at hc
end Go.Am
namespace Go.Am
open Go
theorem answer_bool {R : Nat → Prop} {W W' : World} {b : Bool} {y : Value} (a : Answer R W (.bool b) y W') : y = .bool b := by
  obtain ⟨Γ, hv, _⟩ := a.val
  cases hv with
  | rd _ _ h => cases h; rfl
theorem answer_int {R : Nat → Prop} {W W' : World} {m : Int} {y : Value} (a : Answer R W (.int .i64 m) y W') : y = .int .i64 m := by
  obtain ⟨Γ, hv, _⟩ := a.val
  cases hv with
  | rd _ _ h => cases h; rfl
theorem Rd.mod {X S : Nat → Prop} {w w' : World} {v : V} {x : Value} (h : Rd w S v x) (hm : Mod X w w') (hS : ∀ k, S k → k < w.heap.size ∧ ¬ X k) : Rd w' (fun k => k < w'.heap.size) v x :=
  h.mono (fun k hk => Nat.lt_of_lt_of_le (hS k hk).1 hm.size) (fun k hk o => by simp only [World.cell?, hm.old k (hS k hk).1 (hS k hk).2])
theorem Deep.slice {X : Nat → Prop} {W : World} {v : Value} (h : Deep X W v) : ∃ a k cap, v = .slice a k cap := by
  rcases h with ⟨a, cap, rfl⟩ | ⟨bk, o, n, cap, _, _, rfl, _⟩
  · exact ⟨_, _, _, rfl⟩
  · exact ⟨_, _, _, rfl⟩
theorem InX.slice {s : Nat} {X : Nat → Prop} {W : World} {v : Value} (h : InX s X W v) : ∃ a k cap, v = .slice a k cap := by
  rcases h with ⟨a, cap, rfl⟩ | ⟨bk, o, n, cap, _, _, rfl, _⟩
  · exact ⟨_, _, _, rfl⟩
  · exact ⟨_, _, _, rfl⟩
/-- What was there stays. -/
def Old (w W : World) : Prop := ∀ k, k < w.heap.size → W.heap[k]? = w.heap[k]?
/-- What was there stays, and what was made between w3 and W3. -/
def Mid (w w3 W3 W : World) : Prop := (∀ k, k < w.heap.size → W.heap[k]? = w.heap[k]?) ∧ ∀ k, w3.heap.size ≤ k → k < W3.heap.size → W.heap[k]? = W3.heap[k]?
/-- What a law does that marks a net and a flat result, call by call. -/
def Chain (P : Program) (fto fsp fim feq fen fmn fmk fhe : Nat) (n : Int) (m : Nat) (N H : Value) (w : World) : Prop :=
    Calls P fto #[N] w fun e w1 => ∃ x1, e = .returned x1 ∧ Old w w1 ∧ ∀ W1, Kept w1 W1 → Calls P fsp #[x1, H] W1 fun e w2 => ∃ v0, e = .returned v0 ∧ Old w w2 ∧ ∀ W2, Kept w2 W2 → Calls P fto #[N] W2 fun e w3 => ∃ sv ev lv, e = .returned (.agg #[sv, ev, lv, .int .i64 n]) ∧ (∃ a k cap, sv = .slice a k cap) ∧ (∃ a k cap, ev = .slice a k cap) ∧ (∃ a k cap, lv = .slice a k cap) ∧ Old w w3 ∧ ∀ W3, Kept w3 W3 →
      Calls P fim #[.agg #[sv, ev, lv, .int .i64 n], H] W3 fun e w4 => ∃ g0, e = .returned g0 ∧ Mid w w3 W3 w4 ∧ ∀ W4, Kept w4 W4 → Calls P feq #[g0, v0] W4 fun e w5 => e = .returned (.bool true) ∧ Mid w w3 W3 w5 ∧ ∀ W5, Kept w5 W5 →
      Calls P fto #[N] W5 fun e w6 => ∃ t, e = .returned t ∧ Mid w w3 W3 w6 ∧ ∀ W6, Kept w6 W6 → Calls P fen #[.agg #[sv, ev, lv, .int .i64 n], t] W6 fun e w7 => e = .returned (.bool true) ∧ Mid w w3 W3 w7 ∧ ∀ W7, Kept w7 W7 →
      Calls P fmn #[.agg #[sv, ev, lv, .int .i64 n], .int .i64 1] W7 fun e w8 => ∃ z : Int, e = .returned (.int .i64 z) ∧ 1 ≤ z ∧ z ≤ 1125899906842624 ∧ Mid w w3 W3 w8 ∧ ∀ W8, Kept w8 W8 → Calls P feq #[g0, v0] W8 fun e w9 => e = .returned (.bool true) ∧ Mid w w3 W3 w9 ∧ ∀ W9, Kept w9 W9 →
      Calls P fmk #[g0, .int .i64 1] W9 fun e w10 => e = .returned (.int .i64 (m : Int)) ∧ Mid w w3 W3 w10 ∧ ∀ W10, Kept w10 W10 → Calls P fhe #[g0, .int .i64 1] W10 fun e w11 => e = .returned (.int .i64 (m : Int)) ∧ Mid w w3 W3 w11 ∧ ∀ W11, Kept w11 W11 →
      Calls P fto #[N] W11 fun e w12 => ∃ t2, e = .returned t2 ∧ Mid w w3 W3 w12 ∧ ∀ W12, Kept w12 W12 → Calls P fim #[t2, H] W12 fun e w13 => ∃ h0, e = .returned h0 ∧ Mid w w3 W3 w13 ∧ ∀ W13, Kept w13 W13 →
      Calls P feq #[h0, v0] W13 fun e w14 => e = .returned (.bool true) ∧ Mid w w3 W3 w14 ∧ ∀ W14, Kept w14 W14 → Calls P fhe #[g0, .int .i64 1] W14 fun e w15 => e = .returned (.int .i64 (m : Int)) ∧ Mid w w3 W3 w15 ∧ Mod (fun k => w.heap.size ≤ k) w w15
set_option maxHeartbeats 1000000 in
/-- The calls of a law that marks a net and a flat result, one behind the other; between them the world may grow. -/
theorem mark2_chain {P : Program} {d : Nat → List V → Option V} (hA : Answers P d) {fto fsp fim feq fen fmn fmk fhe : Nat} {xs ys zs rs : List V} {n : Int} {h : List UInt8} {c : Nat} {mr : Nat → V} {mt : Nat → List UInt8} {j0 j1 j2 ja jb : Nat} (hc : 0 < c)
    (hmr : ∀ k, (mr k).cells = (List.range c).map fun t => V.str (mt (k + t))) (hrs : rs.length ≤ 1048576) (l0 : xs.length ≤ 1048576) (l1 : ys.length ≤ 1048576) (l2 : zs.length ≤ 1048576) (hrow : ∀ x ∈ xs, ∃ a f rs, x.cells = [a, .sl 7 f rs] ∧ rs.length ≤ 1048576)
    (d_to : d fto [.agg [.sl 2 false xs, .sl 10 true ys, .sl 4 true zs, .int .i64 n]] = some (.agg [.own j0 2 .clean xs, .own j1 10 .flat ys, .own j2 4 .flat zs, .int .i64 n]))
    (d_sp : d fsp [.agg [.sl 2 false xs, .sl 10 true ys, .sl 4 true zs, .int .i64 n], .str h] = some (.own ja c .flat rs)) (d_im : d fim [.agg [.sl 2 false xs, .sl 10 true ys, .sl 4 true zs, .int .i64 n], .str h] = some (.own jb c .flat rs))
    (d_eq : d feq [.sl c true rs, .sl c true rs] = some (.bool true)) (d_en : d fen [.agg [.sl 2 false xs, .sl 10 true ys, .sl 4 true zs, .int .i64 n], .agg [.sl 2 false xs, .sl 10 true ys, .sl 4 true zs, .int .i64 n]] = some (.bool true))
    (d_he : d fhe [.sl c true (mrows mr c rs.length), .int .i64 1] = some (.int .i64 ((1 + rs.length * c : Nat) : Int)))
    (mk : ∀ (bk o cap nn : Nat) (cur0 : Array Value) (ty : TypeId) (W : World), globOk W → globN ≤ bk → W.heap[bk]? = some (.cells cur0 ty (0, 0)) → o + nn * c ≤ cur0.size → nn ≤ 1048576 → Calls P fmk #[.slice (some ⟨bk, o, none⟩) nn cap, .int .i64 1] W fun e w' => e = .returned (.int .i64 ((1 + nn * c : Nat) : Int)) ∧ Mod (fun k => k = bk) W w' ∧ ∃ cur, w'.heap[bk]? = some (.cells cur ty (0, 0)) ∧ cur.size = cur0.size ∧ ∀ j, j < nn → ∀ t, t < c → ∃ s, cur[o + j * c + t]? = some (.string s) ∧ s.data.toList = mt (1 + j * c + t))
    (mk0 : ∀ (a : Option Addr) (cap : Nat) (W : World), Calls P fmk #[.slice a 0 cap, .int .i64 1] W fun e w' => e = .returned (.int .i64 1) ∧ w' = W)
    (mn : ∀ (X : Nat → Prop) (sv ev lv : Value) (W : World), (∀ k, X k → globN ≤ k) → (∀ k, X k → k < W.heap.size) → globOk W → Deep X W sv → InX 10 X W ev → InX 4 X W lv → Calls P fmn #[.agg #[sv, ev, lv, .int .i64 n], .int .i64 1] W fun e w' => ∃ z : Int, e = .returned (.int .i64 z) ∧ 1 ≤ z ∧ z ≤ 1125899906842624 ∧ Mod X W w' ∧ Keeps X W w')
    {R : Nat → Prop} {w : World} {N H : Value} (hg : globOk w) (hR : ∀ k, R k → k < w.heap.size) (hN : Rd w R (.agg [.sl 2 false xs, .sl 10 true ys, .sl 4 true zs, .int .i64 n]) N) (hH : Rd w R (.str h) H) :
    Chain P fto fsp fim feq fen fmn fmk fhe n (1 + rs.length * c) N H w := by
  unfold Chain
  have hH' : ∀ W, Rd W (fun k => k < W.heap.size) (.str h) H := fun W => by cases hH with | str _ x e => exact .str _ x e
  have ret : ∀ {f : Nat} {args : List V} {vals : Array Value} {W : World} {r : V} {Q : Ending → World → Prop}, d f args = some r → globOk W → args.length = vals.size → (∀ (i : Nat) (c : V) (v : Value), args[i]? = some c → vals[i]? = some v → Rd W (fun k => k < W.heap.size) c v) →
      (∀ x W', Answer (fun k => k < W.heap.size) W r x W' → Q (.returned x) W') → Calls P f vals W Q := fun hd hg hl hv hq =>
    ((hA _ _ _ hd).2 (fun k => k < _) _ _ hg (fun _ h => h) hl hv).mono (fun e W' h => by
      cases e with
      | returned x => exact hq x W' h
      | _ => exact h.elim)
  have one : ∀ {W : World} {a : V} {x : Value}, Rd W (fun k => k < W.heap.size) a x → ∀ (i : Nat) (c : V) (v : Value), [a][i]? = some c → #[x][i]? = some v → Rd W (fun k => k < W.heap.size) c v := fun ha i c v h1 h2 => by
    match i, h1, h2 with
    | 0, h1, h2 => injection h1 with h1; injection h2 with h2; subst h1; subst h2; exact ha
    | i + 1, h1, _ => simp at h1
  have two : ∀ {W : World} {a b : V} {x y : Value}, Rd W (fun k => k < W.heap.size) a x → Rd W (fun k => k < W.heap.size) b y → ∀ (i : Nat) (c : V) (v : Value), [a, b][i]? = some c → #[x, y][i]? = some v → Rd W (fun k => k < W.heap.size) c v := fun ha hb i c v h1 h2 => by
    match i, h1, h2 with
    | 0, h1, h2 => injection h1 with h1; injection h2 with h2; subst h1; subst h2; exact ha
    | 1, h1, h2 => injection h1 with h1; injection h2 with h2; subst h1; subst h2; exact hb
    | i + 2, h1, _ => simp at h1
  -- what is old stays
  have hNk : ∀ {W : World}, Mod (fun k => w.heap.size ≤ k) w W → Rd W (fun k => k < W.heap.size) (.agg [.sl 2 false xs, .sl 10 true ys, .sl 4 true zs, .int .i64 n]) N := fun hm => hN.mod hm (fun k hk => ⟨hR k hk, Nat.not_le.2 (hR k hk)⟩)
  have hgk : ∀ {W : World}, Mod (fun k => w.heap.size ≤ k) w W → globOk W := fun hm => hm.glob (fun k hk => Nat.le_trans hg.2 hk) hg
  have ofA : ∀ {W W' : World} {r : V} {x : Value}, Answer (fun k => k < W.heap.size) W r x W' → Kept W W' := fun a => Kept.of_answer a
  have rdK : ∀ {u W : World} {v : V} {x : Value}, Rd u (fun k => k < u.heap.size) v x → Kept u W → Rd W (fun k => k < W.heap.size) v x := fun h hk => h.mono (fun k hk' => Nat.lt_of_lt_of_le hk' hk.2.2.2.1) (fun k hk' o => by simp only [World.cell?, hk.2.2.2.2 k hk'])
  have inS : ∀ {W : World} {lo hi c : Nat} {rs : List V} {x : Value}, FlatAt W lo hi c rs x → hi ≤ W.heap.size → Rd W (fun k => k < W.heap.size) (.sl c true rs) x := fun hf hh => hf.rd.mono (fun k hk => by omega) (fun _ _ _ => rfl)
  have old : ∀ {W : World}, Mod (fun k => w.heap.size ≤ k) w W → Old w W := fun hm k hk => hm.old k hk (by omega)
  have fk : ∀ {u W : World} {lo hi c : Nat} {rs : List V} {x : Value}, FlatAt u lo hi c rs x → hi ≤ u.heap.size → Kept u W → FlatAt W lo hi c rs x := fun hf hh hk => hf.same (fun k _ h2 => hk.2.2.2.2 k (by omega))
  have N0 : Mod (fun k => w.heap.size ≤ k) w w := Mod.refl w
  refine ret d_to hg rfl (one (hNk N0)) (fun x1 w1 a1 => ?_)
  have k1 := ofA a1
  have N1 := N0.trans (Mod.of_kept k1)
  refine ⟨x1, rfl, old N1, fun W1 g1 => ?_⟩
  have N1 := N1.trans (Mod.of_kept g1)
  refine ret d_sp (hgk N1) rfl (two (rdK (net_rd a1 (fun _ h => h) (fun h => by cases h) (fun _ => rfl) (fun _ => rfl)) g1) (hH' _)) (fun v0 w2 a2 => ?_)
  have k2 := ofA a2
  have N2 := N1.trans (Mod.of_kept k2)
  have V2 := own_flat a2
  refine ⟨v0, rfl, old N2, fun W2 g2 => ?_⟩
  have N2 := N2.trans (Mod.of_kept g2)
  have V2 := fk V2 (Nat.le_refl _) g2
  have t2 := g2.2.2.2.1
  refine ret d_to (hgk N2) rfl (one (hNk N2)) (fun x0 w3 a3 => ?_)
  have k3 := ofA a3
  have s3 := k3.2.2.2.1
  have N3 := N2.trans (Mod.of_kept k3)
  have V3 := fk V2 (by omega) k3
  have X3 := net_rd a3 (fun _ h => h) (f0 := false) (f1 := true) (f2 := true) (fun h => by cases h) (fun _ => rfl) (fun _ => rfl)
  obtain ⟨sv, ev, lv, rfl, D3, E3, L3⟩ := net_new a3 (by decide) l0 l1 l2 hrow
  have sz2 : w.heap.size ≤ W2.heap.size := N2.size
  refine ⟨sv, ev, lv, rfl, D3.slice, E3.slice, L3.slice, old N3, fun W3 g3 => ?_⟩
  have t3 := g3.2.2.2.1
  have N3 := N3.trans (Mod.of_kept g3)
  have V3 := fk V3 (by omega) g3
  -- what has been made since w3 stays as it is where the walk looks
  have mid : ∀ {W : World}, Mod (fun k => W2.heap.size ≤ k ∧ k < w3.heap.size ∨ W3.heap.size ≤ k) W3 W → Mid w w3 W3 W := fun hm => ⟨fun k hk => (hm.old k (by omega) (by omega)).trans (N3.old k hk (by omega)), fun k h1 h2 => hm.old k h2 (by omega)⟩
  have M3 : Mod (fun k => W2.heap.size ≤ k ∧ k < w3.heap.size ∨ W3.heap.size ≤ k) W3 W3 := Mod.refl _
  refine ret d_im (hgk N3) rfl (two (rdK X3 g3) (hH' _)) (fun g0 w4 a4 => ?_)
  have k4 := ofA a4
  have s4 := k4.2.2.2.1
  have N4 := N3.trans (Mod.of_kept k4)
  have M4 := M3.trans (Mod.of_kept k4)
  have V4 := fk V3 (by omega) k4
  have G4 := own_flat a4
  refine ⟨g0, rfl, mid M4, fun W4 g4 => ?_⟩
  have t4 := g4.2.2.2.1
  have N4 := N4.trans (Mod.of_kept g4)
  have M4 := M4.trans (Mod.of_kept g4)
  have V4 := fk V4 (by omega) g4
  have G4 := fk G4 (Nat.le_refl _) g4
  refine ret d_eq (hgk N4) rfl (two (inS G4 (by omega)) (inS V4 (by omega))) (fun y w5 a5 => ?_)
  rw [answer_bool a5]
  have k5 := ofA a5
  have s5 := k5.2.2.2.1
  have N5 := N4.trans (Mod.of_kept k5)
  have M5 := M4.trans (Mod.of_kept k5)
  refine ⟨rfl, mid M5, fun W5 g5 => ?_⟩
  have t5 := g5.2.2.2.1
  have N5 := N5.trans (Mod.of_kept g5)
  have M5 := M5.trans (Mod.of_kept g5)
  refine ret d_to (hgk N5) rfl (one (hNk N5)) (fun t w6 a6 => ?_)
  have k6 := ofA a6
  have s6 := k6.2.2.2.1
  have N6 := N5.trans (Mod.of_kept k6)
  have M6 := M5.trans (Mod.of_kept k6)
  refine ⟨t, rfl, mid M6, fun W6 g6 => ?_⟩
  have t6 := g6.2.2.2.1
  have N6 := N6.trans (Mod.of_kept g6)
  have M6 := M6.trans (Mod.of_kept g6)
  have k46 : Kept W4 W6 := (k5.trans g5).trans (k6.trans g6)
  have k36 : Kept w3 W6 := (g3.trans (k4.trans g4)).trans k46
  refine ret d_en (hgk N6) rfl (two (rdK X3 k36) (rdK (net_rd a6 (fun _ h => h) (fun h => by cases h) (fun _ => rfl) (fun _ => rfl)) g6)) (fun y w7 a7 => ?_)
  rw [answer_bool a7]
  have k7 := ofA a7
  have s7 := k7.2.2.2.1
  have N7 := N6.trans (Mod.of_kept k7)
  have M7 := M6.trans (Mod.of_kept k7)
  refine ⟨rfl, mid M7, fun W7 g7 => ?_⟩
  have t7 := g7.2.2.2.1
  have N7 := N7.trans (Mod.of_kept g7)
  have M7 := M7.trans (Mod.of_kept g7)
  have k37 : Kept w3 W7 := k36.trans (k7.trans g7)
  have k47 : Kept W4 W7 := k46.trans (k7.trans g7)
  have V7 := fk V4 (by omega) k47
  have G7 := fk G4 (by omega) k47
  refine (mn (fun k => W2.heap.size ≤ k ∧ k < w3.heap.size) sv ev lv W7 (fun k hk => Nat.le_trans hg.2 (by omega)) (fun k hk => by omega) (hgk N7) (D3.kept k37) (E3.step (Keeps.of_kept k37)) (L3.step (Keeps.of_kept k37))).mono ?_
  rintro e w8 ⟨z, rfl, z1, z2, m8, _⟩
  have s8 := m8.size
  have N8 := N7.trans (m8.mono (fun k hk => Nat.le_trans sz2 hk.1))
  have M8 := M7.trans (m8.mono (fun k hk => .inl hk))
  have V8 := V7.same (W' := w8) (fun k h1 h2 => m8.old k (by omega) (by omega))
  have G8 := G7.same (W' := w8) (fun k h1 h2 => m8.old k (by omega) (by omega))
  refine ⟨z, rfl, z1, z2, mid M8, fun W8 g8 => ?_⟩
  have t8 := g8.2.2.2.1
  have N8 := N8.trans (Mod.of_kept g8)
  have M8 := M8.trans (Mod.of_kept g8)
  have V8 := fk V8 (by omega) g8
  have G8 := fk G8 (by omega) g8
  refine ret d_eq (hgk N8) rfl (two (inS G8 (by omega)) (inS V8 (by omega))) (fun y w9 a9 => ?_)
  rw [answer_bool a9]
  have k9 := ofA a9
  have s9 := k9.2.2.2.1
  have N9 := N8.trans (Mod.of_kept k9)
  have M9 := M8.trans (Mod.of_kept k9)
  refine ⟨rfl, mid M9, fun W9 g9 => ?_⟩
  have t9 := g9.2.2.2.1
  have N9 := N9.trans (Mod.of_kept g9)
  have M9 := M9.trans (Mod.of_kept g9)
  have V9 := fk V8 (by omega) (k9.trans g9)
  have G9 := fk G8 (by omega) (k9.trans g9)
  have rest : ∀ w10, Mod (fun k => W3.heap.size ≤ k ∧ k < w4.heap.size) W9 w10 → FlatAt w10 W3.heap.size w4.heap.size c (mrows mr c rs.length) g0 → Mid w w3 W3 w10 ∧ ∀ W10, Kept w10 W10 →
      Calls P fhe #[g0, .int .i64 1] W10 fun e w11 => e = .returned (.int .i64 ((1 + rs.length * c : Nat) : Int)) ∧ Mid w w3 W3 w11 ∧ ∀ W11, Kept w11 W11 →
        Calls P fto #[N] W11 fun e w12 => ∃ t2, e = .returned t2 ∧ Mid w w3 W3 w12 ∧ ∀ W12, Kept w12 W12 → Calls P fim #[t2, H] W12 fun e w13 => ∃ h0, e = .returned h0 ∧ Mid w w3 W3 w13 ∧ ∀ W13, Kept w13 W13 →
        Calls P feq #[h0, v0] W13 fun e w14 => e = .returned (.bool true) ∧ Mid w w3 W3 w14 ∧ ∀ W14, Kept w14 W14 → Calls P fhe #[g0, .int .i64 1] W14 fun e w15 => e = .returned (.int .i64 ((1 + rs.length * c : Nat) : Int)) ∧ Mid w w3 W3 w15 ∧ Mod (fun k => w.heap.size ≤ k) w w15 := by
    intro w10 m10 G10
    have s10 := m10.size
    have N10 := N9.trans (m10.mono (fun k hk => by omega))
    have M10 := M9.trans (m10.mono (fun k hk => .inr hk.1))
    refine ⟨mid M10, fun W10 g10 => ?_⟩
    have t10 := g10.2.2.2.1
    have N10 := N10.trans (Mod.of_kept g10)
    have M10 := M10.trans (Mod.of_kept g10)
    have V10 := fk (V9.same (W' := w10) (fun k h1 h2 => m10.old k (by omega) (by omega))) (by omega) g10
    have G10 := fk G10 (by omega) g10
    refine ret d_he (hgk N10) rfl (two (inS G10 (by omega)) (.int _ _)) (fun y w11 a11 => ?_)
    rw [answer_int a11]
    have k11 := ofA a11
    have s11 := k11.2.2.2.1
    have N11 := N10.trans (Mod.of_kept k11)
    have M11 := M10.trans (Mod.of_kept k11)
    refine ⟨rfl, mid M11, fun W11 g11 => ?_⟩
    have t11 := g11.2.2.2.1
    have N11 := N11.trans (Mod.of_kept g11)
    have M11 := M11.trans (Mod.of_kept g11)
    refine ret d_to (hgk N11) rfl (one (hNk N11)) (fun t2 w12 a12 => ?_)
    have k12 := ofA a12
    have s12 := k12.2.2.2.1
    have N12 := N11.trans (Mod.of_kept k12)
    have M12 := M11.trans (Mod.of_kept k12)
    refine ⟨t2, rfl, mid M12, fun W12 g12 => ?_⟩
    have t12 := g12.2.2.2.1
    have N12 := N12.trans (Mod.of_kept g12)
    have M12 := M12.trans (Mod.of_kept g12)
    refine ret d_im (hgk N12) rfl (two (rdK (net_rd a12 (fun _ h => h) (fun h => by cases h) (fun _ => rfl) (fun _ => rfl)) g12) (hH' _)) (fun h0 w13 a13 => ?_)
    have k13 := ofA a13
    have s13 := k13.2.2.2.1
    have N13 := N12.trans (Mod.of_kept k13)
    have M13 := M12.trans (Mod.of_kept k13)
    refine ⟨h0, rfl, mid M13, fun W13 g13 => ?_⟩
    have t13 := g13.2.2.2.1
    have N13 := N13.trans (Mod.of_kept g13)
    have M13 := M13.trans (Mod.of_kept g13)
    have k1013 : Kept W10 W13 := (k11.trans g11).trans ((k12.trans g12).trans (k13.trans g13))
    have V13 := fk V10 (by omega) k1013
    have G13 := fk G10 (by omega) k1013
    refine ret d_eq (hgk N13) rfl (two (inS (fk (own_flat a13) (Nat.le_refl _) g13) (by omega)) (inS V13 (by omega))) (fun y w14 a14 => ?_)
    rw [answer_bool a14]
    have k14 := ofA a14
    have s14 := k14.2.2.2.1
    have N14 := N13.trans (Mod.of_kept k14)
    have M14 := M13.trans (Mod.of_kept k14)
    refine ⟨rfl, mid M14, fun W14 g14 => ?_⟩
    have t14 := g14.2.2.2.1
    have N14 := N14.trans (Mod.of_kept g14)
    have M14 := M14.trans (Mod.of_kept g14)
    have G14 := fk G13 (by omega) (k14.trans g14)
    refine ret d_he (hgk N14) rfl (two (inS G14 (by omega)) (.int _ _)) (fun y w15 a15 => ?_)
    rw [answer_int a15]
    exact ⟨rfl, mid (M14.trans (Mod.of_kept (ofA a15))), N14.trans (Mod.of_kept (ofA a15))⟩
  rcases G9 with ⟨e0, a, cap, rfl⟩ | ⟨p0, bk, o, cap, cur, ty, rfl, p1, p2, p3, p4, p5, _⟩
  · subst e0
    refine (mk0 a cap W9).mono ?_
    rintro e w10 ⟨rfl, rfl⟩
    exact ⟨by simp, rest _ (Mod.refl _) (.inl ⟨rfl, a, cap, rfl⟩)⟩
  · refine (mk bk o cap rs.length cur ty W9 (hgk N9) (Nat.le_trans hg.2 (by omega)) p4 p5 hrs).mono ?_
    rintro e w10 ⟨rfl, m10, cur', c1, c2, c3⟩
    exact ⟨rfl, rest w10 (m10.mono (fun k e => by rw [e]; exact ⟨p2, p3⟩)) (marked_flat hc hmr p0 p1 p2 p3 c1 (by rw [c2]; exact p5) c3)⟩
end Go.Am


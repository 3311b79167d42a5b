/-
  Laws that write marks into a fresh slice of numbers: laws.markIntS walked, and the laws' own code, call by call. Written by program (walkmark.py).
-/
import Derived.Test.YtdalkeoadcnneaaEm
import Derived.Test.YtdalkeoadcnneaaAmExt4
import Derived.Test.YtdalkeoadcnneaaAmOk
import Derived.Test.YtdalkeoadcnneaaAmEq
import Derived.Test.YtdalkeoadcnneaaAmMore
import Derived.Sort.WalkB12
import Derived.WalkKit
import Derived.Deep.LoopGhost
import Derived.RegionTactic
set_option linter.unusedVariables false
set_option linter.unusedSimpArgs false
namespace Go.Am
open Go
theorem ans1 : Answers Go.Proofs.Try.prog D1 := sound_den agree (fun den hD => drawOk agree (by kernel_rfl) hD) ext_nil
theorem held_marks (n : Nat) (hn : n ≤ 1000) : lheldIntS (marks n 1) 1 = some ((1 + n : Nat) : Int) := by
  have key : Ok (lheldIntS (marks n 1) 1) (fun r => r = ((1 + n : Nat) : Int)) := by
    unfold lheldIntS
    refine Ok.bind (Q1 := fun z : Int ⊕ Int => match z with
      | .inl _ => False
      | .inr r => r = ((1 + n : Nat) : Int)) (Ok.for (by rw [marks_len]; unfold maxLen; omega) (fun i s => s = ((1 + i : Nat) : Int)) rfl (fun i x s hx hs => ?_) (fun s hs => by rw [hs, marks_len])) (fun r _ hr => ?_)
    · have hi := (List.getElem?_eq_some_iff.1 hx).1
      rw [marks_len] at hi
      have hxv : x = ((1 + i : Nat) : Int) := by
        rw [marks, List.getElem?_map, List.getElem?_range hi] at hx
        simp only [Option.map_some, Option.some.injEq] at hx
        exact hx.symm
      have hb : (x != s) = false := by rw [hxv, hs]; simp
      rw [hb]
      refine Ok.ret ?_
      show IntKind.wrap .i64 (s + 1) = ((1 + (i + 1) : Nat) : Int)
      rw [hs]
      simp [IntKind.wrap, IntKind.bits, IntKind.signed]
      omega
    · cases r with
      | inl r => exact hr.elim
      | inr r => exact Ok.ret hr
  obtain ⟨r, hr, hq⟩ := key
  rw [hr, hq]
theorem eq_self (l : List Int) (hl : l.length ≤ 1000) : leqIntSx l l = some true := by
  have key : Ok (leqIntSx l l) (fun r => r = true) := by
    unfold leqIntSx
    refine Ok.br (fun c => ?_) (fun _ => Ok.bind (Q1 := fun z : Unit ⊕ Unit => z = .inr ()) (Ok.for (by unfold maxLen; omega) (fun _ _ => True) trivial (fun i x s hx _ => ?_) (fun _ _ => rfl)) (fun r _ hr => ?_))
    · simp at c
    · refine Ok.bind (Q1 := fun y => y = x) ⟨x, getI_nat hx, rfl⟩ (fun y _ hy => ?_)
      rw [hy, show (x != x) = false by simp]
      exact Ok.ret trivial
    · rw [hr]; exact Ok.ret rfl
  obtain ⟨r, hr, hq⟩ := key
  rw [hr, hq]
theorem d_held (n : Nat) (hn : n ≤ 1000) : D1 9 [.sl 1 true (rInt (marks n 1)), .int .i64 1] = some (.int .i64 ((1 + n : Nat) : Int)) :=
  fnok_some okd9 (show F9 V (rInt (marks n 1)) 1 (fun y => some (.int .i64 y)) = _ from ei_lheldIntS (marks n 1) 1 (fun y => some (V.int .i64 y)) _ (held_marks n hn))
theorem d_eq (l : List Int) (hl : l.length ≤ 1000) : D1 7 [.sl 1 true (rInt l), .sl 1 true (rInt l)] = some (.bool true) :=
  fnok_some okd7 (show F7 V (rInt l) (rInt l) (fun y => some (.bool y)) = _ from ei_leqIntSx l l (fun y => some (V.bool y)) _ (eq_self l hl))

theorem both3 (n : Int) : ∃ l, sCutsOf n = some l ∧ iCutsOf n = some l ∧ 0 < l.length ∧ l.length ≤ 1000 := by
  have hs : ∃ r, sl35Seed n = some r := by
    unfold sl35Seed
    by_cases c : n < 0
    · exact ⟨0, by rw [decide_eq_true c]; rfl⟩
    · exact ⟨Int.tmod n 1000, by rw [decide_eq_false c]; rfl⟩
  obtain ⟨s, hs⟩ := hs
  refine ⟨[(IntKind.wrap .i64 (1 + (Int.tmod s 40))), (IntKind.wrap .i64 (2 + (Int.tmod s 90))), (IntKind.wrap .i64 (3 + (Int.tmod s 150)))], ?_, ?_, by simp, by simp⟩
  · unfold sCutsOf
    rw [hs]
    rfl
  · unfold iCutsOf
    rw [show iseedOf n = some s from hs]
    rfl
theorem d_s3 {n : Int} {l : List Int} (h : sCutsOf n = some l) : D1 5 [.int .i64 n] = some (.own 0 1 .flat (rInt l)) :=
  fnok_some okd5 (show F5 V n (fun y => some (.own 0 1 .flat y)) = _ from ei_sCutsOf n (fun y => some (V.own 0 1 .flat y)) _ h)
theorem d_i3 {n : Int} {l : List Int} (h : iCutsOf n = some l) : D1 6 [.int .i64 n] = some (.own 0 1 .flat (rInt l)) :=
  fnok_some okd6 (show F6 V n (fun y => some (.own 0 1 .flat y)) = _ from ei_iCutsOf n (fun y => some (V.own 0 1 .flat y)) _ h)

theorem both4 (n : Int) : ∃ l, sChoicesOf n = some l ∧ iChoicesOf n = some l ∧ 0 < l.length ∧ l.length ≤ 1000 := by
  have hs : ∃ r, sl35Seed n = some r := by
    unfold sl35Seed
    by_cases c : n < 0
    · exact ⟨0, by rw [decide_eq_true c]; rfl⟩
    · exact ⟨Int.tmod n 1000, by rw [decide_eq_false c]; rfl⟩
  obtain ⟨s, hs⟩ := hs
  have key : Ok (sChoicesOf n) (fun l => l.length = 24) := by
    unfold sChoicesOf
    rw [hs, Option.bind_some]
    exact Ok.bind (Q1 := fun l => l.length = 24) (Ok.forI (by omega) (by unfold maxLen; omega) (fun i l => l.length = i) rfl (fun i l hi hl => Ok.chk (by omega) (Ok.ret (by simpa using hl))) (fun l hl => hl)) (fun r _ hr => Ok.ret hr)
  obtain ⟨l, h1, h2⟩ := key
  exact ⟨l, h1, h1, by omega, by omega⟩
theorem d_s4 {n : Int} {l : List Int} (h : sChoicesOf n = some l) : D1 10 [.int .i64 n] = some (.own 0 1 .flat (rInt l)) :=
  fnok_some okd10 (show F10 V n (fun y => some (.own 0 1 .flat y)) = _ from ei_sChoicesOf n (fun y => some (V.own 0 1 .flat y)) _ h)
theorem d_i4 {n : Int} {l : List Int} (h : iChoicesOf n = some l) : D1 11 [.int .i64 n] = some (.own 0 1 .flat (rInt l)) :=
  fnok_some okd11 (show F11 V n (fun y => some (.own 0 1 .flat y)) = _ from ei_iChoicesOf n (fun y => some (V.own 0 1 .flat y)) _ h)

end Go.Am
namespace Go.Proofs
open Go Go.Am Go.RowKit Go.Sort
set_option maxHeartbeats 2000000 in
set_option maxRecDepth 100000 in
theorem Try.mark_walk (bk o cap : Nat) (dd : Array Int) (w : World) (hH : Holds (Value.int .i64) w bk o dd) (hs : dd.size ≤ 1000) :
    Calls Try.prog 8 #[.slice (some ⟨bk, o, none⟩) dd.size cap, .int .i64 1] w fun e w' => e = .returned (.int .i64 ((1 + dd.size : Nat) : Int)) ∧ ∃ q d', d'.size = dd.size ∧ w' = putRow (Value.int .i64) (Sort.ahead w q) bk o d' ∧ ∀ i, i < dd.size → d'[i]! = ((1 + i : Nat) : Int) := by
  have HH : Aside (Holds (Value.int .i64) w bk o dd) := hH
  clear hH
  go_enter Try.func8, Try.ntmps8
  go_wp2
  go_loopg [1, 5] dd.size (fun g s1 s5 wr => ∃ (i q : Nat) (dk : Array Int), s1 = .int .i64 ((1 + i : Nat) : Int) ∧ s5 = .int .i64 (i : Int) ∧ i ≤ dd.size ∧ dd.size - i ≤ g ∧ dk.size = dd.size ∧ wr = putRow (Value.int .i64) (Sort.ahead w q) bk o dk ∧ Aside (∀ j, j < i → dk[j]! = ((1 + j : Nat) : Int)))
  case atStart => exact ⟨0, 0, dd, rfl, rfl, Nat.zero_le _, by omega, rfl, (putRow_self (Value.int .i64) w bk o dd HH.out).symm, fun j hj => absurd hj (Nat.not_lt_zero _)⟩
  case round =>
    obtain ⟨i, q, dk, rfl, rfl, hi, hg, hds, hwr, A⟩ := hrel
    have hHk : Holds (Value.int .i64) wr bk o dk := by rw [hwr]; exact holds_putRow (Value.int .i64) _ bk o dd dk (holds_ahead (Value.int .i64) w q bk o dd HH.out) hds
    have W : Aside (wr = putRow (Value.int .i64) (Sort.ahead w q) bk o dk) := hwr
    clear hwr
    by_cases hlt : i < dd.size
    · obtain ⟨c1, f1⟩ := hHk i (by omega)
      clear hHk
      generalize dk[i]! = old at c1
      go_wp2
      go_roundg (dd.size - (i + 1))
      case measure => omega
      case rel =>
        refine ⟨i + 1, q, dk.setIfInBounds i ((1 + i : Nat) : Int), by go_num, by go_num, by omega, Nat.le_refl _, by simp [hds], ?_, (show Aside _ from fun j hj => ?_)⟩
        · rw [W.out, ← putRow_set (Value.int .i64) _ bk o dk i _ (by omega)]
          rfl
        · by_cases e : j = i
          · subst e
            exact getElem!_set_same dk j _ (by omega)
          · rw [getElem!_set_other dk i j _ e]
            exact A.out j (by omega)
    · have : i = dd.size := by omega
      subst this
      clear hHk
      go_wp2
      go_ret
      exact ⟨rfl, q, dk, hds, W.out, A.out⟩

set_option maxHeartbeats 2000000 in
set_option maxRecDepth 100000 in
theorem Try.mark_ok3 : ExtOk Try.prog 3 mark1V := by
  intro args r h
  refine ⟨⟨Try.f3, Try.func3, rfl, by decide⟩, fun R w vals hg hR hl hv => ?_⟩
  unfold mark1V at h
  split at h
  · rename_i n
    split at h
    · injection h with h
      subst h
      obtain ⟨x, rfl, e0⟩ := vals1 hl
      obtain rfl := rd_int (hv 0 _ _ rfl e0)
      obtain ⟨l, h1, h2, h3, h4⟩ := both3 n
      have h := mark1_calls ans1 h3 h4 (d_s3 h1) (d_i3 h2) (d_eq l h4) (d_held l.length h4) Try.mark_walk (R := R) hg
      clear h1 h2 h3 h4 hv hl e0 hR hg
      generalize (1 + l.length) = p at h
      go_enter Try.func3, Try.ntmps3
      go_wp2_with (first
        | (go_at_call 5; refine h.mono ?_; clear h; rintro e w1 ⟨x1, rfl, h⟩)
        | (go_at_call 6; refine h.mono ?_; clear h; rintro e w2 ⟨x2, rfl, h⟩)
        | (go_at_call 7; refine h.mono ?_; clear h; rintro e w3 ⟨rfl, h⟩)
        | (go_at_call 8; refine h.mono ?_; clear h; rintro e w4 ⟨rfl, h⟩)
        | (go_at_call 9; refine h.mono ?_; clear h; rintro e w5 ⟨rfl, h⟩))
      go_ret
      exact h
    · cases h
  · cases h
set_option maxHeartbeats 2000000 in
set_option maxRecDepth 100000 in
theorem Try.mark_ok4 : ExtOk Try.prog 4 mark1V := by
  intro args r h
  refine ⟨⟨Try.f4, Try.func4, rfl, by decide⟩, fun R w vals hg hR hl hv => ?_⟩
  unfold mark1V at h
  split at h
  · rename_i n
    split at h
    · injection h with h
      subst h
      obtain ⟨x, rfl, e0⟩ := vals1 hl
      obtain rfl := rd_int (hv 0 _ _ rfl e0)
      obtain ⟨l, h1, h2, h3, h4⟩ := both4 n
      have h := mark1_calls ans1 h3 h4 (d_s4 h1) (d_i4 h2) (d_eq l h4) (d_held l.length h4) Try.mark_walk (R := R) hg
      clear h1 h2 h3 h4 hv hl e0 hR hg
      generalize (1 + l.length) = p at h
      go_enter Try.func4, Try.ntmps4
      go_wp2_with (first
        | (go_at_call 10; refine h.mono ?_; clear h; rintro e w1 ⟨x1, rfl, h⟩)
        | (go_at_call 11; refine h.mono ?_; clear h; rintro e w2 ⟨x2, rfl, h⟩)
        | (go_at_call 7; refine h.mono ?_; clear h; rintro e w3 ⟨rfl, h⟩)
        | (go_at_call 8; refine h.mono ?_; clear h; rintro e w4 ⟨rfl, h⟩)
        | (go_at_call 9; refine h.mono ?_; clear h; rintro e w5 ⟨rfl, h⟩))
      go_ret
      exact h
    · cases h
  · cases h
end Go.Proofs

/-
  What FormatLog computes, and the law.
-/
import Derived.Test.YtlbilfobehdidaaEl
import Derived.Test.YtlbilfobehdidaaAmOk
import Derived.Test.YtlbilfobehdidaaAmEq
import Derived.Test.YtlbilfobehdidaaAmMore
set_option linter.unusedVariables false
set_option linter.unusedSimpArgs false
namespace Go.Am
open Go
variable {β : Type}
theorem foldl_join (sep : List UInt8) (r : List (List UInt8)) (x : List UInt8) : r.foldl (fun a y => (a ++ sep) ++ y) x = x ++ Lib.joinTail sep r := by
  induction r generalizing x with
  | nil => simp [Lib.joinTail]
  | cons y r ih =>
    rw [List.foldl_cons, ih]
    simp [Lib.joinTail, List.append_assoc]
theorem join_len (sep : List UInt8) (l : List (List UInt8)) (M : Nat) (h : ∀ x ∈ l, x.length ≤ M) : (Lib.join l sep).length ≤ l.length * (M + sep.length) := by
  cases l with
  | nil => rw [Lib.join_nil]; simp
  | cons x r =>
    rw [Lib.join_cons]
    have hx := h x (by simp)
    have : ∀ r : List (List UInt8), (∀ y ∈ r, y.length ≤ M) → (Lib.joinTail sep r).length ≤ r.length * (M + sep.length) := by
      intro r
      induction r with
      | nil => intro _; simp [Lib.joinTail]
      | cons y r ih =>
        intro h
        have h1 := ih (fun z hz => h z (by simp [hz]))
        have h2 := h y (by simp)
        have e : Lib.joinTail sep (y :: r) = (sep ++ y) ++ Lib.joinTail sep r := by simp [Lib.joinTail]
        rw [e, List.length_append, List.length_append, List.length_cons, Nat.add_mul]
        omega
    have h3 := this r (fun y hy => h y (by simp [hy]))
    rw [List.length_append, List.length_cons, Nat.add_mul]
    omega
/-- The specification's Join: "-" for no element. -/
theorem spec_join (l : List (List UInt8)) (sep : List UInt8) (hl : l.length ≤ 1048576) (hs : sep.length ≤ 8) (h : ∀ x ∈ l, x.length ≤ 4194304) : sl39Join l sep = some (if l = [] then [45] else Lib.join l sep) := by
  unfold sl39Join
  cases l with
  | nil => rfl
  | cons x r =>
    have h0 : (((x :: r).length : Int) == 0) = false := by
      have : ((x :: r).length : Int) ≠ 0 := by simp; omega
      simpa using this
    rw [h0, if_neg (by simp)]
    rw [br_false]
    refine getI_bind0 (x := x) (l := x :: r) rfl ?_
    have hw := while_upto (x :: r) (body := fun (s2 : (List UInt8) × Int) => (
      br (decide (s2.2 < ((x :: r).length : Int))) (
        chk (s2.1.length + sep.length ≤ 9223372036854775807) <|
        (getI (x :: r) s2.2).bind fun (e3 : List UInt8) =>
        chk ((s2.1 ++ sep).length + e3.length ≤ 9223372036854775807) <|
        some (.inl (((s2.1 ++ sep) ++ e3), (IntKind.wrap .i64 (s2.2 + 1))))
      ) (
        some (.inr s2.1)
      )
    : Option (((List UInt8) × Int) ⊕ (List UInt8)))) (fun a y => (a ++ sep) ++ y) (fun a => a) (fun i a => a.length ≤ i * 4194312) (fun i y a hi ha => ?_) (fun a ha => ?_) r 1 x rfl (by simp) (by have := h x (by simp); omega)
    · show (whileE _ (x, 1)).bind _ = _
      rw [show ((1 : Nat) : Int) = 1 from rfl] at hw
      rw [hw]
      show some _ = some _
      rw [foldl_join, Lib.join_cons]
    · have hlt := (List.getElem?_eq_some_iff.1 hi).1
      have hy := h y (List.mem_of_getElem? hi)
      refine ⟨?_, ?_⟩
      · refine brE (by show (i : Int) < ((x :: r).length : Int); omega) ?_
        refine chkE (by show a.length + sep.length ≤ _; omega) (getI_bind hi (chkE (by simp only [List.length_append]; omega) ?_))
        show some (Sum.inl (_, IntKind.wrap .i64 ((i : Int) + 1))) = _
        rw [wrapS (by omega)]
      · simp only [List.length_append, Nat.add_mul]; omega
    · exact brN (by show ¬ ((x :: r).length : Int) < ((x :: r).length : Int); omega) rfl
theorem le_FnExactFormatLog (l : List (List UInt8)) (h : okL okS l) : lFnExactFormatLog l = some true := by
  refine E_sz (n := l.length + sumL List.length l) (if_pos ⟨by omega, by omega, h⟩) (fun m hm h0 hle => ?_)
  have hs : l.length + sumL List.length l ≤ 1048576 := by omega
  have hx : ∀ x ∈ l, x.length ≤ 1048576 := fun x hx => by have := sumL_mem (f := List.length) hx; omega
  have hj := spec_join l [59, 32] (by omega) (by simp) (fun x h => by have := hx x h; omega)
  have hi : iFormatLog l = some (if l = [] then [45] else Lib.join l [59, 32]) := by
    unfold iFormatLog
    by_cases c : l = []
    · subst c; rfl
    · have h0 : ((l.length : Int) == 0) = false := by
        have : l.length ≠ 0 := fun e => c (List.length_eq_zero_iff.1 e)
        have : (l.length : Int) ≠ 0 := by omega
        simpa using this
      rw [h0, if_neg c]
      have hjl := join_len [59, 32] l 1048576 hx
      simp only [List.length_cons, List.length_nil] at hjl
      show (joinE l [59, 32]).bind _ = _
      unfold joinE
      rw [chk_pos ⟨by omega, by omega⟩]
      rfl
  have hsp : sFormatLog l = some (if l = [] then [45] else Lib.join l [59, 32]) := by unfold sFormatLog; rw [hj]; rfl
  exact E_bind (if_pos hs) (E_bind hsp (E_bind (if_pos hs) (E_bind hi (E_no (by simp) (E_bind (if_pos hs) (E_bind (if_pos h) (E_no (by simp) rfl)))))))
theorem law9 (a0 : List (List UInt8)) (o0 : okL okS a0) (k : Bool → Option β) : F9 β (rStr a0) k = k true :=
  ei_lFnExactFormatLog a0 k true (le_FnExactFormatLog a0 o0)
end Go.Am

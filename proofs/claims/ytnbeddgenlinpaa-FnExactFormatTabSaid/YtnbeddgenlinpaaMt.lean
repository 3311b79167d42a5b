/-
  What FormatTab computes, and the law.
-/
import Derived.Test.YtnbeddgenlinpaaEt
import Derived.Test.YtnbeddgenlinpaaAmOk
import Derived.Test.YtnbeddgenlinpaaAmEq
import Derived.Test.YtnbeddgenlinpaaAmMore
set_option linter.unusedVariables false
set_option linter.unusedSimpArgs false
namespace Go.Am
open Go
variable {β : Type}
theorem foldl_join (sep : List UInt8) (r : List (List UInt8)) (x : List UInt8) : r.foldl (fun a y => (a ++ sep) ++ y) x = x ++ Lib.joinTail sep r := by
  induction r generalizing x with
  | nil => simp [Lib.joinTail]
  | cons y r ih =>
    rw [List.foldl_cons, ih]
    simp [Lib.joinTail, List.append_assoc]
theorem join_len (sep : List UInt8) (l : List (List UInt8)) (M : Nat) (h : ∀ x ∈ l, x.length ≤ M) : (Lib.join l sep).length ≤ l.length * (M + sep.length) := by
  cases l with
  | nil => rw [Lib.join_nil]; simp
  | cons x r =>
    rw [Lib.join_cons]
    have hx := h x (by simp)
    have : ∀ r : List (List UInt8), (∀ y ∈ r, y.length ≤ M) → (Lib.joinTail sep r).length ≤ r.length * (M + sep.length) := by
      intro r
      induction r with
      | nil => intro _; simp [Lib.joinTail]
      | cons y r ih =>
        intro h
        have h1 := ih (fun z hz => h z (by simp [hz]))
        have h2 := h y (by simp)
        have e : Lib.joinTail sep (y :: r) = (sep ++ y) ++ Lib.joinTail sep r := by simp [Lib.joinTail]
        rw [e, List.length_append, List.length_append, List.length_cons, Nat.add_mul]
        omega
    have h3 := this r (fun y hy => h y (by simp [hy]))
    rw [List.length_append, List.length_cons, Nat.add_mul]
    omega
/-- The specification's Join: "-" for no element. -/
theorem spec_join (l : List (List UInt8)) (sep : List UInt8) (hl : l.length ≤ 1048576) (hs : sep.length ≤ 8) (h : ∀ x ∈ l, x.length ≤ 4194304) : sl39Join l sep = some (if l = [] then [45] else Lib.join l sep) := by
  unfold sl39Join
  cases l with
  | nil => rfl
  | cons x r =>
    have h0 : (((x :: r).length : Int) == 0) = false := by
      have : ((x :: r).length : Int) ≠ 0 := by simp; omega
      simpa using this
    rw [h0, if_neg (by simp)]
    rw [br_false]
    refine getI_bind0 (x := x) (l := x :: r) rfl ?_
    have hw := while_upto (x :: r) (body := fun (s2 : (List UInt8) × Int) => (
      br (decide (s2.2 < ((x :: r).length : Int))) (
        chk (s2.1.length + sep.length ≤ 9223372036854775807) <|
        (getI (x :: r) s2.2).bind fun (e3 : List UInt8) =>
        chk ((s2.1 ++ sep).length + e3.length ≤ 9223372036854775807) <|
        some (.inl (((s2.1 ++ sep) ++ e3), (IntKind.wrap .i64 (s2.2 + 1))))
      ) (
        some (.inr s2.1)
      )
    : Option (((List UInt8) × Int) ⊕ (List UInt8)))) (fun a y => (a ++ sep) ++ y) (fun a => a) (fun i a => a.length ≤ i * 4194312) (fun i y a hi ha => ?_) (fun a ha => ?_) r 1 x rfl (by simp) (by have := h x (by simp); omega)
    · show (whileE _ (x, 1)).bind _ = _
      rw [show ((1 : Nat) : Int) = 1 from rfl] at hw
      rw [hw]
      show some _ = some _
      rw [foldl_join, Lib.join_cons]
    · have hlt := (List.getElem?_eq_some_iff.1 hi).1
      have hy := h y (List.mem_of_getElem? hi)
      refine ⟨?_, ?_⟩
      · refine brE (by show (i : Int) < ((x :: r).length : Int); omega) ?_
        refine chkE (by show a.length + sep.length ≤ _; omega) (getI_bind hi (chkE (by simp only [List.length_append]; omega) ?_))
        show some (Sum.inl (_, IntKind.wrap .i64 ((i : Int) + 1))) = _
        rw [wrapS (by omega)]
      · simp only [List.length_append, Nat.add_mul]; omega
    · exact brN (by show ¬ ((x :: r).length : Int) < ((x :: r).length : Int); omega) rfl
theorem ok_IsName (s : List UInt8) (h : okS s) : Ok (iIsName s) (fun b => b = true → s.length ≤ 8) := by
  unfold iIsName
  refine Ok.bind (Q1 := fun _ => True) (Ok.for h (fun _ _ => True) trivial (fun i x s _ _ => ?_) (fun _ _ => trivial)) (fun r _ _ => ?_)
  · exact Ok.br (fun _ => Ok.ret trivial) (fun _ => Ok.br (fun _ => Ok.ret trivial) (fun _ => Ok.ret trivial))
  · cases r with
    | inl r => exact Ok.ret (fun h => by cases h)
    | inr r => exact Ok.bind (Q1 := fun b => b = true → s.length ≤ 8) (Ok.br (fun _ => Ok.ret (fun h => by have := of_decide_eq_true h; omega)) (fun _ => Ok.ret (fun h => by cases h))) (fun r _ h => Ok.ret h)
theorem ok_IsAddr (a : TAddr) (h : a.ok) : Ok (iIsAddr a) (fun b => b = true → a.xHost.length ≤ 8 ∧ a.xPath.length ≤ 8) := by
  obtain ⟨h1, h2, _⟩ := h
  exact Ok.bind (ok_IsName _ h1) (fun r _ hr => Ok.br (fun e => Ok.bind (ok_IsName _ h2) (fun r _ hr2 => Ok.ret (fun e2 => ⟨hr e, hr2 e2⟩))) (fun _ => Ok.ret (fun h => by cases h)))
theorem ok_FormatAddr (a : TAddr) (h : a.ok) : Ok (iFormatAddr a) (fun r => r.length ≤ 17) := by
  refine Ok.bind (ok_IsAddr a h) (fun r _ hr => Ok.br (fun _ => Ok.ret (by simp)) (fun hb => ?_))
  obtain ⟨h1, h2⟩ := hr (by simpa using hb)
  exact Ok.chk (by omega) (Ok.chk (by simp; omega) (Ok.ret (by simp; omega)))
theorem ok_tabParts (t : TTab) (h : t.ok) (hs : t.xVisits.length ≤ 1048576) : ∃ l, sFormatTab t = (sl39Join l [32]).bind (fun r => some r) ∧ (iFormatTab t = if t.xVisits = [] then some [45] else (g_strings_Join l [32]).bind fun r => some r) ∧ l.length = t.xVisits.length ∧ ∀ x ∈ l, x.length ≤ 19 := by
  have key : Ok (forE t.xVisits (fun (i_1 : Nat) (x_1 : TVisit) (s1 : List (List UInt8)) => (
      (iFormatAddr x_1.xAddr).bind fun (r3 : List UInt8) =>
      br ((i_1 : Int) == t.xAt) (
        chk (1 + r3.length ≤ 9223372036854775807) <|
        br x_1.xKept (
          chk (([42] ++ r3 : List UInt8).length + 1 ≤ 9223372036854775807) <|
          chk ((s1.length + 1) * 16 ≤ 140737488355328 ∧ s1.length + 1 ≤ 140737488355328) <|
          some (.inl (s1 ++ [(([42] ++ r3) ++ [43])]))
        ) (
          chk ((s1.length + 1) * 16 ≤ 140737488355328 ∧ s1.length + 1 ≤ 140737488355328) <|
          some (.inl (s1 ++ [([42] ++ r3)]))
        )
      ) (
        br x_1.xKept (
          chk (r3.length + 1 ≤ 9223372036854775807) <|
          chk ((s1.length + 1) * 16 ≤ 140737488355328 ∧ s1.length + 1 ≤ 140737488355328) <|
          some (.inl (s1 ++ [(r3 ++ [43])]))
        ) (
          chk ((s1.length + 1) * 16 ≤ 140737488355328 ∧ s1.length + 1 ≤ 140737488355328) <|
          some (.inl (s1 ++ [r3]))
        )
      )
    : Option ((List (List UInt8)) ⊕ (List (List UInt8))))) (fun (s1 : List (List UInt8)) => (s1 : List (List UInt8))) ([] : List (List UInt8))) (fun l => l.length = t.xVisits.length ∧ ∀ x ∈ l, x.length ≤ 19) := by
    obtain ⟨h1, _⟩ := h
    refine Ok.for h1.1 (fun i l => l.length = i ∧ ∀ x ∈ l, x.length ≤ 19) ⟨rfl, by simp⟩ (fun i x l hx hi => ?_) (fun l hl => hl)
    obtain ⟨hi1, hi2⟩ := hi
    have hlt := (List.getElem?_eq_some_iff.1 hx).1
    have hv := h1.2 x (List.mem_of_getElem? hx)
    have push : ∀ y : List UInt8, y.length ≤ 19 → (l ++ [y]).length = i + 1 ∧ ∀ x ∈ l ++ [y], x.length ≤ 19 := fun y hy => ⟨by simp [hi1], fun x hx => by
      rcases List.mem_append.1 hx with hx | hx
      · exact hi2 x hx
      · rw [List.mem_singleton.1 hx]; exact hy⟩
    refine Ok.bind (ok_FormatAddr _ hv.1) (fun r _ hr => Ok.br (fun _ => Ok.chk (by omega) (Ok.br (fun _ => Ok.chk (by simp; omega) (Ok.chk (by omega) (Ok.ret (push _ (by simp; omega))))) (fun _ => Ok.chk (by omega) (Ok.ret (push _ (by simp; omega)))))) (fun _ => Ok.br (fun _ => Ok.chk (by omega) (Ok.chk (by omega) (Ok.ret (push _ (by simp; omega))))) (fun _ => Ok.chk (by omega) (Ok.ret (push _ (by omega))))))
  obtain ⟨l, h1, h2, h3⟩ := key
  refine ⟨l, ?_, ?_, h2, h3⟩
  · unfold sFormatTab
    exact (congrArg (fun o => Option.bind o _) h1)
  · unfold iFormatTab
    by_cases c : t.xVisits = []
    · rw [if_pos c, c]; rfl
    · have h0 : ((t.xVisits.length : Int) == 0) = false := by
        have : t.xVisits.length ≠ 0 := fun e => c (List.length_eq_zero_iff.1 e)
        have : (t.xVisits.length : Int) ≠ 0 := by omega
        simpa using this
      rw [h0, if_neg c]
      exact (congrArg (fun o => Option.bind o _) h1)
theorem eq_FormatTab (t : TTab) (h : t.ok) (hs : t.xVisits.length ≤ 1048576) : ∃ r, sFormatTab t = some r ∧ iFormatTab t = some r := by
  obtain ⟨l, h1, h2, h3, h4⟩ := ok_tabParts t h hs
  have hj := spec_join l [32] (by omega) (by simp) (fun x hx => by have := h4 x hx; omega)
  rw [hj] at h1
  refine ⟨if l = [] then [45] else Lib.join l [32], h1, ?_⟩
  rw [h2]
  by_cases c : t.xVisits = []
  · have : l = [] := List.length_eq_zero_iff.1 (by rw [h3, c]; rfl)
    rw [if_pos c, if_pos this]
  · have : l ≠ [] := fun e => c (List.length_eq_zero_iff.1 (by rw [← h3, e]; rfl))
    rw [if_neg c, if_neg this]
    have hjl := join_len [32] l 19 h4
    simp only [List.length_singleton] at hjl
    show (joinE l [32]).bind _ = _
    unfold joinE
    rw [chk_pos ⟨by omega, by omega⟩]
    rfl
theorem law8 (a0 : TTab) (o0 : a0.ok) (k : Bool → Option β) : F8 β (rows kVisit TVisit.row a0.xVisits) a0.xAt k = k true := by
  refine ei_lFnExactFormatTab a0 k true ?_
  refine E_sz (n := a0.size) (if_pos ⟨by omega, by omega, o0⟩) (fun m hm h0 hle => ?_)
  have hs : a0.size ≤ 1048576 := by omega
  have hv : a0.xVisits.length ≤ 1048576 := by unfold TTab.size at hs; omega
  obtain ⟨r, h1, h2⟩ := eq_FormatTab a0 o0 hv
  exact E_bind (if_pos hs) (E_bind h1 (E_bind (if_pos hs) (E_bind h2 (E_no (by simp) (E_bind (if_pos hs) (E_bind (if_pos o0) (E_no (by simp) rfl)))))))
end Go.Am

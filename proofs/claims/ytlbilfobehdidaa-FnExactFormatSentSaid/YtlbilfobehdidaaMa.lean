/-
  What the functions of CanPrepare, FileOf and FormatSent compute, and the laws between them.
-/
import Derived.Test.YtlbilfobehdidaaEa
import Derived.Test.YtlbilfobehdidaaAmOk
set_option linter.unusedVariables false
set_option linter.unusedSimpArgs false
namespace Go.Am
open Go
variable {β : Type}
theorem eq_IsAddr : sIsAddr = iIsAddr := rfl
theorem ok_IsName (s : List UInt8) (h : okS s) : Ok (iIsName s) (fun _ => True) := by
  unfold iIsName
  refine Ok.bind (Q1 := fun _ => True) (Ok.for h (fun _ _ => True) trivial (fun i x s _ _ => ?_) (fun _ _ => trivial)) (fun r _ _ => ?_)
  · exact Ok.br (fun _ => Ok.ret trivial) (fun _ => Ok.br (fun _ => Ok.ret trivial) (fun _ => Ok.ret trivial))
  · cases r with
    | inl r => exact Ok.ret trivial
    | inr r => exact Ok.bind (Q1 := fun _ => True) (Ok.br (fun _ => Ok.ret trivial) (fun _ => Ok.ret trivial)) (fun r _ _ => Ok.ret trivial)
theorem ok_IsAddr (a : TAddr) (h : a.ok) : Ok (iIsAddr a) (fun _ => True) := by
  obtain ⟨h1, h2, _⟩ := h
  exact Ok.bind (ok_IsName _ h1) (fun r _ _ => Ok.br (fun _ => Ok.bind (ok_IsName _ h2) (fun r _ _ => Ok.ret trivial)) (fun _ => Ok.ret trivial))
theorem ok_CanPrepare (top : List UInt8) (a : TAddr) (h : a.ok) : Ok (iCanPrepare top a) (fun _ => True) :=
  Ok.bind (ok_IsAddr a h) (fun r _ _ => Ok.br (fun _ => Ok.ret trivial) (fun _ => Ok.ret trivial))
theorem law4 (a0 : List UInt8) (a1 : TAddr) (o0 : okS a0) (o1 : a1.ok) (k : Bool → Option β) : F4 β a0 a1.xHost a1.xPath k = k true := by
  refine ei_lFnExactCanPrepare a0 a1 k true ?_
  unfold lFnExactCanPrepare
  refine E_big (fun _ => E_sz (n := a1.size) (if_pos ⟨by omega, by omega, o1⟩) (fun m hm h0 hle => ?_))
  have hs : a1.size ≤ 1048576 := by omega
  obtain ⟨r, hr, _⟩ := ok_CanPrepare a0 a1 o1
  refine E_bind (if_pos hs) (E_bind (show sCanPrepare a0 a1 = some r from hr) (E_bind (if_pos hs) (E_bind hr (E_no (by simp) rfl))))
theorem eq_FileOf (n : Int) : ∃ r, sFileOf n = some r ∧ iFileOf n = some r ∧ r.ok := by
  by_cases h : 0 ≤ n ∧ n ≤ 5
  · obtain ⟨h1, h2⟩ := h
    have : n = 0 ∨ n = 1 ∨ n = 2 ∨ n = 3 ∨ n = 4 ∨ n = 5 := by omega
    have ok : ∀ r : TResponse, r.xBody.length ≤ 50 → r.xPolicy.length ≤ 50 → okI r.xStatus → okI r.xKind → okI r.xAge → r.ok := by
      intro r h1 h2 h3 h4 h5
      refine ⟨h3, h4, ?_, h5, trivial, ?_, trivial⟩
      · unfold okS maxLen; omega
      · unfold okS maxLen; omega
    rcases this with rfl | rfl | rfl | rfl | rfl | rfl <;> exact ⟨_, rfl, rfl, ok _ (by decide) (by decide) ⟨by decide, by decide⟩ ⟨by decide, by decide⟩ ⟨by decide, by decide⟩⟩
  · have e1 : sl1In n 0 5 = some false := by
      unfold sl1In
      by_cases c : n ≥ 0
      · rw [decide_eq_true c]; show some (decide (n ≤ 5)) = _; rw [decide_eq_false (by omega)]
      · rw [decide_eq_false c]; rfl
    refine ⟨⟨404, 1, [], 0, false, []⟩, ?_, ?_, ⟨⟨by decide, by decide⟩, ⟨by decide, by decide⟩, (Nat.zero_le _), ⟨by decide, by decide⟩, trivial, (Nat.zero_le _), trivial⟩⟩
    · unfold sFileOf; rw [e1]; rfl
    · unfold iFileOf; rw [show iInRange n 0 (IntKind.wrap .i64 ((6 : Int) - 1)) = some false from e1]; rfl
theorem law5 (a0 : Int) (o0 : okI a0) (k : Bool → Option β) : F5 β a0 k = k true := by
  refine ei_lFnExactFileOf a0 k true ?_
  obtain ⟨r, h1, h2, h3⟩ := eq_FileOf a0
  exact E_bind h1 (E_bind h2 (E_bind (if_pos h3) (E_no (by simp) rfl)))
theorem ok_FormatAddr (a : TAddr) (h : a.ok) (hs : a.size ≤ 1048576) : Ok (iFormatAddr a) (fun r => r.length ≤ 1048577) := by
  unfold TAddr.size at hs
  refine Ok.bind (ok_IsAddr a h) (fun r _ _ => Ok.br (fun _ => Ok.ret (by simp)) (fun _ => Ok.chk (by omega) (Ok.chk (by simp; omega) (Ok.ret (by simp; omega)))))
theorem ok_FormatSent (s : TSent) (h : s.ok) (hs : s.size ≤ 1048576) : Ok (iFormatSent s) (fun _ => True) := by
  unfold TSent.size at hs
  obtain ⟨h1, h2, _⟩ := h
  refine Ok.chk (by omega) (Ok.bind (ok_FormatAddr _ h2 (by omega)) (fun r _ hr => Ok.chk (by simp; omega) (Ok.br (fun _ => Ok.chk (by simp; omega) (Ok.ret trivial)) (fun _ => Ok.ret trivial))))
theorem law8 (a0 : TSent) (o0 : a0.ok) (k : Bool → Option β) : F8 β a0.xTop a0.xTo.xHost a0.xTo.xPath a0.xGuess k = k true := by
  refine ei_lFnExactFormatSent a0 k true ?_
  refine E_sz (n := a0.size) (if_pos ⟨by omega, by omega, o0⟩) (fun m hm h0 hle => ?_)
  have hs : a0.size ≤ 1048576 := by omega
  obtain ⟨r, hr, _⟩ := ok_FormatSent a0 o0 hs
  exact E_bind (if_pos hs) (E_bind (show sFormatSent a0 = some r from hr) (E_bind (if_pos hs) (E_bind hr (E_no (by simp) rfl))))
end Go.Am

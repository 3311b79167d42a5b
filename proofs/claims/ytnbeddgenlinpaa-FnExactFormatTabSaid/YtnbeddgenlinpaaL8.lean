/-
  Proved: Rows.FnExactFormatTabSaid: laws.FnExactFormatTab returns true for all arguments, and leaves what it was handed as it was.
-/
import Derived.Test.YtnbeddgenlinpaaRows
import Derived.Test.YtnbeddgenlinpaaMt
import Derived.WalkKit
import Derived.ProofKit
namespace Go.Proofs.Ytnbeddgenlinpaa.fnExactFormatTab
open Go Go.Am Go.ChangeShapes Go.WideShapes Go.ChangeAt Go.RowKit
set_option linter.unusedVariables false
set_option linter.unusedSimpArgs false
theorem own : ownKnob Try.prog.godebug = none := by kernel_rfl
theorem told : ∀ vs, LawArgs Try.prog fl Try.f8.params.toList vs → D 8 vs = some (.bool true) := by
  intro vs h
  rw [Try.params8] at h
  have h0 : LawArgs Try.prog fl [53] vs := h
  clear h
  cases vs with
  | nil => exact h0.elim
  | cons v0 vs =>
  cases vs with
  | cons v vs => exact h0.2.elim
  | nil =>
    obtain ⟨n0, us0, c0, e0⟩ := h0.1
    obtain ⟨a0, o0, z0⟩ := Tab_open c0
    rw [pack_struct Try.underlying53, z0] at e0
    subst e0
    obtain ⟨r, h3, h4⟩ := ok8 V [.agg [.sl 25 false (rows kVisit TVisit.row a0.xVisits), .int .i64 a0.xAt]] some (.bool true) (by
      show wrap s8 (G8 F8) V (argsEnc s8 (((rows kVisit TVisit.row a0.xVisits), a0.xAt, ()), ())) some = _
      unfold wrap
      rw [show argsDec s8 (argsEnc s8 (((rows kVisit TVisit.row a0.xVisits), a0.xAt, ()), ())) = some (((rows kVisit TVisit.row a0.xVisits), a0.xAt, ()), ()) from rfl]
      exact law8 a0 o0 _)
    rw [h3, h4]
set_option maxRecDepth 100000 in
theorem lifted (os : Os) (started : os.Started) (H : Type) (enc : TypeId × Value → H) :
    ReturnsInHanded {} Try.checked os 8 .any (Rows.fnExactFormatTabSpec.pre6 enc Try.prog Try.f8 Rows.fnExactFormatTabRow.domain false) (Rows.fnExactFormatTabSpec.post enc Try.prog Try.f8 false true false false) := by
  refine returnsInHanded_of_change (C := Try.checked) own started (by kernel_rfl) Try.func8
    (ChangeSpec.witness6 (enc := enc) (C := Try.checked) false ⟨#[], #[.agg #[.slice none 0 0, .int .i64 0]], []⟩ 8 (by kernel_rfl) (by kernel_rfl) (by kernel_rfl) (by kernel_rfl)) ?_
  intro W base args ds gs before hval0 hW hcnd _
  refine law_calls (s := Rows.fnExactFormatTabSpec) (tb := 4) answers kids flArgs (by rw [Try.params8]; decide) rfl Try.underlying4 rfl ?_ told ⟨trivial, Nat.zero_le _⟩ hval0 hW
  intro ds hds
  match ds, hds with
  | [d0], _ => rfl
end Go.Proofs.Ytnbeddgenlinpaa.fnExactFormatTab

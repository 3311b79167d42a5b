/-
  Proved: Rows.FnExactChoicesOfSaid: laws.FnExactChoicesOf returns true for all arguments, and leaves what it was handed as it was.
-/
import Derived.Test.YtdalkeoadcnneaaRows
import Derived.Test.YtdalkeoadcnneaaMm
import Derived.WalkKit
import Derived.ProofKit
namespace Go.Proofs.Ytdalkeoadcnneaa.fnExactChoicesOf
open Go Go.Am Go.ChangeShapes Go.WideShapes Go.ChangeAt Go.RowKit
set_option linter.unusedVariables false
set_option linter.unusedSimpArgs false
theorem own : ownKnob Try.prog.godebug = none := by kernel_rfl
theorem told : ∀ vs, LawArgs Try.prog fl Try.f4.params.toList vs → D 4 vs = some (.bool true) := by
  intro vs h
  rw [Try.params4] at h
  have h0 : LawArgs Try.prog fl [3] vs := h
  clear h
  cases vs with
  | nil => exact h0.elim
  | cons v0 vs =>
  cases vs with
  | cons v vs => exact h0.2.elim
  | nil =>
    obtain ⟨n0, us0, c0, e0⟩ := h0.1
    obtain ⟨a0, z0, w0⟩ := cn_int c0 Try.underlying3
    have o0 := okI_of w0
    rw [pack_one (by rw [Try.underlying3]; intro fs hfs; cases hfs), z0, List.headD_cons] at e0
    subst e0
    obtain ⟨r, h3, h4⟩ := ok4 V [.int .i64 a0] some (.bool true) (by
      show wrap s4 (G4 F4) V (argsEnc s4 ((a0, ()), ())) some = _
      unfold wrap
      rw [show argsDec s4 (argsEnc s4 ((a0, ()), ())) = some ((a0, ()), ()) from rfl]
      exact law4 a0 o0 _)
    rw [h3, h4]
set_option maxRecDepth 100000 in
theorem lifted (os : Os) (started : os.Started) (H : Type) (enc : TypeId × Value → H) :
    ReturnsInHanded {} Try.checked os 4 .any (Rows.fnExactChoicesOfSpec.pre6 enc Try.prog Try.f4 Rows.fnExactChoicesOfRow.domain false) (Rows.fnExactChoicesOfSpec.post enc Try.prog Try.f4 false true false false) := by
  refine returnsInHanded_of_change (C := Try.checked) own started (by kernel_rfl) Try.func4
    (ChangeSpec.witness6 (enc := enc) (C := Try.checked) false ⟨#[], #[.int .i64 0], []⟩ 8 (by kernel_rfl) (by kernel_rfl) (by kernel_rfl) (by kernel_rfl)) ?_
  intro W base args ds gs before hval0 hW hcnd _
  refine law_calls (s := Rows.fnExactChoicesOfSpec) (tb := 4) answers kids flArgs (by rw [Try.params4]; decide) rfl Try.underlying4 rfl ?_ told ⟨trivial, Nat.zero_le _⟩ hval0 hW
  intro ds hds
  match ds, hds with
  | [d0], _ => rfl
end Go.Proofs.Ytdalkeoadcnneaa.fnExactChoicesOf

/-
  Proved: Rows.FnExactHiddenNeedsSaid: laws.FnExactHiddenNeeds returns true for all arguments, and leaves what it was handed as it was.
-/
import Derived.Test.YthncjpkjmgmdlaaGreatRows
import Derived.Test.YthncjpkjmgmdlaaGreatqhVh
import Derived.WalkKit
import Derived.ProofKit
namespace Go.Proofs.YthncjpkjmgmdlaaGreat.fnExactHiddenNeeds
open Go Go.Am Go.ChangeShapes Go.WideShapes Go.ChangeAt Go.RowKit
set_option linter.unusedVariables false
set_option linter.unusedSimpArgs false
theorem own : ownKnob Tryz.prog.godebug = none := by kernel_rfl
theorem told : ∀ vs, LawArgs Tryz.prog fl Tryz.f5.params.toList vs → D5 5 vs = some (.bool true) := by
 intro vs h
 rw [Tryz.params5] at h
 have h0 : LawArgs Tryz.prog fl [72] vs := h
 clear h
 cases vs with
 | nil => exact h0.elim
 | cons v0 vs =>
 cases vs with
 | cons v vs => exact h0.2.elim
 | nil =>
  obtain ⟨n0, us0, c0, e0⟩ := h0.1
  obtain ⟨a0, o0, z0⟩ := Hidden_open c0
  rw [pack_struct Tryz.underlying72, z0] at e0
  subst e0
  exact law5 a0 o0
set_option maxRecDepth 100000 in
theorem lifted (os : Os) (started : os.Started) (H : Type) (enc : TypeId × Value → H) :
  ReturnsInHanded {} Tryz.checked os 5 .any (Rows.fnExactHiddenNeedsSpec.pre6 enc Tryz.prog Tryz.f5 Rows.fnExactHiddenNeedsRow.domain false) (Rows.fnExactHiddenNeedsSpec.post enc Tryz.prog Tryz.f5 false true false false) := by
 refine returnsInHanded_of_change (C := Tryz.checked) own started (by kernel_rfl) Tryz.func5
  (ChangeSpec.witness6 (enc := enc) (C := Tryz.checked) false ⟨#[], #[.agg #[.bool false, .string ⟨#[]⟩, .string ⟨#[]⟩, .bool false, .slice none 0 0, .slice none 0 0, .slice none 0 0, .string ⟨#[]⟩, .string ⟨#[]⟩, .slice none 0 0, .bool false, .slice none 0 0, .slice none 0 0, .slice none 0 0, .slice none 0 0, .slice none 0 0, .int .i64 0, .int .i64 0, .int .i64 0, .int .i64 0, .slice none 0 0, .slice none 0 0, .bool false, .slice none 0 0, .slice none 0 0, .int .i64 0]], []⟩ 8 (by kernel_rfl) (by kernel_rfl) (by kernel_rfl) (by kernel_rfl)) ?_
 intro W base args ds gs before hval0 hW hcnd _
 refine law_calls (s := Rows.fnExactHiddenNeedsSpec) (tb := 4) answers5 kids flArgs (by rw [Tryz.params5]; decide) rfl Tryz.underlying4 rfl ?_ told ⟨trivial, Nat.zero_le _⟩ hval0 hW
 intro ds hds
 match ds, hds with
 | [d0], _ => rfl
end Go.Proofs.YthncjpkjmgmdlaaGreat.fnExactHiddenNeeds

/-
  Proved: Rows.FnExactStandardServersSaid: laws.FnExactStandardServers returns true for all arguments, and leaves what it was handed as it was.
-/
import Derived.Test.YtoljfpgnhfkdcaaRows
import Derived.Test.YtoljfpgnhfkdcaavVz
import Derived.WalkKit
import Derived.ProofKit
namespace Go.Proofs.Ytoljfpgnhfkdcaa.fnExactStandardServers
open Go Go.Am Go.ChangeShapes Go.WideShapes Go.ChangeAt Go.RowKit
set_option linter.unusedVariables false
set_option linter.unusedSimpArgs false
theorem own : ownKnob Try.prog.godebug = none := by kernel_rfl
theorem told : ∀ vs, LawArgs Try.prog fl Try.f3.params.toList vs → D3 3 vs = some (.bool true) := by
 intro vs h
 rw [Try.params3] at h
 have h0 : LawArgs Try.prog fl [] vs := h
 clear h
 cases vs with
 | cons v vs => exact h0.elim
 | nil =>
  exact law3
set_option maxRecDepth 100000 in
theorem lifted (os : Os) (started : os.Started) (H : Type) (enc : TypeId × Value → H) :
  ReturnsInHanded {} Try.checked os 3 .any (Rows.fnExactStandardServersSpec.pre6 enc Try.prog Try.f3 Rows.fnExactStandardServersRow.domain false) (Rows.fnExactStandardServersSpec.post enc Try.prog Try.f3 false true false false) := by
 refine returnsInHanded_of_change (C := Try.checked) own started (by kernel_rfl) Try.func3
  (ChangeSpec.witness6 (enc := enc) (C := Try.checked) false ⟨#[], #[], []⟩ 8 (by kernel_rfl) (by kernel_rfl) (by kernel_rfl) (by kernel_rfl)) ?_
 intro W base args ds gs before hval0 hW hcnd _
 refine law_calls (s := Rows.fnExactStandardServersSpec) (tb := 4) answers3 kids flArgs (by rw [Try.params3]; decide) rfl Try.underlying4 rfl ?_ told ⟨trivial, Nat.zero_le _⟩ hval0 hW
 intro ds hds
 match ds, hds with
 | [], _ => rfl
end Go.Proofs.Ytoljfpgnhfkdcaa.fnExactStandardServers

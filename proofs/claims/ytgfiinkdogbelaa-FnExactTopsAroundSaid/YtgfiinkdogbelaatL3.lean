/-
  Proved: Rows.FnExactTopsAroundSaid: laws.FnExactTopsAround returns true for all arguments, and leaves what it was handed as it was.
-/
import Derived.Test.YtgfiinkdogbelaaRows
import Derived.Test.YtgfiinkdogbelaatVa
import Derived.WalkKit
import Derived.ProofKit
namespace Go.Proofs.Ytgfiinkdogbelaa.fnExactTopsAround
open Go Go.Am Go.ChangeShapes Go.WideShapes Go.ChangeAt Go.RowKit
set_option linter.unusedVariables false
set_option linter.unusedSimpArgs false
theorem own : ownKnob Try.prog.godebug = none := by kernel_rfl
theorem told : ∀ vs, LawArgs Try.prog fl Try.f3.params.toList vs → D3 3 vs = some (.bool true) := by
 intro vs h
 rw [Try.params3] at h
 have h0 : LawArgs Try.prog fl [28, 9] vs := h
 clear h
 cases vs with
 | nil => exact h0.elim
 | cons v0 vs =>
 cases vs with
 | nil => exact h0.2.elim
 | cons v1 vs =>
 cases vs with
 | cons v vs => exact h0.2.2.elim
 | nil =>
  obtain ⟨n0, us0, c0, e0⟩ := h0.1
  obtain ⟨a0, o0, z0⟩ := Net_open c0
  rw [pack_struct Try.underlying28, z0] at e0
  subst e0
  obtain ⟨n1, us1, c1, e1⟩ := h0.2.1
  obtain ⟨a1, z1, o1⟩ := cn_str c1 Try.underlying9
  rw [pack_one (by rw [Try.underlying9]; intro fs hfs; cases hfs), z1, List.headD_cons] at e1
  subst e1
  exact law3 a0 a1 o0 o1
set_option maxRecDepth 100000 in
theorem lifted (os : Os) (started : os.Started) (H : Type) (enc : TypeId × Value → H) :
  ReturnsInHanded {} Try.checked os 3 .any (Rows.fnExactTopsAroundSpec.pre6 enc Try.prog Try.f3 Rows.fnExactTopsAroundRow.domain false) (Rows.fnExactTopsAroundSpec.post enc Try.prog Try.f3 false true false false) := by
 refine returnsInHanded_of_change (C := Try.checked) own started (by kernel_rfl) Try.func3
  (ChangeSpec.witness6 (enc := enc) (C := Try.checked) false ⟨#[], #[.agg #[.slice none 0 0, .slice none 0 0, .slice none 0 0, .int .i64 0], .string ⟨#[]⟩], []⟩ 8 (by kernel_rfl) (by kernel_rfl) (by kernel_rfl) (by kernel_rfl)) ?_
 intro W base args ds gs before hval0 hW hcnd _
 refine law_calls (s := Rows.fnExactTopsAroundSpec) (tb := 4) answers3 kids flArgs (by rw [Try.params3]; decide) rfl Try.underlying4 rfl ?_ told ⟨trivial, Nat.zero_le _⟩ hval0 hW
 intro ds hds
 match ds, hds with
 | [d0, d1], _ => rfl
end Go.Proofs.Ytgfiinkdogbelaa.fnExactTopsAround

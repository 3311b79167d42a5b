/-
  Proved: Rows.FnExactTabSoundSaid: laws.FnExactTabSound returns true for all arguments, and leaves what it was handed as it was.
-/
import Derived.Test.YtlgbgnlpbnhhfaaGreatRows
import Derived.Test.YtlgbgnlpbnhhfaaGreatMt
import Derived.WalkKit
import Derived.ProofKit
namespace Go.Proofs.YtlgbgnlpbnhhfaaGreat.fnExactTabSound
open Go Go.Am Go.ChangeShapes Go.WideShapes Go.ChangeAt Go.RowKit
set_option linter.unusedVariables false
set_option linter.unusedSimpArgs false
theorem own : ownKnob Tryz.prog.godebug = none := by kernel_rfl
theorem told : ∀ vs, LawArgs Tryz.prog fl Tryz.f6.params.toList vs → D 6 vs = some (.bool true) := by
  intro vs h
  rw [Tryz.params6] at h
  have h0 : LawArgs Tryz.prog fl [87] vs := h
  clear h
  cases vs with
  | nil => exact h0.elim
  | cons v0 vs =>
  cases vs with
  | cons v vs => exact h0.2.elim
  | nil =>
    obtain ⟨n0, us0, c0, e0⟩ := h0.1
    obtain ⟨a0, o0, z0⟩ := Tab_open c0
    rw [pack_struct Tryz.underlying87, z0] at e0
    subst e0
    obtain ⟨r, h3, h4⟩ := ok6 V [.agg [.sl 25 false (rows kVisit TVisit.row a0.xVisits), .int .i64 a0.xAt]] some (.bool true) (by
      show wrap s6 (G6 F6) V (argsEnc s6 (((rows kVisit TVisit.row a0.xVisits), a0.xAt, ()), ())) some = _
      unfold wrap
      rw [show argsDec s6 (argsEnc s6 (((rows kVisit TVisit.row a0.xVisits), a0.xAt, ()), ())) = some (((rows kVisit TVisit.row a0.xVisits), a0.xAt, ()), ()) from rfl]
      exact law6 a0 o0 _)
    rw [h3, h4]
set_option maxRecDepth 100000 in
theorem lifted (os : Os) (started : os.Started) (H : Type) (enc : TypeId × Value → H) :
    ReturnsInHanded {} Tryz.checked os 6 .any (Rows.fnExactTabSoundSpec.pre6 enc Tryz.prog Tryz.f6 Rows.fnExactTabSoundRow.domain false) (Rows.fnExactTabSoundSpec.post enc Tryz.prog Tryz.f6 false true false false) := by
  refine returnsInHanded_of_change (C := Tryz.checked) own started (by kernel_rfl) Tryz.func6
    (ChangeSpec.witness6 (enc := enc) (C := Tryz.checked) false ⟨#[], #[.agg #[.slice none 0 0, .int .i64 0]], []⟩ 8 (by kernel_rfl) (by kernel_rfl) (by kernel_rfl) (by kernel_rfl)) ?_
  intro W base args ds gs before hval0 hW hcnd _
  refine law_calls (s := Rows.fnExactTabSoundSpec) (tb := 4) answers kids flArgs (by rw [Tryz.params6]; decide) rfl Tryz.underlying4 rfl ?_ told ⟨trivial, Nat.zero_le _⟩ hval0 hW
  intro ds hds
  match ds, hds with
  | [d0], _ => rfl
end Go.Proofs.YtlgbgnlpbnhhfaaGreat.fnExactTabSound

/-
  Proved: Rows.FnExactCanPrepareSaid: laws.FnExactCanPrepare returns true for all arguments, and leaves what it was handed as it was.
-/
import Derived.Test.YtlbilfobehdidaaRows
import Derived.Test.YtlbilfobehdidaaMa
import Derived.WalkKit
import Derived.ProofKit
namespace Go.Proofs.Ytlbilfobehdidaa.fnExactCanPrepare
open Go Go.Am Go.ChangeShapes Go.WideShapes Go.ChangeAt Go.RowKit
set_option linter.unusedVariables false
set_option linter.unusedSimpArgs false
theorem own : ownKnob Try.prog.godebug = none := by kernel_rfl
theorem told : ∀ vs, LawArgs Try.prog fl Try.f4.params.toList vs → D 4 vs = some (.bool true) := by
  intro vs h
  rw [Try.params4] at h
  have h0 : LawArgs Try.prog fl [9, 25] vs := h
  clear h
  cases vs with
  | nil => exact h0.elim
  | cons v0 vs =>
  cases vs with
  | nil => exact h0.2.elim
  | cons v1 vs =>
  cases vs with
  | cons v vs => exact h0.2.2.elim
  | nil =>
    obtain ⟨n0, us0, c0, e0⟩ := h0.1
    obtain ⟨a0, z0, o0⟩ := cn_str c0 Try.underlying9
    rw [pack_one (by rw [Try.underlying9]; intro fs hfs; cases hfs), z0, List.headD_cons] at e0
    subst e0
    obtain ⟨n1, us1, c1, e1⟩ := h0.2.1
    obtain ⟨a1, o1, z1⟩ := Addr_open c1
    rw [pack_struct Try.underlying25, z1] at e1
    subst e1
    obtain ⟨r, h3, h4⟩ := ok4 V [.str a0, .agg [.str a1.xHost, .str a1.xPath]] some (.bool true) (by
      show wrap s4 (G4 F4) V (argsEnc s4 ((a0, ()), (a1.xHost, a1.xPath, ()), ())) some = _
      unfold wrap
      rw [show argsDec s4 (argsEnc s4 ((a0, ()), (a1.xHost, a1.xPath, ()), ())) = some ((a0, ()), (a1.xHost, a1.xPath, ()), ()) from rfl]
      exact law4 a0 a1 o0 o1 _)
    rw [h3, h4]
set_option maxRecDepth 100000 in
theorem lifted (os : Os) (started : os.Started) (H : Type) (enc : TypeId × Value → H) :
    ReturnsInHanded {} Try.checked os 4 .any (Rows.fnExactCanPrepareSpec.pre6 enc Try.prog Try.f4 Rows.fnExactCanPrepareRow.domain false) (Rows.fnExactCanPrepareSpec.post enc Try.prog Try.f4 false true false false) := by
  refine returnsInHanded_of_change (C := Try.checked) own started (by kernel_rfl) Try.func4
    (ChangeSpec.witness6 (enc := enc) (C := Try.checked) false ⟨#[], #[.string ⟨#[]⟩, .agg #[.string ⟨#[]⟩, .string ⟨#[]⟩]], []⟩ 8 (by kernel_rfl) (by kernel_rfl) (by kernel_rfl) (by kernel_rfl)) ?_
  intro W base args ds gs before hval0 hW hcnd _
  refine law_calls (s := Rows.fnExactCanPrepareSpec) (tb := 4) answers kids flArgs (by rw [Try.params4]; decide) rfl Try.underlying4 rfl ?_ told hval0 hW
  intro ds hds
  match ds, hds with
  | [d0, d1], _ => rfl
end Go.Proofs.Ytlbilfobehdidaa.fnExactCanPrepare

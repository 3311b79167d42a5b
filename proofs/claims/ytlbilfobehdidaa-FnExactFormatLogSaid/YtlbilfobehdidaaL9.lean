/-
  Proved: Rows.FnExactFormatLogSaid: laws.FnExactFormatLog returns true for all arguments, and leaves what it was handed as it was.
-/
import Derived.Test.YtlbilfobehdidaaRows
import Derived.Test.YtlbilfobehdidaaMl
import Derived.WalkKit
import Derived.ProofKit
namespace Go.Proofs.Ytlbilfobehdidaa.fnExactFormatLog
open Go Go.Am Go.ChangeShapes Go.WideShapes Go.ChangeAt Go.RowKit
set_option linter.unusedVariables false
set_option linter.unusedSimpArgs false
theorem own : ownKnob Try.prog.godebug = none := by kernel_rfl
theorem told : ∀ vs, LawArgs Try.prog fl Try.f9.params.toList vs → D 9 vs = some (.bool true) := by
  intro vs h
  rw [Try.params9] at h
  have h0 : LawArgs Try.prog fl [47] vs := h
  clear h
  cases vs with
  | nil => exact h0.elim
  | cons v0 vs =>
  cases vs with
  | cons v vs => exact h0.2.elim
  | nil =>
    obtain ⟨n0, us0, c0, e0⟩ := h0.1
    obtain ⟨_, r0, z0, b0, w0⟩ := cn_rows1 c0 Try.underlying47 (by rw [Try.underlying9]; intro fs hfs; cases hfs)
    obtain ⟨a0, rfl, q0⟩ := rows1_of (kd := .str) (g := fun e => e) (ok := okS) (fun r hr => by
      obtain ⟨us, h1, h2⟩ := w0 r hr
      obtain ⟨e, h3, h4⟩ := cn_str h1 Try.underlying9
      exact ⟨e, h4, by rw [h2, h3]; rfl⟩)
    have o0 : okL okS a0 := ⟨by rw [rows1_len] at b0; exact b0, q0⟩
    rw [pack_one (by rw [Try.underlying47]; intro fs hfs; cases hfs), z0, cells9, show fl 9 = true from rfl, List.headD_cons] at e0
    subst e0
    obtain ⟨r, h3, h4⟩ := ok9 V [.sl 1 true (rStr a0)] some (.bool true) (by
      show wrap s9 (G9 F9) V (argsEnc s9 (((rStr a0), ()), ())) some = _
      unfold wrap
      rw [show argsDec s9 (argsEnc s9 (((rStr a0), ()), ())) = some (((rStr a0), ()), ()) from rfl]
      exact law9 a0 o0 _)
    rw [h3, h4]
set_option maxRecDepth 100000 in
theorem lifted (os : Os) (started : os.Started) (H : Type) (enc : TypeId × Value → H) :
    ReturnsInHanded {} Try.checked os 9 .any (Rows.fnExactFormatLogSpec.pre6 enc Try.prog Try.f9 Rows.fnExactFormatLogRow.domain false) (Rows.fnExactFormatLogSpec.post enc Try.prog Try.f9 false true false false) := by
  refine returnsInHanded_of_change (C := Try.checked) own started (by kernel_rfl) Try.func9
    (ChangeSpec.witness6 (enc := enc) (C := Try.checked) false ⟨#[], #[.slice none 0 0], []⟩ 8 (by kernel_rfl) (by kernel_rfl) (by kernel_rfl) (by kernel_rfl)) ?_
  intro W base args ds gs before hval0 hW hcnd _
  refine law_calls (s := Rows.fnExactFormatLogSpec) (tb := 4) answers kids flArgs (by rw [Try.params9]; decide) rfl Try.underlying4 rfl ?_ told ⟨trivial, Nat.zero_le _⟩ hval0 hW
  intro ds hds
  match ds, hds with
  | [d0], _ => rfl
end Go.Proofs.Ytlbilfobehdidaa.fnExactFormatLog

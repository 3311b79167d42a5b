/-
  Proved: Rows.FnExactGuessesSoundSaid: laws.FnExactGuessesSound returns true for all arguments, and leaves what it was handed as it was.
-/
import Derived.Test.YtnbeddgenlinpaaRows
import Derived.Test.YtnbeddgenlinpaaMb
import Derived.WalkKit
import Derived.ProofKit
namespace Go.Proofs.Ytnbeddgenlinpaa.fnExactGuessesSound
open Go Go.Am Go.ChangeShapes Go.WideShapes Go.ChangeAt Go.RowKit
set_option linter.unusedVariables false
set_option linter.unusedSimpArgs false
theorem own : ownKnob Try.prog.godebug = none := by kernel_rfl
theorem told : ∀ vs, LawArgs Try.prog fl Try.f5.params.toList vs → D 5 vs = some (.bool true) := by
  intro vs h
  rw [Try.params5] at h
  have h0 : LawArgs Try.prog fl [40] vs := h
  clear h
  cases vs with
  | nil => exact h0.elim
  | cons v0 vs =>
  cases vs with
  | cons v vs => exact h0.2.elim
  | nil =>
    obtain ⟨n0, us0, c0, e0⟩ := h0.1
    obtain ⟨a0, o0, z0⟩ := Net_open c0
    rw [pack_struct Try.underlying40, z0] at e0
    subst e0
    obtain ⟨r, h3, h4⟩ := ok5 V [.agg [.sl 2 false (rows kServer TServer.row a0.xServers), .sl 10 true (rows kEntry TEntry.row a0.xCache.xEntries), .sl 4 true (rows kSent TSent.row a0.xLog), .int .i64 a0.xNow]] some (.bool true) (by
      show wrap s5 (G5 F5) V (argsEnc s5 (((rows kServer TServer.row a0.xServers), (rows kEntry TEntry.row a0.xCache.xEntries), (rows kSent TSent.row a0.xLog), a0.xNow, ()), ())) some = _
      unfold wrap
      rw [show argsDec s5 (argsEnc s5 (((rows kServer TServer.row a0.xServers), (rows kEntry TEntry.row a0.xCache.xEntries), (rows kSent TSent.row a0.xLog), a0.xNow, ()), ())) = some (((rows kServer TServer.row a0.xServers), (rows kEntry TEntry.row a0.xCache.xEntries), (rows kSent TSent.row a0.xLog), a0.xNow, ()), ()) from rfl]
      exact law5 a0 o0 _)
    rw [h3, h4]
set_option maxRecDepth 100000 in
theorem lifted (os : Os) (started : os.Started) (H : Type) (enc : TypeId × Value → H) :
    ReturnsInHanded {} Try.checked os 5 .any (Rows.fnExactGuessesSoundSpec.pre6 enc Try.prog Try.f5 Rows.fnExactGuessesSoundRow.domain false) (Rows.fnExactGuessesSoundSpec.post enc Try.prog Try.f5 false true false false) := by
  refine returnsInHanded_of_change (C := Try.checked) own started (by kernel_rfl) Try.func5
    (ChangeSpec.witness6 (enc := enc) (C := Try.checked) false ⟨#[], #[.agg #[.slice none 0 0, .slice none 0 0, .slice none 0 0, .int .i64 0]], []⟩ 8 (by kernel_rfl) (by kernel_rfl) (by kernel_rfl) (by kernel_rfl)) ?_
  intro W base args ds gs before hval0 hW hcnd _
  refine law_calls (s := Rows.fnExactGuessesSoundSpec) (tb := 4) answers kids flArgs (by rw [Try.params5]; decide) rfl Try.underlying4 rfl ?_ told hval0 hW
  intro ds hds
  match ds, hds with
  | [d0], _ => rfl
theorem over : Rows.fnExactGuessesSoundRow.holds Try.pinned (OpenSpec.ofChange Rows.fnExactGuessesSoundSpec) :=
  OpenClaim.holds_of_wide 5 Try.f5 rfl rfl rfl rfl rfl rfl rfl ⟨rfl, rfl, rfl, rfl, rfl⟩ rfl rfl rfl rfl rfl (by kernel_rfl) Try.func5 (by kernel_rfl)
    (of_decide_eq_true (by kernel_rfl)) (by unfold Func.isWrapper; first | (rw [if_pos (by decide +kernel)]; kernel_rfl) | (rw [if_neg (by decide +kernel)]; exact ⟨rfl, rfl⟩))
    (fun os started H enc _ => lifted os started H enc)
theorem proved : Rows.FnExactGuessesSoundSaid :=
  over
#print axioms proved
end Go.Proofs.Ytnbeddgenlinpaa.fnExactGuessesSound

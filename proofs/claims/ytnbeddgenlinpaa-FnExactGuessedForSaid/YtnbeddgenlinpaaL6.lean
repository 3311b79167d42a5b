/-
  Proved: Rows.FnExactGuessedForSaid: laws.FnExactGuessedFor returns true for all arguments, and leaves what it was handed as it was.
-/
import Derived.Test.YtnbeddgenlinpaaRows
import Derived.Test.YtnbeddgenlinpaaMc
import Derived.WalkKit
import Derived.ProofKit
namespace Go.Proofs.Ytnbeddgenlinpaa.fnExactGuessedFor
open Go Go.Am Go.ChangeShapes Go.WideShapes Go.ChangeAt Go.RowKit
set_option linter.unusedVariables false
set_option linter.unusedSimpArgs false
theorem own : ownKnob Try.prog.godebug = none := by kernel_rfl
theorem told : ∀ vs, LawArgs Try.prog fl Try.f6.params.toList vs → D 6 vs = some (.bool true) := by
  intro vs h
  rw [Try.params6] at h
  have h0 : LawArgs Try.prog fl [40, 9] vs := h
  clear h
  cases vs with
  | nil => exact h0.elim
  | cons v0 vs =>
  cases vs with
  | nil => exact h0.2.elim
  | cons v1 vs =>
  cases vs with
  | cons v vs => exact h0.2.2.elim
  | nil =>
    obtain ⟨n0, us0, c0, e0⟩ := h0.1
    obtain ⟨a0, o0, z0⟩ := Net_open c0
    rw [pack_struct Try.underlying40, z0] at e0
    subst e0
    obtain ⟨n1, us1, c1, e1⟩ := h0.2.1
    obtain ⟨a1, z1, o1⟩ := cn_str c1 Try.underlying9
    rw [pack_one (by rw [Try.underlying9]; intro fs hfs; cases hfs), z1, List.headD_cons] at e1
    subst e1
    obtain ⟨r, h3, h4⟩ := ok6 V [.agg [.sl 2 false (rows kServer TServer.row a0.xServers), .sl 10 true (rows kEntry TEntry.row a0.xCache.xEntries), .sl 4 true (rows kSent TSent.row a0.xLog), .int .i64 a0.xNow], .str a1] some (.bool true) (by
      show wrap s6 (G6 F6) V (argsEnc s6 (((rows kServer TServer.row a0.xServers), (rows kEntry TEntry.row a0.xCache.xEntries), (rows kSent TSent.row a0.xLog), a0.xNow, ()), (a1, ()), ())) some = _
      unfold wrap
      rw [show argsDec s6 (argsEnc s6 (((rows kServer TServer.row a0.xServers), (rows kEntry TEntry.row a0.xCache.xEntries), (rows kSent TSent.row a0.xLog), a0.xNow, ()), (a1, ()), ())) = some (((rows kServer TServer.row a0.xServers), (rows kEntry TEntry.row a0.xCache.xEntries), (rows kSent TSent.row a0.xLog), a0.xNow, ()), (a1, ()), ()) from rfl]
      exact law6 a0 a1 o0 o1 _)
    rw [h3, h4]
set_option maxRecDepth 100000 in
theorem lifted (os : Os) (started : os.Started) (H : Type) (enc : TypeId × Value → H) :
    ReturnsInHanded {} Try.checked os 6 .any (Rows.fnExactGuessedForSpec.pre6 enc Try.prog Try.f6 Rows.fnExactGuessedForRow.domain false) (Rows.fnExactGuessedForSpec.post enc Try.prog Try.f6 false true false false) := by
  refine returnsInHanded_of_change (C := Try.checked) own started (by kernel_rfl) Try.func6
    (ChangeSpec.witness6 (enc := enc) (C := Try.checked) false ⟨#[], #[.agg #[.slice none 0 0, .slice none 0 0, .slice none 0 0, .int .i64 0], .string ⟨#[]⟩], []⟩ 8 (by kernel_rfl) (by kernel_rfl) (by kernel_rfl) (by kernel_rfl)) ?_
  intro W base args ds gs before hval0 hW hcnd _
  refine law_calls (s := Rows.fnExactGuessedForSpec) (tb := 4) answers kids flArgs (by rw [Try.params6]; decide) rfl Try.underlying4 rfl ?_ told hval0 hW
  intro ds hds
  match ds, hds with
  | [d0, d1], _ => rfl
theorem over : Rows.fnExactGuessedForRow.holds Try.pinned (OpenSpec.ofChange Rows.fnExactGuessedForSpec) :=
  OpenClaim.holds_of_wide 6 Try.f6 rfl rfl rfl rfl rfl rfl rfl ⟨rfl, rfl, rfl, rfl, rfl⟩ rfl rfl rfl rfl rfl (by kernel_rfl) Try.func6 (by kernel_rfl)
    (of_decide_eq_true (by kernel_rfl)) (by unfold Func.isWrapper; first | (rw [if_pos (by decide +kernel)]; kernel_rfl) | (rw [if_neg (by decide +kernel)]; exact ⟨rfl, rfl⟩))
    (fun os started H enc _ => lifted os started H enc)
theorem proved : Rows.FnExactGuessedForSaid :=
  over
#print axioms proved
end Go.Proofs.Ytnbeddgenlinpaa.fnExactGuessedFor

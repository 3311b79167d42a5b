/-
  Proved: Rows.FnExactSameViewSaid: laws.FnExactSameView returns true for all arguments, and leaves what it was handed as it was.
-/
import Derived.Test.YtkfcbnbmekljnaaRows
import Derived.Test.YtkfcbnbmekljnaaMw
import Derived.WalkKit
import Derived.ProofKit
namespace Go.Proofs.Ytkfcbnbmekljnaa.fnExactSameView
open Go Go.Am Go.ChangeShapes Go.WideShapes Go.ChangeAt Go.RowKit
set_option linter.unusedVariables false
set_option linter.unusedSimpArgs false
theorem own : ownKnob Try.prog.godebug = none := by kernel_rfl
theorem told : ∀ vs, LawArgs Try.prog fl Try.f4.params.toList vs → D 4 vs = some (.bool true) := by
  intro vs h
  rw [Try.params4] at h
  have h0 : LawArgs Try.prog fl [28, 28, 9] vs := h
  clear h
  cases vs with
  | nil => exact h0.elim
  | cons v0 vs =>
  cases vs with
  | nil => exact h0.2.elim
  | cons v1 vs =>
  cases vs with
  | nil => exact h0.2.2.elim
  | cons v2 vs =>
  cases vs with
  | cons v vs => exact h0.2.2.2.elim
  | nil =>
    obtain ⟨n0, us0, c0, e0⟩ := h0.1
    obtain ⟨a0, o0, z0⟩ := Net_open c0
    rw [pack_struct Try.underlying28, z0] at e0
    subst e0
    obtain ⟨n1, us1, c1, e1⟩ := h0.2.1
    obtain ⟨a1, o1, z1⟩ := Net_open c1
    rw [pack_struct Try.underlying28, z1] at e1
    subst e1
    obtain ⟨n2, us2, c2, e2⟩ := h0.2.2.1
    obtain ⟨a2, z2, o2⟩ := cn_str c2 Try.underlying9
    rw [pack_one (by rw [Try.underlying9]; intro fs hfs; cases hfs), z2, List.headD_cons] at e2
    subst e2
    obtain ⟨r, h3, h4⟩ := ok4 V [.agg [.sl 2 false (rows kServer TServer.row a0.xServers), .sl 10 true (rows kEntry TEntry.row a0.xCache.xEntries), .sl 4 true (rows kSent TSent.row a0.xLog), .int .i64 a0.xNow], .agg [.sl 2 false (rows kServer TServer.row a1.xServers), .sl 10 true (rows kEntry TEntry.row a1.xCache.xEntries), .sl 4 true (rows kSent TSent.row a1.xLog), .int .i64 a1.xNow], .str a2] some (.bool true) (by
      show wrap s4 (G4 F4) V (argsEnc s4 (((rows kServer TServer.row a0.xServers), (rows kEntry TEntry.row a0.xCache.xEntries), (rows kSent TSent.row a0.xLog), a0.xNow, ()), ((rows kServer TServer.row a1.xServers), (rows kEntry TEntry.row a1.xCache.xEntries), (rows kSent TSent.row a1.xLog), a1.xNow, ()), (a2, ()), ())) some = _
      unfold wrap
      rw [show argsDec s4 (argsEnc s4 (((rows kServer TServer.row a0.xServers), (rows kEntry TEntry.row a0.xCache.xEntries), (rows kSent TSent.row a0.xLog), a0.xNow, ()), ((rows kServer TServer.row a1.xServers), (rows kEntry TEntry.row a1.xCache.xEntries), (rows kSent TSent.row a1.xLog), a1.xNow, ()), (a2, ()), ())) = some (((rows kServer TServer.row a0.xServers), (rows kEntry TEntry.row a0.xCache.xEntries), (rows kSent TSent.row a0.xLog), a0.xNow, ()), ((rows kServer TServer.row a1.xServers), (rows kEntry TEntry.row a1.xCache.xEntries), (rows kSent TSent.row a1.xLog), a1.xNow, ()), (a2, ()), ()) from rfl]
      exact law4 a0 a1 a2 o0 o1 o2 _)
    rw [h3, h4]
set_option maxRecDepth 100000 in
theorem lifted (os : Os) (started : os.Started) (H : Type) (enc : TypeId × Value → H) :
    ReturnsInHanded {} Try.checked os 4 .any (Rows.fnExactSameViewSpec.pre6 enc Try.prog Try.f4 Rows.fnExactSameViewRow.domain false) (Rows.fnExactSameViewSpec.post enc Try.prog Try.f4 false true false false) := by
  refine returnsInHanded_of_change (C := Try.checked) own started (by kernel_rfl) Try.func4
    (ChangeSpec.witness6 (enc := enc) (C := Try.checked) false ⟨#[], #[.agg #[.slice none 0 0, .slice none 0 0, .slice none 0 0, .int .i64 0], .agg #[.slice none 0 0, .slice none 0 0, .slice none 0 0, .int .i64 0], .string ⟨#[]⟩], []⟩ 8 (by kernel_rfl) (by kernel_rfl) (by kernel_rfl) (by kernel_rfl)) ?_
  intro W base args ds gs before hval0 hW hcnd _
  refine law_calls (s := Rows.fnExactSameViewSpec) (tb := 4) answers kids flArgs (by rw [Try.params4]; decide) rfl Try.underlying4 rfl ?_ told ⟨trivial, Nat.zero_le _⟩ hval0 hW
  intro ds hds
  match ds, hds with
  | [d0, d1, d2], _ => rfl
end Go.Proofs.Ytkfcbnbmekljnaa.fnExactSameView

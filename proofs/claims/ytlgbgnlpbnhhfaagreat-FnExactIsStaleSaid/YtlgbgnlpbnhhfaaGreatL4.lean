/-
  Proved: Rows.FnExactIsStaleSaid: laws.FnExactIsStale returns true for all arguments, and leaves what it was handed as it was.
-/
import Derived.Test.YtlgbgnlpbnhhfaaGreatRows
import Derived.Test.YtlgbgnlpbnhhfaaGreatMs
import Derived.WalkKit
import Derived.ProofKit
namespace Go.Proofs.YtlgbgnlpbnhhfaaGreat.fnExactIsStale
open Go Go.Am Go.ChangeShapes Go.WideShapes Go.ChangeAt Go.RowKit
set_option linter.unusedVariables false
set_option linter.unusedSimpArgs false
theorem own : ownKnob Tryz.prog.godebug = none := by kernel_rfl
theorem told : ∀ vs, LawArgs Tryz.prog fl Tryz.f4.params.toList vs → D 4 vs = some (.bool true) := by
  intro vs h
  rw [Tryz.params4] at h
  have h0 : LawArgs Tryz.prog fl [68, 42] vs := h
  clear h
  cases vs with
  | nil => exact h0.elim
  | cons v0 vs =>
  cases vs with
  | nil => exact h0.2.elim
  | cons v1 vs =>
  cases vs with
  | cons v vs => exact h0.2.2.elim
  | nil =>
    obtain ⟨n0, us0, c0, e0⟩ := h0.1
    obtain ⟨a0, o0, z0⟩ := Net_open c0
    rw [pack_struct Tryz.underlying68, z0] at e0
    subst e0
    obtain ⟨n1, us1, c1, e1⟩ := h0.2.1
    obtain ⟨a1, o1, z1⟩ := Hidden_open c1
    rw [pack_struct Tryz.underlying42, z1] at e1
    subst e1
    obtain ⟨r, h3, h4⟩ := ok4 V [.agg [.sl 2 false (rows kServer TServer.row a0.xServers), .sl 10 true (rows kEntry TEntry.row a0.xCache.xEntries), .sl 4 true (rows kSent TSent.row a0.xLog), .int .i64 a0.xNow], .agg [.bool a1.xReady, .str a1.xPage.xAddr.xHost, .str a1.xPage.xAddr.xPath, .bool a1.xPage.xPolicy.xSet, .sl 1 true (rStr a1.xPage.xPolicy.xScripts), .sl 1 true (rStr a1.xPage.xPolicy.xStyles), .sl 1 true (rStr a1.xPage.xPolicy.xImages), .str a1.xPage.xPolicy.xNonce, .str a1.xPage.xTok.xRest, .sl 4 false (rows kToken TToken.row a1.xPage.xQueue), .bool a1.xPage.xEnded, .sl 4 false (rows kNode TNode.row a1.xPage.xBuilder.xNodes), .sl 1 true (rInt a1.xPage.xBuilder.xOpen), .sl 8 true (rows kSlot TSlot.row a1.xPage.xSlots), .sl 5 true (rows kModule TModule.row a1.xPage.xMods), .sl 2 true (rows kAddr TAddr.row a1.xPage.xEntries), .int .i64 a1.xPage.xBlock, .int .i64 a1.xPage.xInline, .int .i64 a1.xPage.xDeferred, .int .i64 a1.xPage.xEntered, .sl 2 true (rows kAddr TAddr.row a1.xPage.xRan), .sl 1 true (rStr a1.xPage.xLog), .bool a1.xPage.xLoaded, .sl 8 true (rows kKept TKept.row a1.xTaken), .sl 2 false (rows kServer TServer.row a1.xServers), .int .i64 a1.xNow]] some (.bool true) (by
      show wrap s4 (G4 F4) V (argsEnc s4 (((rows kServer TServer.row a0.xServers), (rows kEntry TEntry.row a0.xCache.xEntries), (rows kSent TSent.row a0.xLog), a0.xNow, ()), (a1.xReady, a1.xPage.xAddr.xHost, a1.xPage.xAddr.xPath, a1.xPage.xPolicy.xSet, (rStr a1.xPage.xPolicy.xScripts), (rStr a1.xPage.xPolicy.xStyles), (rStr a1.xPage.xPolicy.xImages), a1.xPage.xPolicy.xNonce, a1.xPage.xTok.xRest, (rows kToken TToken.row a1.xPage.xQueue), a1.xPage.xEnded, (rows kNode TNode.row a1.xPage.xBuilder.xNodes), (rInt a1.xPage.xBuilder.xOpen), (rows kSlot TSlot.row a1.xPage.xSlots), (rows kModule TModule.row a1.xPage.xMods), (rows kAddr TAddr.row a1.xPage.xEntries), a1.xPage.xBlock, a1.xPage.xInline, a1.xPage.xDeferred, a1.xPage.xEntered, (rows kAddr TAddr.row a1.xPage.xRan), (rStr a1.xPage.xLog), a1.xPage.xLoaded, (rows kKept TKept.row a1.xTaken), (rows kServer TServer.row a1.xServers), a1.xNow, ()), ())) some = _
      unfold wrap
      rw [show argsDec s4 (argsEnc s4 (((rows kServer TServer.row a0.xServers), (rows kEntry TEntry.row a0.xCache.xEntries), (rows kSent TSent.row a0.xLog), a0.xNow, ()), (a1.xReady, a1.xPage.xAddr.xHost, a1.xPage.xAddr.xPath, a1.xPage.xPolicy.xSet, (rStr a1.xPage.xPolicy.xScripts), (rStr a1.xPage.xPolicy.xStyles), (rStr a1.xPage.xPolicy.xImages), a1.xPage.xPolicy.xNonce, a1.xPage.xTok.xRest, (rows kToken TToken.row a1.xPage.xQueue), a1.xPage.xEnded, (rows kNode TNode.row a1.xPage.xBuilder.xNodes), (rInt a1.xPage.xBuilder.xOpen), (rows kSlot TSlot.row a1.xPage.xSlots), (rows kModule TModule.row a1.xPage.xMods), (rows kAddr TAddr.row a1.xPage.xEntries), a1.xPage.xBlock, a1.xPage.xInline, a1.xPage.xDeferred, a1.xPage.xEntered, (rows kAddr TAddr.row a1.xPage.xRan), (rStr a1.xPage.xLog), a1.xPage.xLoaded, (rows kKept TKept.row a1.xTaken), (rows kServer TServer.row a1.xServers), a1.xNow, ()), ())) = some (((rows kServer TServer.row a0.xServers), (rows kEntry TEntry.row a0.xCache.xEntries), (rows kSent TSent.row a0.xLog), a0.xNow, ()), (a1.xReady, a1.xPage.xAddr.xHost, a1.xPage.xAddr.xPath, a1.xPage.xPolicy.xSet, (rStr a1.xPage.xPolicy.xScripts), (rStr a1.xPage.xPolicy.xStyles), (rStr a1.xPage.xPolicy.xImages), a1.xPage.xPolicy.xNonce, a1.xPage.xTok.xRest, (rows kToken TToken.row a1.xPage.xQueue), a1.xPage.xEnded, (rows kNode TNode.row a1.xPage.xBuilder.xNodes), (rInt a1.xPage.xBuilder.xOpen), (rows kSlot TSlot.row a1.xPage.xSlots), (rows kModule TModule.row a1.xPage.xMods), (rows kAddr TAddr.row a1.xPage.xEntries), a1.xPage.xBlock, a1.xPage.xInline, a1.xPage.xDeferred, a1.xPage.xEntered, (rows kAddr TAddr.row a1.xPage.xRan), (rStr a1.xPage.xLog), a1.xPage.xLoaded, (rows kKept TKept.row a1.xTaken), (rows kServer TServer.row a1.xServers), a1.xNow, ()), ()) from rfl]
      exact law4 a0 a1 o0 o1 _)
    rw [h3, h4]
set_option maxRecDepth 100000 in
theorem lifted (os : Os) (started : os.Started) (H : Type) (enc : TypeId × Value → H) :
    ReturnsInHanded {} Tryz.checked os 4 .any (Rows.fnExactIsStaleSpec.pre6 enc Tryz.prog Tryz.f4 Rows.fnExactIsStaleRow.domain false) (Rows.fnExactIsStaleSpec.post enc Tryz.prog Tryz.f4 false true false false) := by
  refine returnsInHanded_of_change (C := Tryz.checked) own started (by kernel_rfl) Tryz.func4
    (ChangeSpec.witness6 (enc := enc) (C := Tryz.checked) false ⟨#[], #[.agg #[.slice none 0 0, .slice none 0 0, .slice none 0 0, .int .i64 0], .agg #[.bool false, .string ⟨#[]⟩, .string ⟨#[]⟩, .bool false, .slice none 0 0, .slice none 0 0, .slice none 0 0, .string ⟨#[]⟩, .string ⟨#[]⟩, .slice none 0 0, .bool false, .slice none 0 0, .slice none 0 0, .slice none 0 0, .slice none 0 0, .slice none 0 0, .int .i64 0, .int .i64 0, .int .i64 0, .int .i64 0, .slice none 0 0, .slice none 0 0, .bool false, .slice none 0 0, .slice none 0 0, .int .i64 0]], []⟩ 8 (by kernel_rfl) (by kernel_rfl) (by kernel_rfl) (by kernel_rfl)) ?_
  intro W base args ds gs before hval0 hW hcnd _
  refine law_calls (s := Rows.fnExactIsStaleSpec) (tb := 4) answers kids flArgs (by rw [Tryz.params4]; decide) rfl Tryz.underlying4 rfl ?_ told ⟨trivial, Nat.zero_le _⟩ hval0 hW
  intro ds hds
  match ds, hds with
  | [d0, d1], _ => rfl
end Go.Proofs.YtlgbgnlpbnhhfaaGreat.fnExactIsStale

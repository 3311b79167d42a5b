/-
  Proved: Rows.FnExactEqualHiddenSaid: laws.FnExactEqualHidden returns true for all arguments, and leaves what it was handed as it was.
-/
import Derived.Test.YtlgbgnlpbnhhfaaGreatRows
import Derived.Test.YtlgbgnlpbnhhfaaGreatMh
import Derived.WalkKit
import Derived.ProofKit
namespace Go.Proofs.YtlgbgnlpbnhhfaaGreat.fnExactEqualHidden
open Go Go.Am Go.ChangeShapes Go.WideShapes Go.ChangeAt Go.RowKit
set_option linter.unusedVariables false
set_option linter.unusedSimpArgs false
theorem own : ownKnob Tryz.prog.godebug = none := by kernel_rfl
theorem told : ∀ vs, LawArgs Tryz.prog fl Tryz.f3.params.toList vs → D 3 vs = some (.bool true) := by
  intro vs h
  rw [Tryz.params3] at h
  have h0 : LawArgs Tryz.prog fl [42, 42] vs := h
  clear h
  cases vs with
  | nil => exact h0.elim
  | cons v0 vs =>
  cases vs with
  | nil => exact h0.2.elim
  | cons v1 vs =>
  cases vs with
  | cons v vs => exact h0.2.2.elim
  | nil =>
    obtain ⟨n0, us0, c0, e0⟩ := h0.1
    obtain ⟨a0, o0, z0⟩ := Hidden_open c0
    rw [pack_struct Tryz.underlying42, z0] at e0
    subst e0
    obtain ⟨n1, us1, c1, e1⟩ := h0.2.1
    obtain ⟨a1, o1, z1⟩ := Hidden_open c1
    rw [pack_struct Tryz.underlying42, z1] at e1
    subst e1
    obtain ⟨r, h3, h4⟩ := ok3 V [.agg [.bool a0.xReady, .str a0.xPage.xAddr.xHost, .str a0.xPage.xAddr.xPath, .bool a0.xPage.xPolicy.xSet, .sl 1 true (rStr a0.xPage.xPolicy.xScripts), .sl 1 true (rStr a0.xPage.xPolicy.xStyles), .sl 1 true (rStr a0.xPage.xPolicy.xImages), .str a0.xPage.xPolicy.xNonce, .str a0.xPage.xTok.xRest, .sl 4 false (rows kToken TToken.row a0.xPage.xQueue), .bool a0.xPage.xEnded, .sl 4 false (rows kNode TNode.row a0.xPage.xBuilder.xNodes), .sl 1 true (rInt a0.xPage.xBuilder.xOpen), .sl 8 true (rows kSlot TSlot.row a0.xPage.xSlots), .sl 5 true (rows kModule TModule.row a0.xPage.xMods), .sl 2 true (rows kAddr TAddr.row a0.xPage.xEntries), .int .i64 a0.xPage.xBlock, .int .i64 a0.xPage.xInline, .int .i64 a0.xPage.xDeferred, .int .i64 a0.xPage.xEntered, .sl 2 true (rows kAddr TAddr.row a0.xPage.xRan), .sl 1 true (rStr a0.xPage.xLog), .bool a0.xPage.xLoaded, .sl 8 true (rows kKept TKept.row a0.xTaken), .sl 2 false (rows kServer TServer.row a0.xServers), .int .i64 a0.xNow], .agg [.bool a1.xReady, .str a1.xPage.xAddr.xHost, .str a1.xPage.xAddr.xPath, .bool a1.xPage.xPolicy.xSet, .sl 1 true (rStr a1.xPage.xPolicy.xScripts), .sl 1 true (rStr a1.xPage.xPolicy.xStyles), .sl 1 true (rStr a1.xPage.xPolicy.xImages), .str a1.xPage.xPolicy.xNonce, .str a1.xPage.xTok.xRest, .sl 4 false (rows kToken TToken.row a1.xPage.xQueue), .bool a1.xPage.xEnded, .sl 4 false (rows kNode TNode.row a1.xPage.xBuilder.xNodes), .sl 1 true (rInt a1.xPage.xBuilder.xOpen), .sl 8 true (rows kSlot TSlot.row a1.xPage.xSlots), .sl 5 true (rows kModule TModule.row a1.xPage.xMods), .sl 2 true (rows kAddr TAddr.row a1.xPage.xEntries), .int .i64 a1.xPage.xBlock, .int .i64 a1.xPage.xInline, .int .i64 a1.xPage.xDeferred, .int .i64 a1.xPage.xEntered, .sl 2 true (rows kAddr TAddr.row a1.xPage.xRan), .sl 1 true (rStr a1.xPage.xLog), .bool a1.xPage.xLoaded, .sl 8 true (rows kKept TKept.row a1.xTaken), .sl 2 false (rows kServer TServer.row a1.xServers), .int .i64 a1.xNow]] some (.bool true) (by
      show wrap s3 (G3 F3) V (argsEnc s3 ((a0.xReady, a0.xPage.xAddr.xHost, a0.xPage.xAddr.xPath, a0.xPage.xPolicy.xSet, (rStr a0.xPage.xPolicy.xScripts), (rStr a0.xPage.xPolicy.xStyles), (rStr a0.xPage.xPolicy.xImages), a0.xPage.xPolicy.xNonce, a0.xPage.xTok.xRest, (rows kToken TToken.row a0.xPage.xQueue), a0.xPage.xEnded, (rows kNode TNode.row a0.xPage.xBuilder.xNodes), (rInt a0.xPage.xBuilder.xOpen), (rows kSlot TSlot.row a0.xPage.xSlots), (rows kModule TModule.row a0.xPage.xMods), (rows kAddr TAddr.row a0.xPage.xEntries), a0.xPage.xBlock, a0.xPage.xInline, a0.xPage.xDeferred, a0.xPage.xEntered, (rows kAddr TAddr.row a0.xPage.xRan), (rStr a0.xPage.xLog), a0.xPage.xLoaded, (rows kKept TKept.row a0.xTaken), (rows kServer TServer.row a0.xServers), a0.xNow, ()), (a1.xReady, a1.xPage.xAddr.xHost, a1.xPage.xAddr.xPath, a1.xPage.xPolicy.xSet, (rStr a1.xPage.xPolicy.xScripts), (rStr a1.xPage.xPolicy.xStyles), (rStr a1.xPage.xPolicy.xImages), a1.xPage.xPolicy.xNonce, a1.xPage.xTok.xRest, (rows kToken TToken.row a1.xPage.xQueue), a1.xPage.xEnded, (rows kNode TNode.row a1.xPage.xBuilder.xNodes), (rInt a1.xPage.xBuilder.xOpen), (rows kSlot TSlot.row a1.xPage.xSlots), (rows kModule TModule.row a1.xPage.xMods), (rows kAddr TAddr.row a1.xPage.xEntries), a1.xPage.xBlock, a1.xPage.xInline, a1.xPage.xDeferred, a1.xPage.xEntered, (rows kAddr TAddr.row a1.xPage.xRan), (rStr a1.xPage.xLog), a1.xPage.xLoaded, (rows kKept TKept.row a1.xTaken), (rows kServer TServer.row a1.xServers), a1.xNow, ()), ())) some = _
      unfold wrap
      rw [show argsDec s3 (argsEnc s3 ((a0.xReady, a0.xPage.xAddr.xHost, a0.xPage.xAddr.xPath, a0.xPage.xPolicy.xSet, (rStr a0.xPage.xPolicy.xScripts), (rStr a0.xPage.xPolicy.xStyles), (rStr a0.xPage.xPolicy.xImages), a0.xPage.xPolicy.xNonce, a0.xPage.xTok.xRest, (rows kToken TToken.row a0.xPage.xQueue), a0.xPage.xEnded, (rows kNode TNode.row a0.xPage.xBuilder.xNodes), (rInt a0.xPage.xBuilder.xOpen), (rows kSlot TSlot.row a0.xPage.xSlots), (rows kModule TModule.row a0.xPage.xMods), (rows kAddr TAddr.row a0.xPage.xEntries), a0.xPage.xBlock, a0.xPage.xInline, a0.xPage.xDeferred, a0.xPage.xEntered, (rows kAddr TAddr.row a0.xPage.xRan), (rStr a0.xPage.xLog), a0.xPage.xLoaded, (rows kKept TKept.row a0.xTaken), (rows kServer TServer.row a0.xServers), a0.xNow, ()), (a1.xReady, a1.xPage.xAddr.xHost, a1.xPage.xAddr.xPath, a1.xPage.xPolicy.xSet, (rStr a1.xPage.xPolicy.xScripts), (rStr a1.xPage.xPolicy.xStyles), (rStr a1.xPage.xPolicy.xImages), a1.xPage.xPolicy.xNonce, a1.xPage.xTok.xRest, (rows kToken TToken.row a1.xPage.xQueue), a1.xPage.xEnded, (rows kNode TNode.row a1.xPage.xBuilder.xNodes), (rInt a1.xPage.xBuilder.xOpen), (rows kSlot TSlot.row a1.xPage.xSlots), (rows kModule TModule.row a1.xPage.xMods), (rows kAddr TAddr.row a1.xPage.xEntries), a1.xPage.xBlock, a1.xPage.xInline, a1.xPage.xDeferred, a1.xPage.xEntered, (rows kAddr TAddr.row a1.xPage.xRan), (rStr a1.xPage.xLog), a1.xPage.xLoaded, (rows kKept TKept.row a1.xTaken), (rows kServer TServer.row a1.xServers), a1.xNow, ()), ())) = some ((a0.xReady, a0.xPage.xAddr.xHost, a0.xPage.xAddr.xPath, a0.xPage.xPolicy.xSet, (rStr a0.xPage.xPolicy.xScripts), (rStr a0.xPage.xPolicy.xStyles), (rStr a0.xPage.xPolicy.xImages), a0.xPage.xPolicy.xNonce, a0.xPage.xTok.xRest, (rows kToken TToken.row a0.xPage.xQueue), a0.xPage.xEnded, (rows kNode TNode.row a0.xPage.xBuilder.xNodes), (rInt a0.xPage.xBuilder.xOpen), (rows kSlot TSlot.row a0.xPage.xSlots), (rows kModule TModule.row a0.xPage.xMods), (rows kAddr TAddr.row a0.xPage.xEntries), a0.xPage.xBlock, a0.xPage.xInline, a0.xPage.xDeferred, a0.xPage.xEntered, (rows kAddr TAddr.row a0.xPage.xRan), (rStr a0.xPage.xLog), a0.xPage.xLoaded, (rows kKept TKept.row a0.xTaken), (rows kServer TServer.row a0.xServers), a0.xNow, ()), (a1.xReady, a1.xPage.xAddr.xHost, a1.xPage.xAddr.xPath, a1.xPage.xPolicy.xSet, (rStr a1.xPage.xPolicy.xScripts), (rStr a1.xPage.xPolicy.xStyles), (rStr a1.xPage.xPolicy.xImages), a1.xPage.xPolicy.xNonce, a1.xPage.xTok.xRest, (rows kToken TToken.row a1.xPage.xQueue), a1.xPage.xEnded, (rows kNode TNode.row a1.xPage.xBuilder.xNodes), (rInt a1.xPage.xBuilder.xOpen), (rows kSlot TSlot.row a1.xPage.xSlots), (rows kModule TModule.row a1.xPage.xMods), (rows kAddr TAddr.row a1.xPage.xEntries), a1.xPage.xBlock, a1.xPage.xInline, a1.xPage.xDeferred, a1.xPage.xEntered, (rows kAddr TAddr.row a1.xPage.xRan), (rStr a1.xPage.xLog), a1.xPage.xLoaded, (rows kKept TKept.row a1.xTaken), (rows kServer TServer.row a1.xServers), a1.xNow, ()), ()) from rfl]
      exact law3 a0 a1 o0 o1 _)
    rw [h3, h4]
set_option maxRecDepth 100000 in
theorem lifted (os : Os) (started : os.Started) (H : Type) (enc : TypeId × Value → H) :
    ReturnsInHanded {} Tryz.checked os 3 .any (Rows.fnExactEqualHiddenSpec.pre6 enc Tryz.prog Tryz.f3 Rows.fnExactEqualHiddenRow.domain false) (Rows.fnExactEqualHiddenSpec.post enc Tryz.prog Tryz.f3 false true false false) := by
  refine returnsInHanded_of_change (C := Tryz.checked) own started (by kernel_rfl) Tryz.func3
    (ChangeSpec.witness6 (enc := enc) (C := Tryz.checked) false ⟨#[], #[.agg #[.bool false, .string ⟨#[]⟩, .string ⟨#[]⟩, .bool false, .slice none 0 0, .slice none 0 0, .slice none 0 0, .string ⟨#[]⟩, .string ⟨#[]⟩, .slice none 0 0, .bool false, .slice none 0 0, .slice none 0 0, .slice none 0 0, .slice none 0 0, .slice none 0 0, .int .i64 0, .int .i64 0, .int .i64 0, .int .i64 0, .slice none 0 0, .slice none 0 0, .bool false, .slice none 0 0, .slice none 0 0, .int .i64 0], .agg #[.bool false, .string ⟨#[]⟩, .string ⟨#[]⟩, .bool false, .slice none 0 0, .slice none 0 0, .slice none 0 0, .string ⟨#[]⟩, .string ⟨#[]⟩, .slice none 0 0, .bool false, .slice none 0 0, .slice none 0 0, .slice none 0 0, .slice none 0 0, .slice none 0 0, .int .i64 0, .int .i64 0, .int .i64 0, .int .i64 0, .slice none 0 0, .slice none 0 0, .bool false, .slice none 0 0, .slice none 0 0, .int .i64 0]], []⟩ 8 (by kernel_rfl) (by kernel_rfl) (by kernel_rfl) (by kernel_rfl)) ?_
  intro W base args ds gs before hval0 hW hcnd _
  refine law_calls (s := Rows.fnExactEqualHiddenSpec) (tb := 4) answers kids flArgs (by rw [Tryz.params3]; decide) rfl Tryz.underlying4 rfl ?_ told ⟨trivial, Nat.zero_le _⟩ hval0 hW
  intro ds hds
  match ds, hds with
  | [d0, d1], _ => rfl
end Go.Proofs.YtlgbgnlpbnhhfaaGreat.fnExactEqualHidden

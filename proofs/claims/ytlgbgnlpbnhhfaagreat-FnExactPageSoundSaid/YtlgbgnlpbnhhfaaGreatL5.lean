/-
  Proved: Rows.FnExactPageSoundSaid: laws.FnExactPageSound returns true for all arguments, and leaves what it was handed as it was.
-/
import Derived.Test.YtlgbgnlpbnhhfaaGreatRows
import Derived.Test.YtlgbgnlpbnhhfaaGreatMp
import Derived.WalkKit
import Derived.ProofKit
namespace Go.Proofs.YtlgbgnlpbnhhfaaGreat.fnExactPageSound
open Go Go.Am Go.ChangeShapes Go.WideShapes Go.ChangeAt Go.RowKit
set_option linter.unusedVariables false
set_option linter.unusedSimpArgs false
theorem own : ownKnob Tryz.prog.godebug = none := by kernel_rfl
theorem told : ∀ vs, LawArgs Tryz.prog fl Tryz.f5.params.toList vs → D 5 vs = some (.bool true) := by
  intro vs h
  rw [Tryz.params5] at h
  have h0 : LawArgs Tryz.prog fl [38] vs := h
  clear h
  cases vs with
  | nil => exact h0.elim
  | cons v0 vs =>
  cases vs with
  | cons v vs => exact h0.2.elim
  | nil =>
    obtain ⟨n0, us0, c0, e0⟩ := h0.1
    obtain ⟨a0, o0, z0⟩ := Page_open c0
    rw [pack_struct Tryz.underlying38, z0] at e0
    subst e0
    obtain ⟨r, h3, h4⟩ := ok5 V [.agg [.str a0.xAddr.xHost, .str a0.xAddr.xPath, .bool a0.xPolicy.xSet, .sl 1 true (rStr a0.xPolicy.xScripts), .sl 1 true (rStr a0.xPolicy.xStyles), .sl 1 true (rStr a0.xPolicy.xImages), .str a0.xPolicy.xNonce, .str a0.xTok.xRest, .sl 4 false (rows kToken TToken.row a0.xQueue), .bool a0.xEnded, .sl 4 false (rows kNode TNode.row a0.xBuilder.xNodes), .sl 1 true (rInt a0.xBuilder.xOpen), .sl 8 true (rows kSlot TSlot.row a0.xSlots), .sl 5 true (rows kModule TModule.row a0.xMods), .sl 2 true (rows kAddr TAddr.row a0.xEntries), .int .i64 a0.xBlock, .int .i64 a0.xInline, .int .i64 a0.xDeferred, .int .i64 a0.xEntered, .sl 2 true (rows kAddr TAddr.row a0.xRan), .sl 1 true (rStr a0.xLog), .bool a0.xLoaded]] some (.bool true) (by
      show wrap s5 (G5 F5) V (argsEnc s5 ((a0.xAddr.xHost, a0.xAddr.xPath, a0.xPolicy.xSet, (rStr a0.xPolicy.xScripts), (rStr a0.xPolicy.xStyles), (rStr a0.xPolicy.xImages), a0.xPolicy.xNonce, a0.xTok.xRest, (rows kToken TToken.row a0.xQueue), a0.xEnded, (rows kNode TNode.row a0.xBuilder.xNodes), (rInt a0.xBuilder.xOpen), (rows kSlot TSlot.row a0.xSlots), (rows kModule TModule.row a0.xMods), (rows kAddr TAddr.row a0.xEntries), a0.xBlock, a0.xInline, a0.xDeferred, a0.xEntered, (rows kAddr TAddr.row a0.xRan), (rStr a0.xLog), a0.xLoaded, ()), ())) some = _
      unfold wrap
      rw [show argsDec s5 (argsEnc s5 ((a0.xAddr.xHost, a0.xAddr.xPath, a0.xPolicy.xSet, (rStr a0.xPolicy.xScripts), (rStr a0.xPolicy.xStyles), (rStr a0.xPolicy.xImages), a0.xPolicy.xNonce, a0.xTok.xRest, (rows kToken TToken.row a0.xQueue), a0.xEnded, (rows kNode TNode.row a0.xBuilder.xNodes), (rInt a0.xBuilder.xOpen), (rows kSlot TSlot.row a0.xSlots), (rows kModule TModule.row a0.xMods), (rows kAddr TAddr.row a0.xEntries), a0.xBlock, a0.xInline, a0.xDeferred, a0.xEntered, (rows kAddr TAddr.row a0.xRan), (rStr a0.xLog), a0.xLoaded, ()), ())) = some ((a0.xAddr.xHost, a0.xAddr.xPath, a0.xPolicy.xSet, (rStr a0.xPolicy.xScripts), (rStr a0.xPolicy.xStyles), (rStr a0.xPolicy.xImages), a0.xPolicy.xNonce, a0.xTok.xRest, (rows kToken TToken.row a0.xQueue), a0.xEnded, (rows kNode TNode.row a0.xBuilder.xNodes), (rInt a0.xBuilder.xOpen), (rows kSlot TSlot.row a0.xSlots), (rows kModule TModule.row a0.xMods), (rows kAddr TAddr.row a0.xEntries), a0.xBlock, a0.xInline, a0.xDeferred, a0.xEntered, (rows kAddr TAddr.row a0.xRan), (rStr a0.xLog), a0.xLoaded, ()), ()) from rfl]
      exact law5 a0 o0 _)
    rw [h3, h4]
set_option maxRecDepth 100000 in
theorem lifted (os : Os) (started : os.Started) (H : Type) (enc : TypeId × Value → H) :
    ReturnsInHanded {} Tryz.checked os 5 .any (Rows.fnExactPageSoundSpec.pre6 enc Tryz.prog Tryz.f5 Rows.fnExactPageSoundRow.domain false) (Rows.fnExactPageSoundSpec.post enc Tryz.prog Tryz.f5 false true false false) := by
  refine returnsInHanded_of_change (C := Tryz.checked) own started (by kernel_rfl) Tryz.func5
    (ChangeSpec.witness6 (enc := enc) (C := Tryz.checked) false ⟨#[], #[.agg #[.string ⟨#[]⟩, .string ⟨#[]⟩, .bool false, .slice none 0 0, .slice none 0 0, .slice none 0 0, .string ⟨#[]⟩, .string ⟨#[]⟩, .slice none 0 0, .bool false, .slice none 0 0, .slice none 0 0, .slice none 0 0, .slice none 0 0, .slice none 0 0, .int .i64 0, .int .i64 0, .int .i64 0, .int .i64 0, .slice none 0 0, .slice none 0 0, .bool false]], []⟩ 8 (by kernel_rfl) (by kernel_rfl) (by kernel_rfl) (by kernel_rfl)) ?_
  intro W base args ds gs before hval0 hW hcnd _
  refine law_calls (s := Rows.fnExactPageSoundSpec) (tb := 4) answers kids flArgs (by rw [Tryz.params5]; decide) rfl Tryz.underlying4 rfl ?_ told ⟨trivial, Nat.zero_le _⟩ hval0 hW
  intro ds hds
  match ds, hds with
  | [d0], _ => rfl
end Go.Proofs.YtlgbgnlpbnhhfaaGreat.fnExactPageSound

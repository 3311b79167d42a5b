/-
  Proved: Rows.FnExactFormatLogSaid: laws.FnExactFormatLog returns true for all arguments, and leaves what it was handed as it was.
-/
import Derived.Test.YtlbilfobehdidaaL9
namespace Go.Proofs.Ytlbilfobehdidaa.fnExactFormatLog
open Go Go.Am Go.ChangeShapes Go.WideShapes Go.ChangeAt Go.RowKit
theorem j0 : (Rows.fnExactFormatLogRow.wf (OpenSpec.ofChange Rows.fnExactFormatLogSpec)) = true := by kernel_rfl
theorem j1 : (laidOutB Try.prog) = true := by kernel_rfl
theorem j2 : (mapsRowed Try.prog) = true := by kernel_rfl
theorem j3 : (Try.f9.params.all (Try.prog.readableRec ·)) = true := by kernel_rfl
theorem j4 : (namedTie Try.prog Rows.fnExactFormatLogRow.named Rows.fnExactFormatLogSpec.vars) = true := by kernel_rfl
theorem j5 : ((Rows.fnExactFormatLogRow.stops == [])) = true := by kernel_rfl
theorem j6 : ((Try.prog.stops == [])) = true := by kernel_rfl
theorem j7 : ((Rows.fnExactFormatLogRow.knobs == [])) = true := by kernel_rfl
theorem j8 : ((Try.prog.stopKnobs == [])) = true := by kernel_rfl
theorem j9 : ((Rows.fnExactFormatLogRow.inPlace == Try.prog.inPlace 9)) = true := by kernel_rfl
theorem j10 : ((Rows.fnExactFormatLogRow.unfollowed == Try.prog.unfollowed 9)) = true := by kernel_rfl
theorem j11 : ((Rows.fnExactFormatLogRow.recurses == Try.prog.recurses 9)) = true := by kernel_rfl
theorem j12 : ((Rows.fnExactFormatLogRow.named == Try.prog.varsNamed 9)) = true := by kernel_rfl
theorem j13 : ((Rows.fnExactFormatLogRow.maps == (Try.f9.params.toList ++ Rows.fnExactFormatLogSpec.plain.varTypes Try.prog).any (Try.prog.mapsRec ·))) = true := by kernel_rfl
theorem j14 : ((Rows.fnExactFormatLogRow.ifaces == (Try.f9.params.toList ++ Rows.fnExactFormatLogSpec.plain.varTypes Try.prog).any (Try.prog.ifacesRec ·))) = true := by kernel_rfl
theorem j15 : ((Rows.fnExactFormatLogRow.mapsOut == Try.prog.mapsAmong Try.f9.resultTypes.toList)) = true := by kernel_rfl
theorem j16 : ((Rows.fnExactFormatLogRow.loops == (Try.f9.params.toList ++ Rows.fnExactFormatLogSpec.plain.varTypes Try.prog).any (Try.prog.loopsFrom ·))) = true := by kernel_rfl
theorem j17 : ((Rows.fnExactFormatLogRow.wideKeys == (Try.f9.params.toList ++ Rows.fnExactFormatLogSpec.plain.varTypes Try.prog ++ Try.f9.resultTypes.toList).any (Try.prog.wideKeysFrom ·))) = true := by kernel_rfl
theorem j18 : (Rows.fnExactFormatLogSpec.vars.all (Try.prog.varReadable ·)) = true := by kernel_rfl
theorem j19 : (Try.f9.resultTypes.all (fun t => Try.prog.readableRec t && decide (t < Try.prog.types.size))) = true := by kernel_rfl
theorem j20 : ((Rows.fnExactFormatLogRow.ifacesOut == Try.f9.resultTypes.toList.any (Try.prog.ifacesRec ·))) = true := by kernel_rfl
theorem j21 : ((Rows.fnExactFormatLogRow.loopsOut == Try.f9.resultTypes.toList.any (Try.prog.loopsFrom ·))) = true := by kernel_rfl
theorem j22 : ((Rows.fnExactFormatLogRow.plainKeys == Try.prog.plainKeys)) = true := by kernel_rfl
theorem j23 : (Rows.fnExactFormatLogRow.shortTexts.isNone) = true := by kernel_rfl
theorem j24 : (Try.prog.stopsHeard) = true := by kernel_rfl
theorem j25 : (Try.prog.mayEnter) = true := by kernel_rfl
theorem j26 : ((Rows.fnExactFormatLogRow.lifted == Try.prog.liftsFinal)) = true := by kernel_rfl
theorem j27 : ((Try.prog.make == some Rows.fnExactFormatLogRow.make)) = true := by kernel_rfl
theorem j29 : ((Rows.fnExactFormatLogRow.pinned == Rows.fnExactFormatLogRow.pinnedBy)) = true := by kernel_rfl
theorem j30 : ((Rows.fnExactFormatLogRow.veiled == (Try.f9.params.toList ++ Rows.fnExactFormatLogSpec.plain.varTypes Try.prog ++ Try.f9.resultTypes.toList).any (Try.prog.veiledRec ·))) = true := by kernel_rfl
theorem j31 : (Rows.fnExactFormatLogRow.veiledFits Try.prog Try.f9.params.toList (Try.f9.params.toList ++ Rows.fnExactFormatLogSpec.plain.varTypes Try.prog ++ Try.f9.resultTypes.toList)) = true := by kernel_rfl
theorem andI {a b : Bool} (h1 : a = true) (h2 : b = true) : (a && b) = true := by rw [h1, h2]; rfl
theorem facts : joinedFacts Try.prog 9 Try.f9 Rows.fnExactFormatLogSpec Rows.fnExactFormatLogRow = true := by
  unfold joinedFacts
  exact andI (andI (andI (andI (andI (andI (andI (andI (andI (andI (andI (andI (andI (andI (andI (andI (andI (andI (andI (andI (andI (andI (andI (andI (andI (andI (andI (andI (andI (andI (andI (j0) j1) j2) j3) j4) j5) j6) j7) j8) j9) j10) j11) j12) j13) j14) j15) j16) j17) j18) j19) j20) j21) j22) j23) j24) j25) j26) j27) rfl) j29) j30) j31
theorem over : Rows.fnExactFormatLogRow.holds Try.pinned (OpenSpec.ofChange Rows.fnExactFormatLogSpec) :=
  OpenClaim.holds_of_wide 9 Try.f9 rfl rfl rfl rfl rfl rfl rfl ⟨rfl, rfl, rfl, rfl, rfl⟩ rfl rfl rfl rfl rfl (by kernel_rfl) Try.func9
    facts (of_decide_eq_true (by kernel_rfl)) (by unfold Func.isWrapper; first | (rw [if_pos (by decide +kernel)]; kernel_rfl) | (rw [if_neg (by decide +kernel)]; exact ⟨rfl, rfl⟩))
    (fun os started H enc _ => lifted os started H enc)
theorem proved : Rows.FnExactFormatLogSaid :=
  over
#print axioms proved
end Go.Proofs.Ytlbilfobehdidaa.fnExactFormatLog

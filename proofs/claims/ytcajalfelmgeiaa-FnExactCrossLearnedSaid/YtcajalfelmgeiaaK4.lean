/-
  Proved: Rows.FnExactCrossLearnedSaid: laws.FnExactCrossLearned returns true for all arguments, and leaves what it was handed as it was.
-/
import Derived.Test.YtcajalfelmgeiaaL4
namespace Go.Proofs.Ytcajalfelmgeiaa.fnExactCrossLearned
open Go Go.Am Go.ChangeShapes Go.WideShapes Go.ChangeAt Go.RowKit
theorem j0 : (Rows.fnExactCrossLearnedRow.wf (OpenSpec.ofChange Rows.fnExactCrossLearnedSpec)) = true := by kernel_rfl
theorem j1 : (laidOutB Try.prog) = true := by kernel_rfl
theorem j2 : (mapsRowed Try.prog) = true := by kernel_rfl
theorem j3 : (Try.f4.params.all (Try.prog.readableRec ·)) = true := by kernel_rfl
theorem j4 : (namedTie Try.prog Rows.fnExactCrossLearnedRow.named Rows.fnExactCrossLearnedSpec.vars) = true := by kernel_rfl
theorem j5 : ((Rows.fnExactCrossLearnedRow.stops == [])) = true := by kernel_rfl
theorem j6 : ((Try.prog.stops == [])) = true := by kernel_rfl
theorem j7 : ((Rows.fnExactCrossLearnedRow.knobs == [])) = true := by kernel_rfl
theorem j8 : ((Try.prog.stopKnobs == [])) = true := by kernel_rfl
theorem j9 : ((Rows.fnExactCrossLearnedRow.inPlace == Try.prog.inPlace 4)) = true := by kernel_rfl
theorem j10 : ((Rows.fnExactCrossLearnedRow.unfollowed == Try.prog.unfollowed 4)) = true := by kernel_rfl
theorem j11 : ((Rows.fnExactCrossLearnedRow.recurses == Try.prog.recurses 4)) = true := by kernel_rfl
theorem j12 : ((Rows.fnExactCrossLearnedRow.named == Try.prog.varsNamed 4)) = true := by kernel_rfl
theorem j13 : ((Rows.fnExactCrossLearnedRow.maps == (Try.f4.params.toList ++ Rows.fnExactCrossLearnedSpec.plain.varTypes Try.prog).any (Try.prog.mapsRec ·))) = true := by kernel_rfl
theorem j14 : ((Rows.fnExactCrossLearnedRow.ifaces == (Try.f4.params.toList ++ Rows.fnExactCrossLearnedSpec.plain.varTypes Try.prog).any (Try.prog.ifacesRec ·))) = true := by kernel_rfl
theorem j15 : ((Rows.fnExactCrossLearnedRow.mapsOut == Try.prog.mapsAmong Try.f4.resultTypes.toList)) = true := by kernel_rfl
theorem j16 : ((Rows.fnExactCrossLearnedRow.loops == (Try.f4.params.toList ++ Rows.fnExactCrossLearnedSpec.plain.varTypes Try.prog).any (Try.prog.loopsFrom ·))) = true := by kernel_rfl
theorem j17 : ((Rows.fnExactCrossLearnedRow.wideKeys == (Try.f4.params.toList ++ Rows.fnExactCrossLearnedSpec.plain.varTypes Try.prog ++ Try.f4.resultTypes.toList).any (Try.prog.wideKeysFrom ·))) = true := by kernel_rfl
theorem j18 : (Rows.fnExactCrossLearnedSpec.vars.all (Try.prog.varReadable ·)) = true := by kernel_rfl
theorem j19 : (Try.f4.resultTypes.all (fun t => Try.prog.readableRec t && decide (t < Try.prog.types.size))) = true := by kernel_rfl
theorem j20 : ((Rows.fnExactCrossLearnedRow.ifacesOut == Try.f4.resultTypes.toList.any (Try.prog.ifacesRec ·))) = true := by kernel_rfl
theorem j21 : ((Rows.fnExactCrossLearnedRow.loopsOut == Try.f4.resultTypes.toList.any (Try.prog.loopsFrom ·))) = true := by kernel_rfl
theorem j22 : ((Rows.fnExactCrossLearnedRow.plainKeys == Try.prog.plainKeys)) = true := by kernel_rfl
theorem j23 : (Rows.fnExactCrossLearnedRow.shortTexts.isNone) = true := by kernel_rfl
theorem j24 : (Try.prog.stopsHeard) = true := by kernel_rfl
theorem j25 : (Try.prog.mayEnter) = true := by kernel_rfl
theorem j26 : ((Rows.fnExactCrossLearnedRow.lifted == Try.prog.liftsFinal)) = true := by kernel_rfl
theorem j27 : ((Try.prog.make == some Rows.fnExactCrossLearnedRow.make)) = true := by kernel_rfl
theorem j29 : ((Rows.fnExactCrossLearnedRow.pinned == Rows.fnExactCrossLearnedRow.pinnedBy)) = true := by kernel_rfl
theorem j30 : ((Rows.fnExactCrossLearnedRow.veiled == (Try.f4.params.toList ++ Rows.fnExactCrossLearnedSpec.plain.varTypes Try.prog ++ Try.f4.resultTypes.toList).any (Try.prog.veiledRec ·))) = true := by kernel_rfl
theorem j31 : (Rows.fnExactCrossLearnedRow.veiledFits Try.prog Try.f4.params.toList (Try.f4.params.toList ++ Rows.fnExactCrossLearnedSpec.plain.varTypes Try.prog ++ Try.f4.resultTypes.toList)) = true := by kernel_rfl
theorem andI {a b : Bool} (h1 : a = true) (h2 : b = true) : (a && b) = true := by rw [h1, h2]; rfl
theorem facts : joinedFacts Try.prog 4 Try.f4 Rows.fnExactCrossLearnedSpec Rows.fnExactCrossLearnedRow = true := by
  unfold joinedFacts
  exact andI (andI (andI (andI (andI (andI (andI (andI (andI (andI (andI (andI (andI (andI (andI (andI (andI (andI (andI (andI (andI (andI (andI (andI (andI (andI (andI (andI (andI (andI (andI (j0) j1) j2) j3) j4) j5) j6) j7) j8) j9) j10) j11) j12) j13) j14) j15) j16) j17) j18) j19) j20) j21) j22) j23) j24) j25) j26) j27) rfl) j29) j30) j31
theorem over : Rows.fnExactCrossLearnedRow.holds Try.pinned (OpenSpec.ofChange Rows.fnExactCrossLearnedSpec) :=
  OpenClaim.holds_of_wide 4 Try.f4 rfl rfl rfl rfl rfl rfl rfl ⟨rfl, rfl, rfl, rfl, rfl⟩ rfl rfl rfl rfl rfl (by kernel_rfl) Try.func4
    facts (of_decide_eq_true (by kernel_rfl)) (by unfold Func.isWrapper; first | (rw [if_pos (by decide +kernel)]; kernel_rfl) | (rw [if_neg (by decide +kernel)]; exact ⟨rfl, rfl⟩))
    (fun os started H enc _ => lifted os started H enc)
theorem proved : Rows.FnExactCrossLearnedSaid :=
  over
#print axioms proved
end Go.Proofs.Ytcajalfelmgeiaa.fnExactCrossLearned

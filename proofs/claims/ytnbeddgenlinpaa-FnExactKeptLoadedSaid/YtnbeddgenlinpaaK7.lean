/-
  Proved: Rows.FnExactKeptLoadedSaid: laws.FnExactKeptLoaded returns true for all arguments, and leaves what it was handed as it was.
-/
import Derived.Test.YtnbeddgenlinpaaL7
namespace Go.Proofs.Ytnbeddgenlinpaa.fnExactKeptLoaded
open Go Go.Am Go.ChangeShapes Go.WideShapes Go.ChangeAt Go.RowKit
theorem j0 : (Rows.fnExactKeptLoadedRow.wf (OpenSpec.ofChange Rows.fnExactKeptLoadedSpec)) = true := by kernel_rfl
theorem j1 : (laidOutB Try.prog) = true := by kernel_rfl
theorem j2 : (mapsRowed Try.prog) = true := by kernel_rfl
theorem j3 : (Try.f7.params.all (Try.prog.readableRec ·)) = true := by kernel_rfl
theorem j4 : (namedTie Try.prog Rows.fnExactKeptLoadedRow.named Rows.fnExactKeptLoadedSpec.vars) = true := by kernel_rfl
theorem j5 : ((Rows.fnExactKeptLoadedRow.stops == [])) = true := by kernel_rfl
theorem j6 : ((Try.prog.stops == [])) = true := by kernel_rfl
theorem j7 : ((Rows.fnExactKeptLoadedRow.knobs == [])) = true := by kernel_rfl
theorem j8 : ((Try.prog.stopKnobs == [])) = true := by kernel_rfl
theorem j9 : ((Rows.fnExactKeptLoadedRow.inPlace == Try.prog.inPlace 7)) = true := by kernel_rfl
theorem j10 : ((Rows.fnExactKeptLoadedRow.unfollowed == Try.prog.unfollowed 7)) = true := by kernel_rfl
theorem j11 : ((Rows.fnExactKeptLoadedRow.recurses == Try.prog.recurses 7)) = true := by kernel_rfl
theorem j12 : ((Rows.fnExactKeptLoadedRow.named == Try.prog.varsNamed 7)) = true := by kernel_rfl
theorem j13 : ((Rows.fnExactKeptLoadedRow.maps == (Try.f7.params.toList ++ Rows.fnExactKeptLoadedSpec.plain.varTypes Try.prog).any (Try.prog.mapsRec ·))) = true := by kernel_rfl
theorem j14 : ((Rows.fnExactKeptLoadedRow.ifaces == (Try.f7.params.toList ++ Rows.fnExactKeptLoadedSpec.plain.varTypes Try.prog).any (Try.prog.ifacesRec ·))) = true := by kernel_rfl
theorem j15 : ((Rows.fnExactKeptLoadedRow.mapsOut == Try.prog.mapsAmong Try.f7.resultTypes.toList)) = true := by kernel_rfl
theorem j16 : ((Rows.fnExactKeptLoadedRow.loops == (Try.f7.params.toList ++ Rows.fnExactKeptLoadedSpec.plain.varTypes Try.prog).any (Try.prog.loopsFrom ·))) = true := by kernel_rfl
theorem j17 : ((Rows.fnExactKeptLoadedRow.wideKeys == (Try.f7.params.toList ++ Rows.fnExactKeptLoadedSpec.plain.varTypes Try.prog ++ Try.f7.resultTypes.toList).any (Try.prog.wideKeysFrom ·))) = true := by kernel_rfl
theorem j18 : (Rows.fnExactKeptLoadedSpec.vars.all (Try.prog.varReadable ·)) = true := by kernel_rfl
theorem j19 : (Try.f7.resultTypes.all (fun t => Try.prog.readableRec t && decide (t < Try.prog.types.size))) = true := by kernel_rfl
theorem j20 : ((Rows.fnExactKeptLoadedRow.ifacesOut == Try.f7.resultTypes.toList.any (Try.prog.ifacesRec ·))) = true := by kernel_rfl
theorem j21 : ((Rows.fnExactKeptLoadedRow.loopsOut == Try.f7.resultTypes.toList.any (Try.prog.loopsFrom ·))) = true := by kernel_rfl
theorem j22 : ((Rows.fnExactKeptLoadedRow.plainKeys == Try.prog.plainKeys)) = true := by kernel_rfl
theorem j23 : (Rows.fnExactKeptLoadedRow.shortTexts.isNone) = true := by kernel_rfl
theorem j24 : (Try.prog.stopsHeard) = true := by kernel_rfl
theorem j25 : (Try.prog.mayEnter) = true := by kernel_rfl
theorem j26 : ((Rows.fnExactKeptLoadedRow.lifted == Try.prog.liftsFinal)) = true := by kernel_rfl
theorem j27 : ((Try.prog.make == some Rows.fnExactKeptLoadedRow.make)) = true := by kernel_rfl
theorem j29 : ((Rows.fnExactKeptLoadedRow.pinned == Rows.fnExactKeptLoadedRow.pinnedBy)) = true := by kernel_rfl
theorem j30 : ((Rows.fnExactKeptLoadedRow.veiled == (Try.f7.params.toList ++ Rows.fnExactKeptLoadedSpec.plain.varTypes Try.prog ++ Try.f7.resultTypes.toList).any (Try.prog.veiledRec ·))) = true := by kernel_rfl
theorem j31 : (Rows.fnExactKeptLoadedRow.veiledFits Try.prog Try.f7.params.toList (Try.f7.params.toList ++ Rows.fnExactKeptLoadedSpec.plain.varTypes Try.prog ++ Try.f7.resultTypes.toList)) = true := by kernel_rfl
theorem andI {a b : Bool} (h1 : a = true) (h2 : b = true) : (a && b) = true := by rw [h1, h2]; rfl
theorem facts : joinedFacts Try.prog 7 Try.f7 Rows.fnExactKeptLoadedSpec Rows.fnExactKeptLoadedRow = true := by
  unfold joinedFacts
  exact andI (andI (andI (andI (andI (andI (andI (andI (andI (andI (andI (andI (andI (andI (andI (andI (andI (andI (andI (andI (andI (andI (andI (andI (andI (andI (andI (andI (andI (andI (andI (j0) j1) j2) j3) j4) j5) j6) j7) j8) j9) j10) j11) j12) j13) j14) j15) j16) j17) j18) j19) j20) j21) j22) j23) j24) j25) j26) j27) rfl) j29) j30) j31
theorem over : Rows.fnExactKeptLoadedRow.holds Try.pinned (OpenSpec.ofChange Rows.fnExactKeptLoadedSpec) :=
  OpenClaim.holds_of_wide 7 Try.f7 rfl rfl rfl rfl rfl rfl rfl ⟨rfl, rfl, rfl, rfl, rfl⟩ rfl rfl rfl rfl rfl (by kernel_rfl) Try.func7
    facts (of_decide_eq_true (by kernel_rfl)) (by unfold Func.isWrapper; first | (rw [if_pos (by decide +kernel)]; kernel_rfl) | (rw [if_neg (by decide +kernel)]; exact ⟨rfl, rfl⟩))
    (fun os started H enc _ => lifted os started H enc)
theorem proved : Rows.FnExactKeptLoadedSaid :=
  over
#print axioms proved
end Go.Proofs.Ytnbeddgenlinpaa.fnExactKeptLoaded

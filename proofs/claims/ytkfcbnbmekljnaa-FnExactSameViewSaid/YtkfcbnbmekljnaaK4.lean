/-
  Proved: Rows.FnExactSameViewSaid: laws.FnExactSameView returns true for all arguments, and leaves what it was handed as it was.
-/
import Derived.Test.YtkfcbnbmekljnaaL4
namespace Go.Proofs.Ytkfcbnbmekljnaa.fnExactSameView
open Go Go.Am Go.ChangeShapes Go.WideShapes Go.ChangeAt Go.RowKit
theorem j0 : (Rows.fnExactSameViewRow.wf (OpenSpec.ofChange Rows.fnExactSameViewSpec)) = true := by kernel_rfl
theorem j1 : (laidOutB Try.prog) = true := by kernel_rfl
theorem j2 : (mapsRowed Try.prog) = true := by kernel_rfl
theorem j3 : (Try.f4.params.all (Try.prog.readableRec ·)) = true := by kernel_rfl
theorem j4 : (namedTie Try.prog Rows.fnExactSameViewRow.named Rows.fnExactSameViewSpec.vars) = true := by kernel_rfl
theorem j5 : ((Rows.fnExactSameViewRow.stops == [])) = true := by kernel_rfl
theorem j6 : ((Try.prog.stops == [])) = true := by kernel_rfl
theorem j7 : ((Rows.fnExactSameViewRow.knobs == [])) = true := by kernel_rfl
theorem j8 : ((Try.prog.stopKnobs == [])) = true := by kernel_rfl
theorem j9 : ((Rows.fnExactSameViewRow.inPlace == Try.prog.inPlace 4)) = true := by kernel_rfl
theorem j10 : ((Rows.fnExactSameViewRow.unfollowed == Try.prog.unfollowed 4)) = true := by kernel_rfl
theorem j11 : ((Rows.fnExactSameViewRow.recurses == Try.prog.recurses 4)) = true := by kernel_rfl
theorem j12 : ((Rows.fnExactSameViewRow.named == Try.prog.varsNamed 4)) = true := by kernel_rfl
theorem j13 : ((Rows.fnExactSameViewRow.maps == (Try.f4.params.toList ++ Rows.fnExactSameViewSpec.plain.varTypes Try.prog).any (Try.prog.mapsRec ·))) = true := by kernel_rfl
theorem j14 : ((Rows.fnExactSameViewRow.ifaces == (Try.f4.params.toList ++ Rows.fnExactSameViewSpec.plain.varTypes Try.prog).any (Try.prog.ifacesRec ·))) = true := by kernel_rfl
theorem j15 : ((Rows.fnExactSameViewRow.mapsOut == Try.prog.mapsAmong Try.f4.resultTypes.toList)) = true := by kernel_rfl
theorem j16 : ((Rows.fnExactSameViewRow.loops == (Try.f4.params.toList ++ Rows.fnExactSameViewSpec.plain.varTypes Try.prog).any (Try.prog.loopsFrom ·))) = true := by kernel_rfl
theorem j17 : ((Rows.fnExactSameViewRow.wideKeys == (Try.f4.params.toList ++ Rows.fnExactSameViewSpec.plain.varTypes Try.prog ++ Try.f4.resultTypes.toList).any (Try.prog.wideKeysFrom ·))) = true := by kernel_rfl
theorem j18 : (Rows.fnExactSameViewSpec.vars.all (Try.prog.varReadable ·)) = true := by kernel_rfl
theorem j19 : (Try.f4.resultTypes.all (fun t => Try.prog.readableRec t && decide (t < Try.prog.types.size))) = true := by kernel_rfl
theorem j20 : ((Rows.fnExactSameViewRow.ifacesOut == Try.f4.resultTypes.toList.any (Try.prog.ifacesRec ·))) = true := by kernel_rfl
theorem j21 : ((Rows.fnExactSameViewRow.loopsOut == Try.f4.resultTypes.toList.any (Try.prog.loopsFrom ·))) = true := by kernel_rfl
theorem j22 : ((Rows.fnExactSameViewRow.plainKeys == Try.prog.plainKeys)) = true := by kernel_rfl
theorem j23 : (Rows.fnExactSameViewRow.shortTexts.isNone) = true := by kernel_rfl
theorem j24 : (Try.prog.stopsHeard) = true := by kernel_rfl
theorem j25 : (Try.prog.mayEnter) = true := by kernel_rfl
theorem j26 : ((Rows.fnExactSameViewRow.lifted == Try.prog.liftsFinal)) = true := by kernel_rfl
theorem j27 : ((Try.prog.make == some Rows.fnExactSameViewRow.make)) = true := by kernel_rfl
theorem j29 : ((Rows.fnExactSameViewRow.pinned == Rows.fnExactSameViewRow.pinnedBy)) = true := by kernel_rfl
theorem j30 : ((Rows.fnExactSameViewRow.veiled == (Try.f4.params.toList ++ Rows.fnExactSameViewSpec.plain.varTypes Try.prog ++ Try.f4.resultTypes.toList).any (Try.prog.veiledRec ·))) = true := by kernel_rfl
theorem j31 : (Rows.fnExactSameViewRow.veiledFits Try.prog Try.f4.params.toList (Try.f4.params.toList ++ Rows.fnExactSameViewSpec.plain.varTypes Try.prog ++ Try.f4.resultTypes.toList)) = true := by kernel_rfl
theorem andI {a b : Bool} (h1 : a = true) (h2 : b = true) : (a && b) = true := by rw [h1, h2]; rfl
theorem facts : joinedFacts Try.prog 4 Try.f4 Rows.fnExactSameViewSpec Rows.fnExactSameViewRow = true := by
  unfold joinedFacts
  exact andI (andI (andI (andI (andI (andI (andI (andI (andI (andI (andI (andI (andI (andI (andI (andI (andI (andI (andI (andI (andI (andI (andI (andI (andI (andI (andI (andI (andI (andI (andI (j0) j1) j2) j3) j4) j5) j6) j7) j8) j9) j10) j11) j12) j13) j14) j15) j16) j17) j18) j19) j20) j21) j22) j23) j24) j25) j26) j27) rfl) j29) j30) j31
theorem over : Rows.fnExactSameViewRow.holds Try.pinned (OpenSpec.ofChange Rows.fnExactSameViewSpec) :=
  OpenClaim.holds_of_wide 4 Try.f4 rfl rfl rfl rfl rfl rfl rfl ⟨rfl, rfl, rfl, rfl, rfl⟩ rfl rfl rfl rfl rfl (by kernel_rfl) Try.func4
    facts (of_decide_eq_true (by kernel_rfl)) (by unfold Func.isWrapper; first | (rw [if_pos (by decide +kernel)]; kernel_rfl) | (rw [if_neg (by decide +kernel)]; exact ⟨rfl, rfl⟩))
    (fun os started H enc _ => lifted os started H enc)
theorem proved : Rows.FnExactSameViewSaid :=
  over
#print axioms proved
end Go.Proofs.Ytkfcbnbmekljnaa.fnExactSameView

/-
  Proved: Rows.FnExactSlowWorldSaid: laws.FnExactSlowWorld returns true for all arguments, and leaves what it was handed as it was.
-/
import Derived.Test.YthncjpkjmgmdlaaGreatqsL6
namespace Go.Proofs.YthncjpkjmgmdlaaGreat.fnExactSlowWorld
open Go Go.Am Go.ChangeShapes Go.WideShapes Go.ChangeAt Go.RowKit
theorem j0 : (Rows.fnExactSlowWorldRow.wf (OpenSpec.ofChange Rows.fnExactSlowWorldSpec)) = true := by kernel_rfl
theorem j1 : (laidOutB Tryz.prog) = true := by kernel_rfl
theorem j2 : (mapsRowed Tryz.prog) = true := by kernel_rfl
theorem j3 : (Tryz.f6.params.all (Tryz.prog.readableRec ·)) = true := by kernel_rfl
theorem j4 : (namedTie Tryz.prog Rows.fnExactSlowWorldRow.named Rows.fnExactSlowWorldSpec.vars) = true := by kernel_rfl
theorem j5 : ((Rows.fnExactSlowWorldRow.stops == [])) = true := by kernel_rfl
theorem j6 : ((Tryz.prog.stops == [])) = true := by kernel_rfl
theorem j7 : ((Rows.fnExactSlowWorldRow.knobs == [])) = true := by kernel_rfl
theorem j8 : ((Tryz.prog.stopKnobs == [])) = true := by kernel_rfl
theorem j9 : ((Rows.fnExactSlowWorldRow.inPlace == Tryz.prog.inPlace 6)) = true := by kernel_rfl
theorem j10 : ((Rows.fnExactSlowWorldRow.unfollowed == Tryz.prog.unfollowed 6)) = true := by kernel_rfl
theorem j11 : ((Rows.fnExactSlowWorldRow.recurses == Tryz.prog.recurses 6)) = true := by kernel_rfl
theorem j12 : ((Rows.fnExactSlowWorldRow.named == Tryz.prog.varsNamed 6)) = true := by kernel_rfl
theorem j13 : ((Rows.fnExactSlowWorldRow.maps == (Tryz.f6.params.toList ++ Rows.fnExactSlowWorldSpec.plain.varTypes Tryz.prog).any (Tryz.prog.mapsRec ·))) = true := by kernel_rfl
theorem j14 : ((Rows.fnExactSlowWorldRow.ifaces == (Tryz.f6.params.toList ++ Rows.fnExactSlowWorldSpec.plain.varTypes Tryz.prog).any (Tryz.prog.ifacesRec ·))) = true := by kernel_rfl
theorem j15 : ((Rows.fnExactSlowWorldRow.mapsOut == Tryz.prog.mapsAmong Tryz.f6.resultTypes.toList)) = true := by kernel_rfl
theorem j16 : ((Rows.fnExactSlowWorldRow.loops == (Tryz.f6.params.toList ++ Rows.fnExactSlowWorldSpec.plain.varTypes Tryz.prog).any (Tryz.prog.loopsFrom ·))) = true := by kernel_rfl
theorem j17 : ((Rows.fnExactSlowWorldRow.wideKeys == (Tryz.f6.params.toList ++ Rows.fnExactSlowWorldSpec.plain.varTypes Tryz.prog ++ Tryz.f6.resultTypes.toList).any (Tryz.prog.wideKeysFrom ·))) = true := by kernel_rfl
theorem j18 : (Rows.fnExactSlowWorldSpec.vars.all (Tryz.prog.varReadable ·)) = true := by kernel_rfl
theorem j19 : (Tryz.f6.resultTypes.all (fun t => Tryz.prog.readableRec t && decide (t < Tryz.prog.types.size))) = true := by kernel_rfl
theorem j20 : ((Rows.fnExactSlowWorldRow.ifacesOut == Tryz.f6.resultTypes.toList.any (Tryz.prog.ifacesRec ·))) = true := by kernel_rfl
theorem j21 : ((Rows.fnExactSlowWorldRow.loopsOut == Tryz.f6.resultTypes.toList.any (Tryz.prog.loopsFrom ·))) = true := by kernel_rfl
theorem j22 : ((Rows.fnExactSlowWorldRow.plainKeys == Tryz.prog.plainKeys)) = true := by kernel_rfl
theorem j23 : (Rows.fnExactSlowWorldRow.shortTexts.isNone) = true := by kernel_rfl
theorem j24 : (Tryz.prog.stopsHeard) = true := by kernel_rfl
theorem j25 : (Tryz.prog.mayEnter) = true := by kernel_rfl
theorem j26 : ((Rows.fnExactSlowWorldRow.lifted == Tryz.prog.liftsFinal)) = true := by kernel_rfl
theorem j27 : ((Tryz.prog.make == some Rows.fnExactSlowWorldRow.make)) = true := by kernel_rfl
theorem j29 : ((Rows.fnExactSlowWorldRow.pinned == Rows.fnExactSlowWorldRow.pinnedBy)) = true := by kernel_rfl
theorem j30 : ((Rows.fnExactSlowWorldRow.veiled == (Tryz.f6.params.toList ++ Rows.fnExactSlowWorldSpec.plain.varTypes Tryz.prog ++ Tryz.f6.resultTypes.toList).any (Tryz.prog.veiledRec ·))) = true := by kernel_rfl
theorem j31 : (Rows.fnExactSlowWorldRow.veiledFits Tryz.prog Tryz.f6.params.toList (Tryz.f6.params.toList ++ Rows.fnExactSlowWorldSpec.plain.varTypes Tryz.prog ++ Tryz.f6.resultTypes.toList)) = true := by kernel_rfl
theorem andI {a b : Bool} (h1 : a = true) (h2 : b = true) : (a && b) = true := by rw [h1, h2]; rfl
theorem facts : joinedFacts Tryz.prog 6 Tryz.f6 Rows.fnExactSlowWorldSpec Rows.fnExactSlowWorldRow = true := by
 unfold joinedFacts
 exact andI (andI (andI (andI (andI (andI (andI (andI (andI (andI (andI (andI (andI (andI (andI (andI (andI (andI (andI (andI (andI (andI (andI (andI (andI (andI (andI (andI (andI (andI (andI (j0) j1) j2) j3) j4) j5) j6) j7) j8) j9) j10) j11) j12) j13) j14) j15) j16) j17) j18) j19) j20) j21) j22) j23) j24) j25) j26) j27) rfl) j29) j30) j31
theorem over : Rows.fnExactSlowWorldRow.holds Tryz.pinned (OpenSpec.ofChange Rows.fnExactSlowWorldSpec) :=
 OpenClaim.holds_of_wide 6 Tryz.f6 rfl rfl rfl rfl rfl rfl rfl ⟨rfl, rfl, rfl, rfl, rfl⟩ rfl rfl rfl rfl rfl (by kernel_rfl) Tryz.func6
  facts (of_decide_eq_true (by kernel_rfl)) (by unfold Func.isWrapper; first | (rw [if_pos (by decide +kernel)]; kernel_rfl) | (rw [if_neg (by decide +kernel)]; exact ⟨rfl, rfl⟩))
  (fun os started H enc _ => lifted os started H enc)
theorem proved : Rows.FnExactSlowWorldSaid :=
 over
#print axioms proved
end Go.Proofs.YthncjpkjmgmdlaaGreat.fnExactSlowWorld

/-
  Proved: Rows.FnExactNewWorldSaid: laws.FnExactNewWorld returns true for all arguments, and leaves what it was handed as it was.
-/
import Derived.Test.YthncjpkjmgmdlaaqnL5
namespace Go.Proofs.Ythncjpkjmgmdlaa.fnExactNewWorld
open Go Go.Am Go.ChangeShapes Go.WideShapes Go.ChangeAt Go.RowKit
theorem j0 : (Rows.fnExactNewWorldRow.wf (OpenSpec.ofChange Rows.fnExactNewWorldSpec)) = true := by kernel_rfl
theorem j1 : (laidOutB Try.prog) = true := by kernel_rfl
theorem j2 : (mapsRowed Try.prog) = true := by kernel_rfl
theorem j3 : (Try.f5.params.all (Try.prog.readableRec ·)) = true := by kernel_rfl
theorem j4 : (namedTie Try.prog Rows.fnExactNewWorldRow.named Rows.fnExactNewWorldSpec.vars) = true := by kernel_rfl
theorem j5 : ((Rows.fnExactNewWorldRow.stops == [])) = true := by kernel_rfl
theorem j6 : ((Try.prog.stops == [])) = true := by kernel_rfl
theorem j7 : ((Rows.fnExactNewWorldRow.knobs == [])) = true := by kernel_rfl
theorem j8 : ((Try.prog.stopKnobs == [])) = true := by kernel_rfl
theorem j9 : ((Rows.fnExactNewWorldRow.inPlace == Try.prog.inPlace 5)) = true := by kernel_rfl
theorem j10 : ((Rows.fnExactNewWorldRow.unfollowed == Try.prog.unfollowed 5)) = true := by kernel_rfl
theorem j11 : ((Rows.fnExactNewWorldRow.recurses == Try.prog.recurses 5)) = true := by kernel_rfl
theorem j12 : ((Rows.fnExactNewWorldRow.named == Try.prog.varsNamed 5)) = true := by kernel_rfl
theorem j13 : ((Rows.fnExactNewWorldRow.maps == (Try.f5.params.toList ++ Rows.fnExactNewWorldSpec.plain.varTypes Try.prog).any (Try.prog.mapsRec ·))) = true := by kernel_rfl
theorem j14 : ((Rows.fnExactNewWorldRow.ifaces == (Try.f5.params.toList ++ Rows.fnExactNewWorldSpec.plain.varTypes Try.prog).any (Try.prog.ifacesRec ·))) = true := by kernel_rfl
theorem j15 : ((Rows.fnExactNewWorldRow.mapsOut == Try.prog.mapsAmong Try.f5.resultTypes.toList)) = true := by kernel_rfl
theorem j16 : ((Rows.fnExactNewWorldRow.loops == (Try.f5.params.toList ++ Rows.fnExactNewWorldSpec.plain.varTypes Try.prog).any (Try.prog.loopsFrom ·))) = true := by kernel_rfl
theorem j17 : ((Rows.fnExactNewWorldRow.wideKeys == (Try.f5.params.toList ++ Rows.fnExactNewWorldSpec.plain.varTypes Try.prog ++ Try.f5.resultTypes.toList).any (Try.prog.wideKeysFrom ·))) = true := by kernel_rfl
theorem j18 : (Rows.fnExactNewWorldSpec.vars.all (Try.prog.varReadable ·)) = true := by kernel_rfl
theorem j19 : (Try.f5.resultTypes.all (fun t => Try.prog.readableRec t && decide (t < Try.prog.types.size))) = true := by kernel_rfl
theorem j20 : ((Rows.fnExactNewWorldRow.ifacesOut == Try.f5.resultTypes.toList.any (Try.prog.ifacesRec ·))) = true := by kernel_rfl
theorem j21 : ((Rows.fnExactNewWorldRow.loopsOut == Try.f5.resultTypes.toList.any (Try.prog.loopsFrom ·))) = true := by kernel_rfl
theorem j22 : ((Rows.fnExactNewWorldRow.plainKeys == Try.prog.plainKeys)) = true := by kernel_rfl
theorem j23 : (Rows.fnExactNewWorldRow.shortTexts.isNone) = true := by kernel_rfl
theorem j24 : (Try.prog.stopsHeard) = true := by kernel_rfl
theorem j25 : (Try.prog.mayEnter) = true := by kernel_rfl
theorem j26 : ((Rows.fnExactNewWorldRow.lifted == Try.prog.liftsFinal)) = true := by kernel_rfl
theorem j27 : ((Try.prog.make == some Rows.fnExactNewWorldRow.make)) = true := by kernel_rfl
theorem j29 : ((Rows.fnExactNewWorldRow.pinned == Rows.fnExactNewWorldRow.pinnedBy)) = true := by kernel_rfl
theorem j30 : ((Rows.fnExactNewWorldRow.veiled == (Try.f5.params.toList ++ Rows.fnExactNewWorldSpec.plain.varTypes Try.prog ++ Try.f5.resultTypes.toList).any (Try.prog.veiledRec ·))) = true := by kernel_rfl
theorem j31 : (Rows.fnExactNewWorldRow.veiledFits Try.prog Try.f5.params.toList (Try.f5.params.toList ++ Rows.fnExactNewWorldSpec.plain.varTypes Try.prog ++ Try.f5.resultTypes.toList)) = true := by kernel_rfl
theorem andI {a b : Bool} (h1 : a = true) (h2 : b = true) : (a && b) = true := by rw [h1, h2]; rfl
theorem facts : joinedFacts Try.prog 5 Try.f5 Rows.fnExactNewWorldSpec Rows.fnExactNewWorldRow = true := by
 unfold joinedFacts
 exact andI (andI (andI (andI (andI (andI (andI (andI (andI (andI (andI (andI (andI (andI (andI (andI (andI (andI (andI (andI (andI (andI (andI (andI (andI (andI (andI (andI (andI (andI (andI (j0) j1) j2) j3) j4) j5) j6) j7) j8) j9) j10) j11) j12) j13) j14) j15) j16) j17) j18) j19) j20) j21) j22) j23) j24) j25) j26) j27) rfl) j29) j30) j31
theorem over : Rows.fnExactNewWorldRow.holds Try.pinned (OpenSpec.ofChange Rows.fnExactNewWorldSpec) :=
 OpenClaim.holds_of_wide 5 Try.f5 rfl rfl rfl rfl rfl rfl rfl ⟨rfl, rfl, rfl, rfl, rfl⟩ rfl rfl rfl rfl rfl (by kernel_rfl) Try.func5
  facts (of_decide_eq_true (by kernel_rfl)) (by unfold Func.isWrapper; first | (rw [if_pos (by decide +kernel)]; kernel_rfl) | (rw [if_neg (by decide +kernel)]; exact ⟨rfl, rfl⟩))
  (fun os started H enc _ => lifted os started H enc)
theorem proved : Rows.FnExactNewWorldSaid :=
 over
#print axioms proved
end Go.Proofs.Ythncjpkjmgmdlaa.fnExactNewWorld

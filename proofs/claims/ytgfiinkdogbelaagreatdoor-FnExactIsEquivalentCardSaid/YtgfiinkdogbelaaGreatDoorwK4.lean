/-
  Proved: Rows.FnExactIsEquivalentSaid: laws.FnExactIsEquivalent returns true for all arguments, and leaves what it was handed as it was.
-/
import Derived.Test.YtgfiinkdogbelaaGreatDoorwL4
import Derived.Test.YtgfiinkdogbelaaGreatDoorCards
import Derived.Test.YtgfiinkdogbelaaGreatDoorTie
import Derived.SevenTiedAt
namespace Go.Proofs.YtgfiinkdogbelaaGreatDoor.fnExactIsEquivalent
open Go Go.Am Go.ChangeShapes Go.WideShapes Go.ChangeAt Go.RowKit
theorem j0 : (Rows.fnExactIsEquivalentRow.wf (OpenSpec.ofChange Rows.fnExactIsEquivalentSpec)) = true := by kernel_rfl
theorem j1 : (laidOutB Tryz.prog) = true := by kernel_rfl
theorem j2 : (mapsRowed Tryz.prog) = true := by kernel_rfl
theorem j3 : (Tryz.f4.params.all (Tryz.prog.readableRec ·)) = true := by kernel_rfl
theorem j4 : (namedTie Tryz.prog Rows.fnExactIsEquivalentRow.named Rows.fnExactIsEquivalentSpec.vars) = true := by kernel_rfl
theorem j5 : ((Rows.fnExactIsEquivalentRow.stops == [])) = true := by kernel_rfl
theorem j6 : ((Tryz.prog.stops == [])) = true := by kernel_rfl
theorem j7 : ((Rows.fnExactIsEquivalentRow.knobs == [])) = true := by kernel_rfl
theorem j8 : ((Tryz.prog.stopKnobs == [])) = true := by kernel_rfl
theorem j9 : ((Rows.fnExactIsEquivalentRow.inPlace == Tryz.prog.inPlace 4)) = true := by kernel_rfl
theorem j10 : ((Rows.fnExactIsEquivalentRow.unfollowed == Tryz.prog.unfollowed 4)) = true := by kernel_rfl
theorem j11 : ((Rows.fnExactIsEquivalentRow.recurses == Tryz.prog.recurses 4)) = true := by kernel_rfl
theorem j12 : ((Rows.fnExactIsEquivalentRow.named == Tryz.prog.varsNamed 4)) = true := by kernel_rfl
theorem j13 : ((Rows.fnExactIsEquivalentRow.maps == (Tryz.f4.params.toList ++ Rows.fnExactIsEquivalentSpec.plain.varTypes Tryz.prog).any (Tryz.prog.mapsRec ·))) = true := by kernel_rfl
theorem j14 : ((Rows.fnExactIsEquivalentRow.ifaces == (Tryz.f4.params.toList ++ Rows.fnExactIsEquivalentSpec.plain.varTypes Tryz.prog).any (Tryz.prog.ifacesRec ·))) = true := by kernel_rfl
theorem j15 : ((Rows.fnExactIsEquivalentRow.mapsOut == Tryz.prog.mapsAmong Tryz.f4.resultTypes.toList)) = true := by kernel_rfl
theorem j16 : ((Rows.fnExactIsEquivalentRow.loops == (Tryz.f4.params.toList ++ Rows.fnExactIsEquivalentSpec.plain.varTypes Tryz.prog).any (Tryz.prog.loopsFrom ·))) = true := by kernel_rfl
theorem j17 : ((Rows.fnExactIsEquivalentRow.wideKeys == (Tryz.f4.params.toList ++ Rows.fnExactIsEquivalentSpec.plain.varTypes Tryz.prog ++ Tryz.f4.resultTypes.toList).any (Tryz.prog.wideKeysFrom ·))) = true := by kernel_rfl
theorem j18 : (Rows.fnExactIsEquivalentSpec.vars.all (Tryz.prog.varReadable ·)) = true := by kernel_rfl
theorem j19 : (Tryz.f4.resultTypes.all (fun t => Tryz.prog.readableRec t && decide (t < Tryz.prog.types.size))) = true := by kernel_rfl
theorem j20 : ((Rows.fnExactIsEquivalentRow.ifacesOut == Tryz.f4.resultTypes.toList.any (Tryz.prog.ifacesRec ·))) = true := by kernel_rfl
theorem j21 : ((Rows.fnExactIsEquivalentRow.loopsOut == Tryz.f4.resultTypes.toList.any (Tryz.prog.loopsFrom ·))) = true := by kernel_rfl
theorem j22 : ((Rows.fnExactIsEquivalentRow.plainKeys == Tryz.prog.plainKeys)) = true := by kernel_rfl
theorem j23 : (Rows.fnExactIsEquivalentRow.shortTexts.isNone) = true := by kernel_rfl
theorem j24 : (Tryz.prog.stopsHeard) = true := by kernel_rfl
theorem j25 : (Tryz.prog.mayEnter) = true := by kernel_rfl
theorem j26 : ((Rows.fnExactIsEquivalentRow.lifted == Tryz.prog.liftsFinal)) = true := by kernel_rfl
theorem j27 : ((Tryz.prog.make == some Rows.fnExactIsEquivalentRow.make)) = true := by kernel_rfl
theorem j29 : ((Rows.fnExactIsEquivalentRow.pinned == Rows.fnExactIsEquivalentRow.pinnedBy)) = true := by kernel_rfl
theorem j30 : ((Rows.fnExactIsEquivalentRow.veiled == (Tryz.f4.params.toList ++ Rows.fnExactIsEquivalentSpec.plain.varTypes Tryz.prog ++ Tryz.f4.resultTypes.toList).any (Tryz.prog.veiledRec ·))) = true := by kernel_rfl
theorem j31 : (Rows.fnExactIsEquivalentRow.veiledFits Tryz.prog Tryz.f4.params.toList (Tryz.f4.params.toList ++ Rows.fnExactIsEquivalentSpec.plain.varTypes Tryz.prog ++ Tryz.f4.resultTypes.toList)) = true := by kernel_rfl
theorem andI {a b : Bool} (h1 : a = true) (h2 : b = true) : (a && b) = true := by rw [h1, h2]; rfl
theorem facts : joinedFacts Tryz.prog 4 Tryz.f4 Rows.fnExactIsEquivalentSpec Rows.fnExactIsEquivalentRow = true := by
 unfold joinedFacts
 exact andI (andI (andI (andI (andI (andI (andI (andI (andI (andI (andI (andI (andI (andI (andI (andI (andI (andI (andI (andI (andI (andI (andI (andI (andI (andI (andI (andI (andI (andI (andI (j0) j1) j2) j3) j4) j5) j6) j7) j8) j9) j10) j11) j12) j13) j14) j15) j16) j17) j18) j19) j20) j21) j22) j23) j24) j25) j26) j27) rfl) j29) j30) j31
theorem over : Rows.fnExactIsEquivalentRow.holds Tryz.pinned (OpenSpec.ofChange Rows.fnExactIsEquivalentSpec) :=
 OpenClaim.holds_of_wide 4 Tryz.f4 rfl rfl rfl rfl rfl rfl rfl ⟨rfl, rfl, rfl, rfl, rfl⟩ rfl rfl rfl rfl rfl (by kernel_rfl) Tryz.func4
  facts (of_decide_eq_true (by kernel_rfl)) (by unfold Func.isWrapper; first | (rw [if_pos (by decide +kernel)]; kernel_rfl) | (rw [if_neg (by decide +kernel)]; exact ⟨rfl, rfl⟩))
  (fun os started H enc _ => lifted os started H enc)
theorem proved : Rows.FnExactIsEquivalentCardSaid :=
 Claim7.holds_tied_plain_at .later [] [.data, .data, .data, .data, .sentinel, .sentinel, .pinned] true (true, "b2a9bcc59c696e9be3758f16f96117df850cffbac0f293f4eebc556d5d78eaf4") true over (fun _ h => by cases h) (by kernel_rfl) (fun _ h => by cases h) fnExactIsEquivalent_row_tie rfl ⟨rfl, rfl⟩ (by kernel_rfl) rfl
  (fun f fn hf hfn => by
   obtain rfl : f = 4 := Option.some.inj ((show Tryz.prog.funcNamed "loop.example/g00586/laws.FnExactIsEquivalent" = some 4 by kernel_rfl).symm.trans hf) |>.symm
   obtain rfl : fn = Tryz.f4 := (Option.some.inj (Tryz.func4.symm.trans hfn)).symm
   exact ⟨by kernel_rfl, fun j t ht => by
    rw [Tryz.params4] at ht
    have hm : t ∈ [60, 60] := by simpa using Array.mem_of_getElem? ht
    have hall : ([60, 60].all fun u => !Tryz.prog.wantsStandIn u) = true := by kernel_rfl
    exact (show Tryz.prog.wantsStandIn t = false by simpa using List.all_eq_true.1 hall t hm)⟩)
  (by kernel_rfl)
#print axioms proved
end Go.Proofs.YtgfiinkdogbelaaGreatDoor.fnExactIsEquivalent

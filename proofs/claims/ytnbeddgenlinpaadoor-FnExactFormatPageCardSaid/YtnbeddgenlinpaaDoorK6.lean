/-
  Proved: Rows.FnExactFormatPageSaid: laws.FnExactFormatPage returns true for all arguments, and leaves what it was handed as it was.
-/
import Derived.Test.YtnbeddgenlinpaaDoorL6
import Derived.Test.YtnbeddgenlinpaaDoorCards
import Derived.Test.YtnbeddgenlinpaaDoorTie
import Derived.SevenTiedAt
namespace Go.Proofs.YtnbeddgenlinpaaDoor.fnExactFormatPage
open Go Go.Am Go.ChangeShapes Go.WideShapes Go.ChangeAt Go.RowKit
theorem j0 : (Rows.fnExactFormatPageRow.wf (OpenSpec.ofChange Rows.fnExactFormatPageSpec)) = true := by kernel_rfl
theorem j1 : (laidOutB Tryd.prog) = true := by kernel_rfl
theorem j2 : (mapsRowed Tryd.prog) = true := by kernel_rfl
theorem j3 : (Tryd.f6.params.all (Tryd.prog.readableRec ·)) = true := by kernel_rfl
theorem j4 : (namedTie Tryd.prog Rows.fnExactFormatPageRow.named Rows.fnExactFormatPageSpec.vars) = true := by kernel_rfl
theorem j5 : ((Rows.fnExactFormatPageRow.stops == [])) = true := by kernel_rfl
theorem j6 : ((Tryd.prog.stops == [])) = true := by kernel_rfl
theorem j7 : ((Rows.fnExactFormatPageRow.knobs == [])) = true := by kernel_rfl
theorem j8 : ((Tryd.prog.stopKnobs == [])) = true := by kernel_rfl
theorem j9 : ((Rows.fnExactFormatPageRow.inPlace == Tryd.prog.inPlace 6)) = true := by kernel_rfl
theorem j10 : ((Rows.fnExactFormatPageRow.unfollowed == Tryd.prog.unfollowed 6)) = true := by kernel_rfl
theorem j11 : ((Rows.fnExactFormatPageRow.recurses == Tryd.prog.recurses 6)) = true := by kernel_rfl
theorem j12 : ((Rows.fnExactFormatPageRow.named == Tryd.prog.varsNamed 6)) = true := by kernel_rfl
theorem j13 : ((Rows.fnExactFormatPageRow.maps == (Tryd.f6.params.toList ++ Rows.fnExactFormatPageSpec.plain.varTypes Tryd.prog).any (Tryd.prog.mapsRec ·))) = true := by kernel_rfl
theorem j14 : ((Rows.fnExactFormatPageRow.ifaces == (Tryd.f6.params.toList ++ Rows.fnExactFormatPageSpec.plain.varTypes Tryd.prog).any (Tryd.prog.ifacesRec ·))) = true := by kernel_rfl
theorem j15 : ((Rows.fnExactFormatPageRow.mapsOut == Tryd.prog.mapsAmong Tryd.f6.resultTypes.toList)) = true := by kernel_rfl
theorem j16 : ((Rows.fnExactFormatPageRow.loops == (Tryd.f6.params.toList ++ Rows.fnExactFormatPageSpec.plain.varTypes Tryd.prog).any (Tryd.prog.loopsFrom ·))) = true := by kernel_rfl
theorem j17 : ((Rows.fnExactFormatPageRow.wideKeys == (Tryd.f6.params.toList ++ Rows.fnExactFormatPageSpec.plain.varTypes Tryd.prog ++ Tryd.f6.resultTypes.toList).any (Tryd.prog.wideKeysFrom ·))) = true := by kernel_rfl
theorem j18 : (Rows.fnExactFormatPageSpec.vars.all (Tryd.prog.varReadable ·)) = true := by kernel_rfl
theorem j19 : (Tryd.f6.resultTypes.all (fun t => Tryd.prog.readableRec t && decide (t < Tryd.prog.types.size))) = true := by kernel_rfl
theorem j20 : ((Rows.fnExactFormatPageRow.ifacesOut == Tryd.f6.resultTypes.toList.any (Tryd.prog.ifacesRec ·))) = true := by kernel_rfl
theorem j21 : ((Rows.fnExactFormatPageRow.loopsOut == Tryd.f6.resultTypes.toList.any (Tryd.prog.loopsFrom ·))) = true := by kernel_rfl
theorem j22 : ((Rows.fnExactFormatPageRow.plainKeys == Tryd.prog.plainKeys)) = true := by kernel_rfl
theorem j23 : (Rows.fnExactFormatPageRow.shortTexts.isNone) = true := by kernel_rfl
theorem j24 : (Tryd.prog.stopsHeard) = true := by kernel_rfl
theorem j25 : (Tryd.prog.mayEnter) = true := by kernel_rfl
theorem j26 : ((Rows.fnExactFormatPageRow.lifted == Tryd.prog.liftsFinal)) = true := by kernel_rfl
theorem j27 : ((Tryd.prog.make == some Rows.fnExactFormatPageRow.make)) = true := by kernel_rfl
theorem j29 : ((Rows.fnExactFormatPageRow.pinned == Rows.fnExactFormatPageRow.pinnedBy)) = true := by kernel_rfl
theorem j30 : ((Rows.fnExactFormatPageRow.veiled == (Tryd.f6.params.toList ++ Rows.fnExactFormatPageSpec.plain.varTypes Tryd.prog ++ Tryd.f6.resultTypes.toList).any (Tryd.prog.veiledRec ·))) = true := by kernel_rfl
theorem j31 : (Rows.fnExactFormatPageRow.veiledFits Tryd.prog Tryd.f6.params.toList (Tryd.f6.params.toList ++ Rows.fnExactFormatPageSpec.plain.varTypes Tryd.prog ++ Tryd.f6.resultTypes.toList)) = true := by kernel_rfl
theorem andI {a b : Bool} (h1 : a = true) (h2 : b = true) : (a && b) = true := by rw [h1, h2]; rfl
theorem facts : joinedFacts Tryd.prog 6 Tryd.f6 Rows.fnExactFormatPageSpec Rows.fnExactFormatPageRow = true := by
  unfold joinedFacts
  exact andI (andI (andI (andI (andI (andI (andI (andI (andI (andI (andI (andI (andI (andI (andI (andI (andI (andI (andI (andI (andI (andI (andI (andI (andI (andI (andI (andI (andI (andI (andI (j0) j1) j2) j3) j4) j5) j6) j7) j8) j9) j10) j11) j12) j13) j14) j15) j16) j17) j18) j19) j20) j21) j22) j23) j24) j25) j26) j27) rfl) j29) j30) j31
theorem over : Rows.fnExactFormatPageRow.holds Tryd.pinned (OpenSpec.ofChange Rows.fnExactFormatPageSpec) :=
  OpenClaim.holds_of_wide 6 Tryd.f6 rfl rfl rfl rfl rfl rfl rfl ⟨rfl, rfl, rfl, rfl, rfl⟩ rfl rfl rfl rfl rfl (by kernel_rfl) Tryd.func6
    facts (of_decide_eq_true (by kernel_rfl)) (by unfold Func.isWrapper; first | (rw [if_pos (by decide +kernel)]; kernel_rfl) | (rw [if_neg (by decide +kernel)]; exact ⟨rfl, rfl⟩))
    (fun os started H enc _ => lifted os started H enc)
theorem proved : Rows.FnExactFormatPageCardSaid :=
  Claim7.holds_tied_plain_at .later [] [.data, .data, .data] true (true, "1ee541d126394c66806bd8fad3aadf7658142ca6db14ac8ee469c5ba88454e50") false over (fun _ h => by cases h) (by kernel_rfl) (fun _ h => by cases h) fnExactFormatPage_row_tie rfl ⟨rfl, rfl⟩ (by kernel_rfl) rfl
    (fun f fn hf hfn => by
      obtain rfl : f = 6 := Option.some.inj ((show Tryd.prog.funcNamed "loop.example/g00586/laws.FnExactFormatPage" = some 6 by kernel_rfl).symm.trans hf) |>.symm
      obtain rfl : fn = Tryd.f6 := (Option.some.inj (Tryd.func6.symm.trans hfn)).symm
      exact ⟨by kernel_rfl, fun j t ht => by
        rw [Tryd.params6] at ht
        have hm : t ∈ [69] := by simpa using Array.mem_of_getElem? ht
        have hall : ([69].all fun u => !Tryd.prog.wantsStandIn u) = true := by kernel_rfl
        exact (show Tryd.prog.wantsStandIn t = false by simpa using List.all_eq_true.1 hall t hm)⟩)
    (by kernel_rfl)
#print axioms proved
end Go.Proofs.YtnbeddgenlinpaaDoor.fnExactFormatPage

/-
  Proved: Rows.FnRevivedSaid: laws.FnRevived returns true for all arguments, and leaves what it was handed as it was.
-/
import Derived.Test.YthcnbncpgloonaaGreatuL3
namespace Go.Proofs.YthcnbncpgloonaaGreat.fnRevived
open Go Go.Am Go.ChangeShapes Go.WideShapes Go.ChangeAt Go.RowKit
theorem j0:(Rows.fnRevivedRow.wf (OpenSpec.ofChange Rows.fnRevivedSpec))=true:=by kernel_rfl
theorem j1:(laidOutB Tryz.prog)=true:=by kernel_rfl
theorem j2:(mapsRowed Tryz.prog)=true:=by kernel_rfl
theorem j3:(Tryz.f3.params.all (Tryz.prog.readableRec ·))=true:=by kernel_rfl
theorem j4:(namedTie Tryz.prog Rows.fnRevivedRow.named Rows.fnRevivedSpec.vars)=true:=by kernel_rfl
theorem j5:((Rows.fnRevivedRow.stops == []))=true:=by kernel_rfl
theorem j6:((Tryz.prog.stops == []))=true:=by kernel_rfl
theorem j7:((Rows.fnRevivedRow.knobs == []))=true:=by kernel_rfl
theorem j8:((Tryz.prog.stopKnobs == []))=true:=by kernel_rfl
theorem j9:((Rows.fnRevivedRow.inPlace == Tryz.prog.inPlace 3))=true:=by kernel_rfl
theorem j10:((Rows.fnRevivedRow.unfollowed == Tryz.prog.unfollowed 3))=true:=by kernel_rfl
theorem j11:((Rows.fnRevivedRow.recurses == Tryz.prog.recurses 3))=true:=by kernel_rfl
theorem j12:((Rows.fnRevivedRow.named == Tryz.prog.varsNamed 3))=true:=by kernel_rfl
theorem j13:((Rows.fnRevivedRow.maps == (Tryz.f3.params.toList++Rows.fnRevivedSpec.plain.varTypes Tryz.prog).any (Tryz.prog.mapsRec ·)))=true:=by kernel_rfl
theorem j14:((Rows.fnRevivedRow.ifaces == (Tryz.f3.params.toList++Rows.fnRevivedSpec.plain.varTypes Tryz.prog).any (Tryz.prog.ifacesRec ·)))=true:=by kernel_rfl
theorem j15:((Rows.fnRevivedRow.mapsOut == Tryz.prog.mapsAmong Tryz.f3.resultTypes.toList))=true:=by kernel_rfl
theorem j16:((Rows.fnRevivedRow.loops == (Tryz.f3.params.toList++Rows.fnRevivedSpec.plain.varTypes Tryz.prog).any (Tryz.prog.loopsFrom ·)))=true:=by kernel_rfl
theorem j17:((Rows.fnRevivedRow.wideKeys == (Tryz.f3.params.toList++Rows.fnRevivedSpec.plain.varTypes Tryz.prog++Tryz.f3.resultTypes.toList).any (Tryz.prog.wideKeysFrom ·)))=true:=by kernel_rfl
theorem j18:(Rows.fnRevivedSpec.vars.all (Tryz.prog.varReadable ·))=true:=by kernel_rfl
theorem j19:(Tryz.f3.resultTypes.all (λ t=>Tryz.prog.readableRec t && decide (t < Tryz.prog.types.size)))=true:=by kernel_rfl
theorem j20:((Rows.fnRevivedRow.ifacesOut == Tryz.f3.resultTypes.toList.any (Tryz.prog.ifacesRec ·)))=true:=by kernel_rfl
theorem j21:((Rows.fnRevivedRow.loopsOut == Tryz.f3.resultTypes.toList.any (Tryz.prog.loopsFrom ·)))=true:=by kernel_rfl
theorem j22:((Rows.fnRevivedRow.plainKeys == Tryz.prog.plainKeys))=true:=by kernel_rfl
theorem j23:(Rows.fnRevivedRow.shortTexts.isNone)=true:=by kernel_rfl
theorem j24:(Tryz.prog.stopsHeard)=true:=by kernel_rfl
theorem j25:(Tryz.prog.mayEnter)=true:=by kernel_rfl
theorem j26:((Rows.fnRevivedRow.lifted == Tryz.prog.liftsFinal))=true:=by kernel_rfl
theorem j27:((Tryz.prog.make == some Rows.fnRevivedRow.make))=true:=by kernel_rfl
theorem j29:((Rows.fnRevivedRow.pinned == Rows.fnRevivedRow.pinnedBy))=true:=by kernel_rfl
theorem j30:((Rows.fnRevivedRow.veiled == (Tryz.f3.params.toList++Rows.fnRevivedSpec.plain.varTypes Tryz.prog++Tryz.f3.resultTypes.toList).any (Tryz.prog.veiledRec ·)))=true:=by kernel_rfl
theorem j31:(Rows.fnRevivedRow.veiledFits Tryz.prog Tryz.f3.params.toList (Tryz.f3.params.toList++Rows.fnRevivedSpec.plain.varTypes Tryz.prog++Tryz.f3.resultTypes.toList))=true:=by kernel_rfl
theorem k0q {a b:Bool}(h1:a=true)(h2:b=true):(a && b)=true:=by rw [h1,h2]; rfl
theorem j2c:joinedFacts Tryz.prog 3 Tryz.f3 Rows.fnRevivedSpec Rows.fnRevivedRow=true:=by
 unfold joinedFacts
 exact k0q (k0q (k0q (k0q (k0q (k0q (k0q (k0q (k0q (k0q (k0q (k0q (k0q (k0q (k0q (k0q (k0q (k0q (k0q (k0q (k0q (k0q (k0q (k0q (k0q (k0q (k0q (k0q (k0q (k0q (k0q (j0) j1) j2) j3) j4) j5) j6) j7) j8) j9) j10) j11) j12) j13) j14) j15) j16) j17) j18) j19) j20) j21) j22) j23) j24) j25) j26) j27) rfl) j29) j30) j31
theorem o0v:Rows.fnRevivedRow.holds Tryz.pinned (OpenSpec.ofChange Rows.fnRevivedSpec):=
 OpenClaim.holds_of_wide 3 Tryz.f3 rfl rfl rfl rfl rfl rfl rfl ⟨rfl,rfl,rfl,rfl,rfl⟩ rfl rfl rfl rfl rfl (by kernel_rfl) Tryz.func3
  j2c (of_decide_eq_true (by kernel_rfl)) (by unfold Func.isWrapper; first | (rw [if_pos (by decide +kernel)]; kernel_rfl) | (rw [if_neg (by decide +kernel)]; exact ⟨rfl,rfl⟩))
  (λ os started H enc _=>lifted os started H enc)
theorem proved:Rows.FnRevivedSaid:=
 o0v
#print axioms proved
end Go.Proofs.YthcnbncpgloonaaGreat.fnRevived

/-
  Proved: Rows.FnFormatsCardSaid: laws.FnFormats returns true for all arguments, and leaves what it was handed as it was.
-/
import Derived.Test.YtmkhgngckgcpeaaGreatDooruL3
import Derived.Test.YtmkhgngckgcpeaaGreatDoorCards
import Derived.Test.YtmkhgngckgcpeaaGreatDoorTie
import Derived.SevenTiedAt
set_option linter.all false
namespace Go.Proofs.YtmkhgngckgcpeaaGreatDoor.fnFormats
open Go Go.Am Go.ChangeShapes Go.WideShapes Go.ChangeAt Go.RowKit
theorem j0:(Rows.fnFormatsRow.wf (OpenSpec.ofChange Rows.fnFormatsSpec))=true:=by kernel_rfl
theorem j1:(laidOutB Tryz.prog)=true:=by kernel_rfl
theorem j2:(mapsRowed Tryz.prog)=true:=by kernel_rfl
theorem j3:(Tryz.f3.params.all (Tryz.prog.readableRec ·))=true:=by kernel_rfl
theorem j4:(namedTie Tryz.prog Rows.fnFormatsRow.named Rows.fnFormatsSpec.vars)=true:=by kernel_rfl
theorem j5:((Rows.fnFormatsRow.stops==[]))=true:=by kernel_rfl
theorem j6:((Tryz.prog.stops==[]))=true:=by kernel_rfl
theorem j7:((Rows.fnFormatsRow.knobs==[]))=true:=by kernel_rfl
theorem j8:((Tryz.prog.stopKnobs==[]))=true:=by kernel_rfl
theorem j9:((Rows.fnFormatsRow.inPlace==Tryz.prog.inPlace 3))=true:=by kernel_rfl
theorem Cf:((Rows.fnFormatsRow.unfollowed==Tryz.prog.unfollowed 3))=true:=by kernel_rfl
theorem Cg:((Rows.fnFormatsRow.recurses==Tryz.prog.recurses 3))=true:=by kernel_rfl
theorem yP:((Rows.fnFormatsRow.named==Tryz.prog.varsNamed 3))=true:=by kernel_rfl
theorem yQ:((Rows.fnFormatsRow.maps==(Tryz.f3.params.toList++Rows.fnFormatsSpec.plain.varTypes Tryz.prog).any (Tryz.prog.mapsRec ·)))=true:=by kernel_rfl
theorem Iz:((Rows.fnFormatsRow.ifaces==(Tryz.f3.params.toList++Rows.fnFormatsSpec.plain.varTypes Tryz.prog).any (Tryz.prog.ifacesRec ·)))=true:=by kernel_rfl
theorem LF:((Rows.fnFormatsRow.mapsOut==Tryz.prog.mapsAmong Tryz.f3.resultTypes.toList))=true:=by kernel_rfl
theorem LG:((Rows.fnFormatsRow.loops==(Tryz.f3.params.toList++Rows.fnFormatsSpec.plain.varTypes Tryz.prog).any (Tryz.prog.loopsFrom ·)))=true:=by kernel_rfl
theorem Qe:((Rows.fnFormatsRow.wideKeys==(Tryz.f3.params.toList++Rows.fnFormatsSpec.plain.varTypes Tryz.prog++Tryz.f3.resultTypes.toList).any (Tryz.prog.wideKeysFrom ·)))=true:=by kernel_rfl
theorem Y2:(Rows.fnFormatsSpec.vars.all (Tryz.prog.varReadable ·))=true:=by kernel_rfl
theorem I1:(Tryz.f3.resultTypes.all (λt=>Tryz.prog.readableRec t&&decide (t<Tryz.prog.types.size)))=true:=by kernel_rfl
theorem Y3:((Rows.fnFormatsRow.ifacesOut==Tryz.f3.resultTypes.toList.any (Tryz.prog.ifacesRec ·)))=true:=by kernel_rfl
theorem h1e:((Rows.fnFormatsRow.loopsOut==Tryz.f3.resultTypes.toList.any (Tryz.prog.loopsFrom ·)))=true:=by kernel_rfl
theorem h1f:((Rows.fnFormatsRow.plainKeys==Tryz.prog.plainKeys))=true:=by kernel_rfl
theorem h1g:(Rows.fnFormatsRow.shortTexts.isNone)=true:=by kernel_rfl
theorem q0u:(Tryz.prog.stopsHeard)=true:=by kernel_rfl
theorem LH:(Tryz.prog.mayEnter)=true:=by kernel_rfl
theorem h0y:((Rows.fnFormatsRow.lifted==Tryz.prog.liftsFinal))=true:=by kernel_rfl
theorem h0z:((Tryz.prog.make==some Rows.fnFormatsRow.make))=true:=by kernel_rfl
theorem h1h:((Rows.fnFormatsRow.pinned==Rows.fnFormatsRow.pinnedBy))=true:=by kernel_rfl
theorem i0a:((Rows.fnFormatsRow.veiled==(Tryz.f3.params.toList++Rows.fnFormatsSpec.plain.varTypes Tryz.prog++Tryz.f3.resultTypes.toList).any (Tryz.prog.veiledRec ·)))=true:=by kernel_rfl
theorem h1i:(Rows.fnFormatsRow.veiledFits Tryz.prog Tryz.f3.params.toList (Tryz.f3.params.toList++Rows.fnFormatsSpec.plain.varTypes Tryz.prog++Tryz.f3.resultTypes.toList))=true:=by kernel_rfl
theorem da {a b:Bool}(d:a=true)(c:b=true):(a&&b)=true:=by rw[d,c];rfl
theorem Yr:joinedFacts Tryz.prog 3 Tryz.f3 Rows.fnFormatsSpec Rows.fnFormatsRow=true:=by unfold joinedFacts;exact da (da (da (da (da (da (da (da (da (da (da (da (da (da (da (da (da (da (da (da (da (da (da (da (da (da (da (da (da (da (da (j0) j1) j2) j3) j4) j5) j6) j7) j8) j9) Cf) Cg) yP) yQ) Iz) LF) LG) Qe) Y2) I1) Y3) h1e) h1f) h1g) q0u) LH) h0y) h0z) rfl) h1h) i0a) h1i
theorem over:Rows.fnFormatsRow.holds Tryz.pinned (OpenSpec.ofChange Rows.fnFormatsSpec):=
 OpenClaim.holds_of_wide 3 Tryz.f3 rfl rfl rfl rfl rfl rfl rfl ⟨rfl,rfl,rfl,rfl,rfl⟩ rfl rfl rfl rfl rfl (by kernel_rfl) Tryz.func3
  Yr (of_decide_eq_true (by kernel_rfl)) (by unfold Func.isWrapper;first|(rw[if_pos (by decide +kernel)];kernel_rfl)|(rw[if_neg (by decide +kernel)];exact⟨rfl,rfl⟩))
  (λos started H enc _=>lifted os started H enc)
theorem proved:Rows.FnFormatsCardSaid:=
 Claim7.holds_tied_plain_at .later [] [.data,.data,.data] true (true,"2225223d516a3f4960951d00a76842f76d3cb58fde96c36f01c3df8b66171fbd") false over (λ_ h=>by cases h) (by kernel_rfl) (λ_ h=>by cases h) fnFormats_row_tie rfl ⟨rfl,rfl⟩ (by kernel_rfl) rfl
  (λf e g b=>by
   obtain rfl:f=3:=Option.some.inj ((show Tryz.prog.funcNamed "loop.example/g00586/laws.FnFormats" = some 3 by kernel_rfl).symm.trans g) |>.symm
   obtain rfl:e=Tryz.f3:=(Option.some.inj (Tryz.func3.symm.trans b)).symm
   exact⟨by kernel_rfl,λj t c=>by
    rw[Tryz.params3]at c
    have d:t∈[22]:=by simpa using Array.mem_of_getElem? c
    have a:([22].all λu=>!Tryz.prog.wantsStandIn u)=true:=by kernel_rfl
    exact(show Tryz.prog.wantsStandIn t=false by simpa using List.all_eq_true.1 a t d)⟩)
  (by kernel_rfl)
#print axioms proved
end Go.Proofs.YtmkhgngckgcpeaaGreatDoor.fnFormats

/-
  Proved: lemmas for Rows.FnFormatsCardSaid.
-/
import Derived.Test.YtmkhgngckgcpeaaGreatDoorRows
import Derived.Test.YtmkhgngckgcpeaaGreatDooruV22
import Derived.Test.YtmkhgngckgcpeaaGreatDooruAmData
import Derived.ProofKit
import Derived.Lib.LaidU8
set_option linter.all false
namespace Go.Proofs.YtmkhgngckgcpeaaGreatDoor.fnFormats
open Go Go.Am Go.ChangeShapes Go.WideShapes Go.ChangeAt Go.RowKit
def zm:DataW Unit->Value
 |.lit (.int k z)=>Value.int k z
 |_=>.nilIface
def pR:DataW Unit->List Value
 |.agg xs=>xs.flatMap λx=>match x with
  |.agg ys=>ys.map zm
  |x=>[zm x]
 |_=>[]
theorem own:ownKnob Tryz.prog.godebug=none:=by kernel_rfl
def fl:Nat->Bool:=λt=>t != 22
def L:List Nat:=[22,5]
theorem w0b:gd Tryz.prog L=true:=by kernel_rfl
theorem QY:Bp Tryz.prog L fl=true:=by kernel_rfl
theorem cells:Tryz.prog.cellsOf 5=1:=by kernel_rfl
theorem ID:bE Tryz.prog D:=tF agree f0q (by kernel_rfl) QW
theorem told:∀vs,mC Tryz.prog fl Tryz.f3.params.toList vs->D 3 vs=some (.bool true):=by
 intro vs h;rw[Tryz.params3]at h;have d:mC Tryz.prog fl [22] vs:=h;clear h;cases vs with
 |nil=>exact d.elim
 |cons t vs=>
 cases vs with
 |cons v vs=>exact d.2.elim
 |nil=>
  obtain⟨q,l,c0,g⟩:=d.1;obtain⟨_,r0,j,p,w0⟩:=D3 c0 Tryz.underlying22 (by rw[Tryz.underlying5];intro fs a;cases a);have q0:Rw wb tt r0:=λr i=>by obtain⟨s,n,o⟩:=w0 r i;obtain⟨m,c,f⟩:=Pi n Tryz.underlying5;exact⟨m,trivial,by rw[o,c];rfl⟩
  rw[FM (by rw[Tryz.underlying22];intro fs a;cases a),j,cells,show fl 5=true from rfl,List.headD_cons]at g;subst g;obtain⟨b,k,e⟩:=t3 q0;subst k
  obtain⟨r,c,f⟩:=j1m V [.sl 1 true r0] some (.bool true) (by
   show WU z0 (G4 F3) V _ some=_
   unfold WU
   rw[if_pos (by rfl)]
   exact e V _)
  rw[c,f]
noncomputable def su (os:Os):World:=
 { World.holding Tryz.prog os ⟨#[],#[],[]⟩with heap:=((((World.holding Tryz.prog os ⟨#[],#[],[]⟩).heap.modify 2 λ|.cells _ t a=>.cells (pR (Rows.laid_math_bits_deBruijn32tab:DataW Unit)).toArray t a|o=>o).modify 3 λ|.cells _ t a=>.cells (pR (Rows.laid_math_bits_deBruijn64tab:DataW Unit)).toArray t a|o=>o).modify 1 λ|.cells _ t a=>.cells (pR (Rows.laid_internal_strconv_uint64pow10:DataW Unit)).toArray t a|o=>o) }
theorem Et (os:Os)(args:Array Value):laidMet Tryz.prog Rows.fnFormatsRow.laid ((su os).forCall (λ_ _=>0) ⟨#[],args,[]⟩).memory:=
 laidMet_of_run' 8 (by kernel_rfl) (by kernel_rfl)
theorem Yw {W:World}(h:laidMet Tryz.prog Rows.fnFormatsRow.laid W):ck W:=by
 obtain⟨g,t,cs,a,p,f,c,i,j⟩:=Lib.laidMet.reads h (n := "internal/strconv.uint64pow10") (d:=Rows.laid_internal_strconv_uint64pow10) (.tail _ (.tail _ (.head _)));have b:lh W:=by obtain rfl:=Option.some.inj (globNo.symm.trans f);obtain rfl:=Option.some.inj ((show(Tryz.prog.globals[1]?).map (·.type)=some 292 by kernel_rfl).symm.trans c);have e:cs.toList=Lib.pow10Tab.map λz=>Value.int .u64 z:=Lib.cells_of_tab (P:=Tryz.prog) (t:=292) (e:=249) (n:=20) (by kernel_rfl) (by kernel_rfl) (by kernel_rfl) (by kernel_rfl) ((show DataW.trod (λ_=>()) Tryz.prog W 0 (λ_=>true) false a 292 cs.toList=some (Lib.tabData .u64 Lib.pow10Tab,p)from(show(Rows.laid_internal_strconv_uint64pow10:DataW Unit)=Lib.tabData .u64 Lib.pow10Tab by kernel_rfl)▸j));show W.var? Tryz.prog "internal/strconv.uint64pow10" = _;rw[i,<-e]
 exact⟨b,Qb b⟩
set_option maxRecDepth 100000 in
theorem lifted (os:Os)(a:os.Started)(H:Type)(enc:TypeId×Value->H) :
  ReturnsInHanded {} Tryz.checked os 3 .any (λw args=>(Rows.fnFormatsSpec.pre enc Tryz.prog Tryz.f3 Rows.fnFormatsRow.domain false w args/\laidMet Tryz.prog Rows.fnFormatsRow.laid w)/\sizedMet enc Tryz.prog Tryz.f3 (OpenSpec.ofChange Rows.fnFormatsSpec) false w args) (Rows.fnFormatsSpec.post enc Tryz.prog Tryz.f3 false true false false):=by
 refine returnsInHanded_of_change_and (C:=Tryz.checked) (X:=λw _=>laidMet Tryz.prog Rows.fnFormatsRow.laid w) (λ_ _ _ hh h=>h.of_heap hh) own a (by kernel_rfl) Tryz.func3
  (ChangeSpec.witness_at (enc:=enc) (C:=Tryz.checked) (os:=os) (X:=λw _=>laidMet Tryz.prog Rows.fnFormatsRow.laid w) false (su os) #[.slice none 0 0] 8 rfl (by kernel_rfl) (by kernel_rfl) (by kernel_rfl) (by kernel_rfl) (by kernel_rfl) (Et os _)) ?_
 intro W base args e j c b g f _ i _;refine B4 (s:=Rows.fnFormatsSpec) (tb:=4) ID w0b QY (by rw[Tryz.params3];decide) rfl Tryz.underlying4 rfl ?_ told (Yw i) b g;intro e d
 match e,d with
 | [d0],_=>rfl
end Go.Proofs.YtmkhgngckgcpeaaGreatDoor.fnFormats

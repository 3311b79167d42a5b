/-
  Proved: lemmas for Rows.FnFormatsCardSaid.
-/
import Derived.Test.YtmkhgngckgcpeaaGreatDooruAmEvOk2
import Derived.Test.YtmkhgngckgcpeaaGreatDooruAmAgree
import Derived.ReadAgain
import Derived.ChangeSame
import Derived.Handed
import Derived.Lib.Join
import Derived.Lib.Bytealg
import Derived.Lib.Strings
import Derived.Sort.Grow
import Derived.Deep.Draws
set_option linter.all false
section
namespace Go.Am
open Go
section
variable {α:Type}
theorem Pf {k:CK}(e:k.T):k.dec (k.enc e)=some e:=by
 cases k with
 |bool=>rfl
 |int k=>simp[CK.dec,CK.enc]
 |str=>rfl
 |sl s f=>simp[CK.dec,CK.enc]
theorem Ba:∀{ks:List CK} (e:bP ks),bo ks (cK ks e)=some e:=by
 intro ks;induction ks with
 |nil=>intro e;rfl
 |cons k ks f=>
  intro e
  show(match k.dec (k.enc e.1),bo ks (cK ks e.2)with
   |some a,some b=>some (a,b)
   |_,_=>none)=some e
  rw[Pf,f];rfl
theorem uV {ks:List CK}(e:bP ks):im true ks (eC true ks e)=some e:=Ba e
def rows {T:Type}(ks:List CK)(g:T->bP ks)(ys:List T):List V:=ys.map (λy=>eC true ks (g y))
def FV {T:Type}(k:CK)(g:T->k.T)(ys:List T):List V:=ys.map (λy=>k.enc (g y))
section
variable {T:Type}{ks:List CK}{g:T->bP ks}{kd:CK}{g1:T->kd.T}
@[simp] theorem c0t (ys:List T):(rows ks g ys).length=ys.length:=List.length_map _
@[simp] theorem TF (ys:List T):(FV kd g1 ys).length=ys.length:=List.length_map _
@[simp] theorem c0u:rows ks g []=[]:=rfl
@[simp] theorem TG:FV kd g1 []=[]:=rfl
theorem Ei {ys:List T}{i:Nat}{y:T}{k:bP ks->Option α}(h:ys[i]?=some y):idx true ks (rows ks g ys) i k=k (g y):=by unfold idx rows;rw[List.getElem?_map,h];simp only[Option.map_some,Option.bind_some,uV]
end
@[simp] theorem tw (x y:Option α):br true x y=x:=rfl
@[simp] theorem jq (x y:Option α):br false x y=y:=rfl
theorem chkE {p:Prop}{d:Decidable p}{x y:Option α}(h:p)(e:x=y):@chk α p d x=y:=(if_pos h).trans e
theorem q0s {T:Type}{ks:List CK}{g:T->bP ks}{ys:List T}{i:Nat}{y:T}{k:bP ks->Option α}{z:Option α}(h:ys[i]?=some y)(e:k (g y)=z):idx true ks (rows ks g ys) i k=z:=(Ei h).trans e
section
variable {T A R σ O:Type}
end
end
end Go.Am
end
section
namespace Go.Am
open Go Go.RowKit
variable {P:Program}{c:Cfg}{w w':World}
def jx (P:Program):List Field->Nat
 | []=>0
 |f :: fs=>P.cellsOf f.type+jx P fs
def j_ (P:Program):Nat->List Field->Bool
 |_,[]=>true
 |n,f :: fs=>f.offset==n&&j_ P (n+P.cellsOf f.type) fs
def gd (P:Program)(L:List Nat):Bool:=L.all λt=>match P.underlying t with
 |some .bool=>P.cellsOf t==1
 |some (.int _)=>P.cellsOf t==1
 |some .string=>P.cellsOf t==1
 |some (.slice e)=>P.cellsOf t==1&&L.contains e&&decide (0<P.cellsOf e)
 |some (.struct fs)=>fs.toList.all (λf=>L.contains f.type)&&P.cellsOf t==jx P fs.toList&&j_ P 0 fs.toList
 |_=>false
theorem B5 (fs:List Field):(fs.map λf=>P.cellsOf f.type).sum=jx P fs:=by
 induction fs with
 |nil=>rfl
 |cons f fs b=>rw[List.map_cons,List.sum_cons,b];rfl
theorem yW:∀{fs:List Field} {n:Nat},j_ P n fs=true -> ∀(j:Nat) f,fs[j]?=some f->f.offset=n+((fs.take j).map λf=>P.cellsOf f.type).sum:=by
 intro fs;induction fs with
 |nil=>intro n _ j f h;simp at h
 |cons g fs e=>
  intro n h j f b;rw[j_,Bool.and_eq_true,beq_iff_eq]at h;cases j with
  |zero=>simp only[List.getElem?_cons_zero,aK]at b;subst b;simp[h.1]
  |succ j =>have:=e h.2 j f (by simpa using b);simp[this];omega
theorem I4 {L:List Nat}(h:gd P L=true):Kids P (· ∈ L):=by
 unfold gd at h;rw[List.all_eq_true]at h;refine⟨λ{t e} b m=>?_,λ{t e} b m=>?_,λ{t e n} b m=>?_,λ{t fs} b m=>?_,λ{t k e} b m=>?_⟩;·have:=h t b;rw[m]at this;cases this
 ·have:=h t b;rw[m]at this;simp only[Bool.and_eq_true]at this;exact List.contains_iff_mem.1 this.1.2
 ·have:=h t b;rw[m]at this;cases this
 ·have:=h t b;rw[m]at this;simp only[Bool.and_eq_true,List.all_eq_true,beq_iff_eq]at this;refine⟨λf p=>List.contains_iff_mem.1 (this.1.1 f p),by rw[B5];exact this.1.2,λj f p=>?_⟩;have:=yW this.2 j f p;rwa[Nat.zero_add]at this
 ·have:=h t b;rw[m]at this;cases this
theorem Es {L:List Nat}(h:gd P L=true):∀t e,t∈L->P.underlying t=some (.slice e)->0<P.cellsOf e:=by intro t e b f;unfold gd at h;rw[List.all_eq_true]at h;have:=h t b;rw[f]at this;simp only[Bool.and_eq_true,decide_eq_true_eq]at this;exact this.2
def Cn (P:Program)(fl:Nat->Bool):Nat->Nat->List V->Prop
 |0,_,_=>False
 |n+1,t,vs=>match P.underlying t with
  |some .bool=>∃b,vs=[.bool b]
  |some (.int k)=>∃m,vs=[.int k m]/\(Lit.int k m).wf=true
  |some .string=>∃s,vs=[.str s]/\s.length<=maxLen
  |some (.slice e)=>∃rows,vs=[.sl (P.cellsOf e) (fl e) rows]/\rows.length<=maxLen /\ ∀r∈rows,∃h,h.length=P.cellsOf e/\Cn P fl n e h/\r=(match P.underlying e with
   |some (.struct _)=>.agg h
   |_=>h.headD .undef)
  |some (.struct fs)=>vs.length=P.cellsOf t /\ ∀f∈fs.toList,Cn P fl n f.type ((vs.drop f.offset).take (P.cellsOf f.type))
  |_=>False
def Bp (P:Program)(L:List Nat)(fl:Nat->Bool):Bool:=L.all λt=>!fl t||(match P.underlying t with
 |some .bool=>true
 |some (.int _)=>true
 |some .string=>true
 |some (.struct fs)=>fs.toList.all λf=>fl f.type
 |_=>false)
theorem wR {P:Program}{fs:List Field}:∀{o:Nat} {vs:List V},j_ P o fs=true -> ∀(j:Nat),o<=j->j<o+jx P fs -> ∃f∈fs,f.offset<=j/\j<f.offset+P.cellsOf f.type:=by
 induction fs with
 |nil=>intro o vs _ j p b;simp[jx]at b;omega
 |cons f fs m=>
  intro o vs h j p b;rw[j_,Bool.and_eq_true,beq_iff_eq]at h;rw[jx]at b;by_cases r:j<o+P.cellsOf f.type;·exact⟨f,by simp,by omega,by omega⟩
  ·obtain⟨g,e,q⟩:=m (vs:=vs) h.2 j (by omega) (by omega);exact⟨g,by simp[e],q⟩
theorem II {L:List Nat}{fl:Nat->Bool}(E:gd P L=true)(F:Bp P L fl=true):∀(n t:Nat) (vs:List V),t∈L->Cn P fl n t vs->fl t=true -> ∀v∈vs,gf v:=by
 intro n;induction n with
 |zero=>intro t vs _ h;cases h
 |succ n G=>
  intro t vs D h z v r;have p:=List.all_eq_true.1 F t D;rw[z]at p;simp only[Bool.not_true,Bool.false_or]at p;have m:=List.all_eq_true.1 E t D;unfold Cn at h;split at h;·obtain⟨b,rfl⟩:=h;rw[List.mem_singleton.1 r];trivial
  ·obtain⟨b,rfl,_⟩:=h;rw[List.mem_singleton.1 r];trivial
  ·obtain⟨b,rfl,_⟩:=h;rw[List.mem_singleton.1 r];trivial
  ·rename_i e u;rw[u]at p;cases p
  ·rename_i fs u;rw[u]at p m;simp only[List.all_eq_true,Bool.and_eq_true,beq_iff_eq]at p m;obtain⟨M,B⟩:=h;obtain⟨j,C⟩:=List.getElem?_of_mem r;have I:=(bW C).1;obtain⟨f,q,g1,N⟩:=wR (vs:=vs) m.2 j (by omega) (by omega);refine G f.type _ (List.contains_iff_mem.1 (m.1.1 f q)) (B f q) (p f q) v ?_;have:((vs.drop f.offset).take (P.cellsOf f.type))[j-f.offset]?=some v:=by rw[List.getElem?_take_of_lt (by omega),List.getElem?_drop,<-C];congr 1;omega
   exact List.mem_of_getElem? this
  ·cases h
theorem yk {H:Type}{enc:TypeId×Value->H}{base:Nat}{spare:Nat->Bool}{held:Bool}{L:List Nat}{fl:Nat->Bool}(hk:gd P L=true)(hf:Bp P L fl=true) :
  ∀(n t:Nat) (cs:List Value) (x:DataW H×List MemPlace),t∈L->DataW.trod enc P w base spare held n t cs=some x ->
   ∃vs:List V,vs.length=cs.length/\cs.length=P.cellsOf t/\Cn P fl n t vs/\(∀u∈cs,u.oneCell'=true) /\ ∀(j:Nat) (v:V) (u:Value),vs[j]?=some v->cs[j]?=some u->Rd w (λk=>k<w.heap.size) v u:=by
 intro n;induction n with
 |zero=>intro t cs x _ h;simp[DataW.trod]at h
 |succ n ih=>
  intro t cs x ht h;have hkt:=List.all_eq_true.1 hk t ht;have single:∀{v:V} {u:Value},Rd w (λk=>k<w.heap.size) v u -> ∀(j:Nat) (v':V) (u':Value),[v][j]?=some v'->[u][j]?=some u'->Rd w (λk=>k<w.heap.size) v' u':=by
   intro v u h j v' u' h1 h2;cases j with
   |zero=>simp only[List.getElem?_cons_zero,aK]at h1 h2;subst h1;subst h2;exact h
   |succ j=>simp at h1
  cases hu:P.underlying t with
  |none=>rw[hu]at hkt;cases hkt
  |some d=>
   rw[hu]at hkt;cases d with
   |bool =>simp only[beq_iff_eq]at hkt;obtain⟨b,rfl,_⟩:=DataW.trod_bool hu h;exact⟨[.bool b],rfl,hkt.symm,by unfold Cn;rw[hu];exact⟨b,rfl⟩,by simp[Value.oneCell'],single (.bool b)⟩
   |int k =>simp only[beq_iff_eq]at hkt;obtain⟨m,rfl,_,hw⟩:=DataW.trod_int hu h;exact⟨[.int k m],rfl,hkt.symm,by unfold Cn;rw[hu];exact⟨m,rfl,hw⟩,by simp[Value.oneCell'],single (.int k m)⟩
   |string =>simp only[beq_iff_eq]at hkt;obtain⟨s,rfl,_,hl⟩:=DataW.trod_string hu h;refine⟨[.str s.data.toList],rfl,hkt.symm,by unfold Cn;rw[hu];exact⟨_,rfl,by rw[Array.length_toList];exact hl⟩,by simp[Value.oneCell'],single (.str _ s rfl)⟩
   |slice e=>
    simp only[Bool.and_eq_true,beq_iff_eq,decide_eq_true_eq]at hkt;obtain⟨⟨hc1,he⟩,hpos⟩:=hkt;have he:=List.contains_iff_mem.1 he;rcases DataW.trod_slice hu h with⟨rfl,_⟩|⟨a,len,cap,elems,rest,m,hm,rfl,_,hb,hlc,hcm,hel,hget,_,_⟩;·refine⟨[.sl (P.cellsOf e) (fl e) []],rfl,hc1.symm,by unfold Cn;rw[hu];exact⟨[],rfl,Nat.zero_le _,λr hr=>by cases hr⟩,by simp[Value.oneCell'],single (.empty _ _ _ _)⟩
    ·obtain rfl:m=n:=by omega
     -- the rows
     have hrow:∀i,i<len -> ∃us cs' ,us.length=P.cellsOf e/\Cn P fl m e us/\cs'.length=P.cellsOf e/\w.cells? base (a.add (i*P.cellsOf e)) (P.cellsOf e)=some cs'/\(∀u∈cs',u.oneCell'=true) /\
       ∀(j:Nat) (v:V) (u:Value),us[j]?=some v->cs'[j]?=some u->Rd w (λk=>k<w.heap.size) v u:=by
      intro i hi
      have h1:=hget i hi
      cases hcs:w.cells? base (a.add (i*P.cellsOf e)) (P.cellsOf e)with
      |none=>rw[hcs]at h1;simp at h1;omega
      |some cs'=>
       rw[hcs]at h1
       have hsome:∃y,elems[i]?=some y:=⟨_,List.getElem?_eq_getElem (by omega)⟩
       obtain⟨y,hy⟩:=hsome
       rw[hy]at h1
       obtain⟨us,g1,g2,g3,g4,g5⟩:=ih e cs' y he h1
       exact⟨us,cs',by omega,g3,g2,rfl,g4,g5⟩
     have hch:∀i:Nat,∃us:List V,i<len->us.length=P.cellsOf e/\Cn P fl m e us /\ ∃cs',cs'.length=P.cellsOf e/\w.cells? base (a.add (i*P.cellsOf e)) (P.cellsOf e)=some cs'/\(∀u∈cs',u.oneCell'=true) /\
       ∀(j:Nat) (v:V) (u:Value),us[j]?=some v->cs'[j]?=some u->Rd w (λk=>k<w.heap.size) v u:=by
      intro i
      by_cases hi:i<len
      ·obtain⟨us,cs',g1,g2,g3,g4,g5,g6⟩:=hrow i hi
       exact⟨us,λ_=>⟨g1,g2,cs',g3,g4,g5,g6⟩⟩
      ·exact⟨[],λh=>absurd h hi⟩
     let F:Nat->List V:=λi=>(hch i).choose;have hF:∀i,i<len->_:=λi hi=>(hch i).choose_spec hi
     let mk:List V->V:=λus=>match P.underlying e with
      |some (.struct _)=>.agg us
      |_=>us.headD .undef
     have hmk:∀i,i<len->(mk (F i)).cells=F i:=by
      intro i hi;obtain⟨g1,g2,_⟩:=hF i hi
      show(match P.underlying e with
       |some (.struct _)=>V.agg (F i)
       |_=>(F i).headD .undef).cells=F i
      change (F i).length=P.cellsOf e at g1;change Cn P fl m e (F i)at g2;cases m with
      |zero=>cases g2
      |succ m=>
       unfold Cn at g2;split at g2;·rename_i hue;obtain⟨b,hb⟩:=g2;rw[hue,hb];rfl
       ·rename_i k hue;obtain⟨b,hb,_⟩:=g2;rw[hue,hb];rfl
       ·rename_i hue;obtain⟨b,hb,_⟩:=g2;rw[hue,hb];rfl
       ·rename_i e' hue;obtain⟨b,hb,_⟩:=g2;rw[hue,hb];rfl
       ·rename_i fs hue;rw[hue];rfl
       ·cases g2
     let rows:List V:=(List.range len).map λi=>mk (F i);have hrl:rows.length=len:=by simp[rows]
     have hrg:∀(i:Nat) (r:V),rows[i]?=some r->i<len/\r=mk (F i):=by
      intro i r hr;have hi:i<len:=by have:=(bW hr).1;omega
      refine⟨hi,?_⟩;simp only[rows,List.getElem?_map,List.getElem?_range hi,Option.map_some,aK]at hr;exact hr.symm
     refine⟨[.sl (P.cellsOf e) (fl e) rows],rfl,hc1.symm,?_,by simp[Value.oneCell'],single ?_⟩;·unfold Cn;rw[hu];refine⟨rows,rfl,by omega,λr hr=>?_⟩;obtain⟨i,hi⟩:=List.getElem?_of_mem hr;obtain⟨h1,rfl⟩:=hrg i r hi;obtain⟨g1,g2,_⟩:=hF i h1;exact⟨F i,g1,g2,rfl⟩
     ·by_cases h0:len=0;·subst h0;have:rows=[]:=List.eq_nil_of_length_eq_zero hrl;rw[this];exact .empty _ _ _ _
      · -- the address is plain
       have hplain:a.spot=none/\a.block<w.heap.size:=by
        obtain⟨_,_,cs',g3,g4,_⟩:=hF 0 (by omega);unfold World.cells? at g4;split at g4
        ·have g5:=mapM_some_get g4 0 0 (List.getElem?_range hpos);have g6:∃z,cs'[0]?=some z:=⟨_,List.getElem?_eq_getElem (by omega)⟩;obtain⟨z,hz⟩:=g6;rw[hz]at g5;have e0:(a.add (0*P.cellsOf e)).add 0=a:=by simp[Addr.add]
         rw[e0]at g5;unfold World.cell? at g5;split at g5
         ·rename_i cc _ _ hh;split at g5;·cases g5
          ·rename_i hs;refine⟨by simpa using hs,?_⟩;exact(Array.getElem?_eq_some_iff.1 hh).1
         ·cases g5
        ·cases g4
       obtain⟨ablk,aoff,aspot⟩:=a;simp only at hplain;obtain⟨rfl,hblk⟩:=hplain;have haddr:∀i j:Nat,((⟨ablk,aoff,none⟩:Addr).add i).add j=⟨ablk,aoff+i+j,none⟩:=by intro i j;by_cases hi:i=0<;>by_cases hj:j=0<;>simp[Addr.add,hi,hj]
       have hcellat:∀i j:Nat,i<len->j<P.cellsOf e -> ∃u,w.cell? ⟨ablk,aoff+i*P.cellsOf e+j,none⟩=some u/\u.oneCell'=true /\ ∀v,(F i)[j]?=some v->Rd w (λk=>k<w.heap.size) v u:=by
        intro i j hi hj;obtain⟨_,_,cs',g3,g4,g5,g6⟩:=hF i hi;unfold World.cells? at g4;split at g4;·have g7:=mapM_some_get g4 j j (List.getElem?_range hj);obtain⟨z,hz⟩:∃z,cs'[j]?=some z:=⟨_,List.getElem?_eq_getElem (by omega)⟩;rw[hz,haddr]at g7;exact⟨z,g7,g5 z (List.mem_of_getElem? hz),λv hv=>g6 j v z hv hz⟩
        ·cases g4
       refine hrl ▸ .sl (P.cellsOf e) (fl e) rows ablk aoff cap (λi j=>(w.cell? ⟨ablk,aoff+i*P.cellsOf e+j,none⟩).getD undef) (by omega) (by omega) hblk (λr hr=>?_) (λhfl r hr v hv=>?_) (λi j hi hj=>?_) (λi r j v hr hv=>?_);·obtain⟨i,hi⟩:=List.getElem?_of_mem hr;obtain⟨h1,rfl⟩:=hrg i r hi;rw[hmk i h1];exact(hF i h1).1
       ·obtain⟨i,hi⟩:=List.getElem?_of_mem hr;obtain⟨h1,rfl⟩:=hrg i r hi;rw[hmk i h1]at hv;exact II hk hf m e _ he (hF i h1).2.1 hfl v hv
       ·obtain⟨u,h1,h2,_⟩:=hcellat i j (by omega) hj;rw[h1];exact⟨rfl,h2⟩
       ·obtain⟨h1,rfl⟩:=hrg i r hr;rw[hmk i h1]at hv;have hj:j<P.cellsOf e:=by rw[<-(hF i h1).1];exact(bW hv).1
        obtain⟨u,h2,_,h3⟩:=hcellat i j h1 hj;rw[h2];exact h3 v hv
   |struct fs=>
    simp only[Bool.and_eq_true,beq_iff_eq,List.all_eq_true]at hkt;obtain⟨⟨hfm,hsz⟩,hoff⟩:=hkt;obtain⟨xs,m,hm,_,hlen,hxl,hget⟩:=DataW.trod_struct hu h;obtain rfl:m=n:=by omega
    -- the fields
    have hfld:∀(i:Nat) (f:Field),fs.toList[i]?=some f -> ∃us:List V,us.length=P.cellsOf f.type/\Cn P fl m f.type us/\(∀u∈(cs.drop f.offset).take (P.cellsOf f.type),u.oneCell'=true) /\
      ∀(j:Nat) (v:V) (u:Value),us[j]?=some v->((cs.drop f.offset).take (P.cellsOf f.type))[j]?=some u->Rd w (λk=>k<w.heap.size) v u:=by
     intro i f hf'
     have hi:i<fs.size:=by have:=(bW hf').1;rwa[Array.length_toList]at this
     have h1:=hget i f (by simpa using hf')
     obtain⟨y,hy⟩:∃y,xs[i]?=some y:=⟨_,List.getElem?_eq_getElem (by omega)⟩
     rw[hy]at h1
     obtain⟨us,g1,g2,g3,g4,g5⟩:=ih f.type _ y (List.contains_iff_mem.1 (hfm f (List.mem_of_getElem? hf'))) h1
     exact⟨us,by omega,g3,g4,g5⟩
    have build:∀(gs:List Field) (o:Nat),j_ P o gs=true->(∀f∈gs,∃i:Nat,fs.toList[i]?=some f) -> ∃vs:List V,vs.length=jx P gs/\(∀f∈gs,o<=f.offset/\Cn P fl m f.type ((vs.drop (f.offset-o)).take (P.cellsOf f.type))) /\
      ∀(j:Nat) (v:V) (u:Value),vs[j]?=some v->cs[o+j]?=some u->Rd w (λk=>k<w.heap.size) v u:=by
     intro gs
     induction gs with
     |nil=>intro o _ _;exact⟨[],rfl,λf hf=>by simp at hf,λj v u h=>by simp at h⟩
     |cons f gs ihg=>
      intro o ho hin
      rw[j_,Bool.and_eq_true,beq_iff_eq]at ho
      obtain⟨rfl,ho⟩:=ho
      obtain⟨i,hi⟩:=hin f (by simp)
      obtain⟨us,g1,g2,g3,g4⟩:=hfld i f hi
      obtain⟨vs,k1,k2,k3⟩:=ihg _ ho (λf hf=>hin f (by simp[hf]))
      refine⟨us++vs,by rw[List.length_append,jx];omega,λf' hf'=>?_,λj v u hj hu'=>?_⟩
      ·rcases List.mem_cons.1 hf' with rfl|hf'
       ·refine⟨Nat.le_refl _,?_⟩
        rw[Nat.sub_self,List.drop_zero,<-g1,List.take_left']
        ·exact g2
        ·rfl
       ·obtain⟨k4,k5⟩:=k2 f' hf'
        refine⟨by omega,?_⟩
        rw[List.drop_append,List.drop_eq_nil_of_le (by omega),List.nil_append,show f'.offset-f.offset-us.length=f'.offset-(f.offset+P.cellsOf f.type) by omega]
        exact k5
      ·rcases Nat.lt_or_ge j us.length with hlt|hge
       ·rw[List.getElem?_append_left hlt]at hj
        refine g4 j v u hj ?_
        rw[List.getElem?_take_of_lt (by omega),List.getElem?_drop]
        exact hu'
       ·rw[List.getElem?_append_right hge]at hj
        refine k3 _ v u hj ?_
        rw[<-hu']
        congr 1
        omega
    obtain⟨vs,k1,k2,k3⟩:=build fs.toList 0 hoff (λf hf=>List.getElem?_of_mem hf);refine⟨vs,by omega,hlen,?_,λu hu'=>?_,λj v u h1 h2=>k3 j v u h1 (by rw[Nat.zero_add];exact h2)⟩;·unfold Cn;rw[hu];exact⟨by omega,λf hf=>by simpa using(k2 f hf).2⟩
    ·obtain⟨j,hj⟩:=List.getElem?_of_mem hu';have hlt:=(bW hj).1;obtain⟨f,hfm',g1,g2⟩:=wR (vs:=vs) hoff j (by omega) (by omega);obtain⟨i,hi⟩:=List.getElem?_of_mem hfm';obtain⟨us,q1,q2,q3,q4⟩:=hfld i f hi;refine q3 u ?_;have:((cs.drop f.offset).take (P.cellsOf f.type))[j-f.offset]?=some u:=by rw[List.getElem?_take_of_lt (by omega),List.getElem?_drop,<-hj];congr 1;omega
     exact List.mem_of_getElem? this
   |_=>cases hkt
end Go.Am
end
section
namespace Go.Am
open Go Go.RowKit Go.ChangeShapes Go.WideShapes
section
variable {P:Program}{w w':World}{H:Type}{enc:TypeId×Value->H}
def s_ (P:Program)(t:Nat)(vs:List V):V:=
 match P.underlying t with
 |some (.struct _)=>.agg vs
 |_=>vs.headD .undef
theorem Dx {L:List Nat}{fl:Nat->Bool}(r:gd P L=true)(D:Bp P L fl=true){t base:Nat}{v:Value}{d:DataW H}{C:List MemPlace}(z:t∈L)(f:Value.okWide P w .any base t v)
  (h:DataW.Trod enc P w 0 (λ_=>true) true t v d C):∃(n:Nat) (vs:List V),Cn P fl n t vs/\Rd w (λk=>k<w.heap.size) (s_ P t vs) v:=by
 obtain⟨n,B⟩:=h;obtain⟨vs,q,Q,E,N,p⟩:=yk r D n t _ _ z B;refine⟨n,vs,E,?_⟩;have b:=List.all_eq_true.1 r t z;unfold s_;cases m:P.underlying t with
 |none=>rw[m]at b;cases b
 |some M=>
  have j:P.cellsOf t=1->v.cells = #[v]->Rd w (λk=>k<w.heap.size) (vs.headD .undef) v:=by
   intro U G;rw[G]at p q;cases vs with
   |nil=>simp at q
   |cons x xs=>exact p 0 x v rfl rfl
  rw[m]at b;unfold Value.okWide at f;rw[m]at f;cases M with
  |struct fs =>obtain⟨cs,rfl,S,_⟩:=f;refine .agg vs cs ?_ (λi c u I F=>p i c u I (by simpa[Value.cells]using F));rw[q];simp[Value.cells]
  |bool =>simp only[beq_iff_eq]at b;refine j b ?_;cases v<;>first|rfl|simp[Cell.okWide,Cell.ok,m]at f
  |int k =>simp only[beq_iff_eq]at b;refine j b ?_;cases v<;>first|rfl|simp[Cell.okWide,Cell.ok,m]at f
  |string =>simp only[beq_iff_eq]at b;refine j b ?_;cases v<;>first|rfl|simp[Cell.okWide,Cell.ok,m]at f
  |slice e =>simp only[Bool.and_eq_true,beq_iff_eq]at b;refine j b.1.1 ?_;cases v<;>first|rfl|simp[Cell.okWide,Cell.ok,m]at f
  |_=>cases b
def mC (P:Program)(fl:Nat->Bool):List Nat->List V->Prop
 | [],[]=>True
 |t :: e,v :: vs=>(∃(n:Nat) (b:List V),Cn P fl n t b/\v=s_ P t b)/\mC P fl e vs
 |_,_=>False
theorem BV {L:List Nat}{fl:Nat->Bool}(B:gd P L=true)(M:Bp P L fl=true){base:Nat}:∀{e:List Nat} {vs:List Value} {r:List (DataW H)} {q:List MemPlace},(∀t∈e,t∈L) ->
  (∀(j:Nat) t v,e[j]?=some t->vs[j]?=some v->Value.okWide P w .any base t v)->DataW.TrodAll enc P w 0 (λ_=>true) true e vs r q ->
  ∃az:List V,mC P fl e az/\az.length=vs.length /\ ∀(i:Nat) (c:V) (v:Value),az[i]?=some c->vs[i]?=some v->Rd w (λk=>k<w.heap.size) c v:=by
 intro e;induction e with
 |nil =>intro vs r q _ _ h;obtain⟨rfl,rfl,rfl⟩:=trodAll_nil h;exact⟨[],trivial,rfl,λi c v h=>by simp at h⟩
 |cons t e N=>
  intro vs r q u m h;obtain⟨v,S,d,D,a,b,rfl,rfl,rfl,F,I⟩:=trodAll_cons h;obtain⟨n,z,g1,G⟩:=Dx B M (u t (by simp)) (m 0 t v rfl rfl) F;obtain⟨az,C,E,k3⟩:=N (λt Q=>u t (by simp[Q])) (λj t v p f=>m (j+1) t v (by simpa using p) (by simpa using f)) I;refine⟨s_ P t z :: az,⟨⟨n,z,g1,rfl⟩,C⟩,by simp[E],λi c v p f=>?_⟩;cases i with
  |zero=>simp only[List.getElem?_cons_zero,aK]at p f;subst p;subst f;exact G
  |succ i=>exact k3 i c v (by simpa using p) (by simpa using f)
theorem sG {base:Nat}{e:Nat->Bool}{f:Bool}:∀{m:List Nat} {vs:List Value} {q:List (DataW H)} {j:List MemPlace},DataW.TrodAll enc P w base e f m vs q j->(∀p∈j,w.sameAt w' p)->DataW.TrodAll enc P w' base e f m vs q j:=by
 intro m;induction m with
 |nil =>intro vs q j h _;obtain⟨rfl,rfl,rfl⟩:=trodAll_nil h;exact rfl
 |cons t m z =>intro vs q j h hs;obtain⟨v,C,d,u,a,b,rfl,rfl,rfl,⟨n,B⟩,D⟩:=trodAll_cons h;exact⟨a,b,⟨n,DataW.trod_carry n _ _ _ B (λp r=>hs p (List.mem_append_left _ r))⟩,z D (λp r=>hs p (List.mem_append_right _ r)),rfl⟩
theorem B4 {D:Nat->List V->Option V}(hD:bE P D){f:Nat}{u:Func}{s:ChangeSpec}{L:List Nat}{fl:Nat->Bool}{tb:Nat}(I:gd P L=true)(hf:Bp P L fl=true)(hp:∀t∈u.params.toList,t∈L)
  (hr:u.resultTypes = #[tb]) (ab:P.underlying tb=some .bool) (hv:s.vars=[]) (hs:∀(m:List (DataW H)),m.length=u.params.size->s.fn H m = { results:=[.lit (.bool true)],args:=m })
  (M:∀az,mC P fl u.params.toList az->D f az=some (.bool true))
  {W:World} {base:Nat} {args:Array Value} {m gs:List (DataW H)} {r:List MemPlace}
  (aa:ck W) (G:∀(j:Nat) t v,u.params[j]?=some t->args[j]?=some v->Value.okWide P W .any base t v) (hW:DataW.Whole enc P u.params.toList s.vars false W args.toList m gs r) :
  Calls P f args W λe W'=>∃v,e = .returned v/\s.post enc P u false true false false W args v W':=by
 have N:=hW.lt;have X:=hW;obtain⟨p,q,U,hV,rfl,hz,_⟩:=hW;rw[hv]at hV;obtain⟨rfl,rfl⟩:=trodVars_none hV;obtain⟨az,g1,g2,g3⟩:=BV (base:=base) I hf hp (λj t v e1 Z=>G j t v (by simpa using e1) (by simpa using Z)) U;obtain⟨_,C⟩:=hD f az _ (M az g1);refine(C (λk=>k<W.heap.size) W args aa (λk I=>I) (by simpa using g2) (λi c v e1 Z=>g3 i c v e1 (by simpa using Z))).mono (λe W' he=>?_);cases e with
 |returned x=>
  obtain⟨h1,h2,h3,h4,h5,Γ,hx,_⟩:=he;have:=hx.bool_inv;subst this;have Q:m.length=u.params.size:=by
   have:∀{S:List Nat} {vs:List Value} {m:List (DataW H)} {Y:List MemPlace},DataW.TrodAll enc P W 0 (λ_=>true) true S vs m Y->m.length=S.length:=by
    intro S;induction S with
    |nil=>intro vs m Y h;obtain⟨_,rfl,_⟩:=trodAll_nil h;rfl
    |cons t S ih=>intro vs m Y h;obtain⟨v,ac,d,ad,a,b,rfl,rfl,rfl,_,h2⟩:=trodAll_cons h;simp[ih h2]
   simpa using this U
  have z:s.fn H (m++[]) = { results:=[.lit (.bool true)],args:=m }:=by rw[List.append_nil];exact hs m Q
  have B:∀F∈p,W.sameAt W' F:=by
   intro F E;have hl:=N F (by simpa using E);cases F with
   |cell b off=>exact cell?_of_heap (h5 b hl) off
   |map b=>exact h5 b hl
  refine⟨_,rfl,m,[],p++[],[],p,[],X,?_,?_,?_,⟨h1,h3,λi hi=>?_⟩,λh=>by cases h⟩;·rw[z,hr];refine⟨[],[],⟨1,?_⟩,rfl,rfl⟩;simp[Value.cells,DataW.trod,ab]
  ·rw[z];refine sG (DataW.TrodAll.respare (I4 I) (Es I) hp U (λF E=>?_)) B;simpa using N F (by simpa using E)
  ·rw[z,hv];exact rfl
  ·rw[h5 i hi];cases hh:W.heap[i]? with
   |none=>rfl
   |some o=>cases o<;>first|exact⟨rfl,rfl,rfl,λ_ _=>rfl⟩|exact .inr ⟨rfl,rfl⟩|rfl
 |panicked _=>exact he.elim
 |outgrown=>exact he.elim
end
end Go.Am
end
section
namespace Go.Am
open Go
section
variable {O:Type}
theorem l1g {A B C:Type}(f:A->B->C){a a2:A}{b e:B}(j:a=a2)(h:b=e):f a b=f a2 e:=by subst j;subst h;rfl
abbrev x0p (l:List Int):List V:=FV (.int .u8) (λe=>e) l
end
end Go.Am
end
section
namespace Go.Am
open Go
section
variable {α γ O:Type}
def Imp (x:Option α)(y:Option γ)(k:γ->Option α):Prop:=∀r,y=some r->x=k r
theorem c1 {A Z:Type _}(f:A->Z){a b:A}(h:a=b):f a=f b:=h▸rfl
theorem c2 {A B Z:Type _}(f:A->B->Z){a e:A}{b h:B}(m:a=e)(j:b=h):f a b=f e h:=by subst m;subst j;rfl
theorem c3 {A B C Z:Type _}(f:A->B->C->Z){a e:A}{b h:B}{c j:C}(p:a=e)(m:b=h)(q:c=j):f a b c=f e h j:=by subst p;subst m;subst q;rfl
theorem c4 {A B C m Z:Type _}(f:A->B->C->m->Z){a e:A}{b h:B}{c j:C}{d p:m}(r:a=e)(q:b=h)(t:c=j)(u:d=p):f a b c d=f e h j p:=by subst r;subst q;subst t;subst u;rfl
theorem c5 {A B C j E Z:Type _}(f:A->B->C->j->E->Z){a q:A}{b r:B}{c h:C}{d m:j}{e p:E}(z:a=q)(D:b=r)(t:c=h)(v:d=m)(u:e=p):f a b c d e=f q r h m p:=by subst z;subst D;subst t;subst v;subst u;rfl
theorem c6 {A B C m E j Z:Type _}(f:A->B->C->m->E->j->Z){a t:A}{b u:B}{c h:C}{d p:m}{e q:E}{g r:j}(G:a=t)(I:b=u)(z:c=h)(F:d=p)(D:e=q)(v:g=r):f a b c d e g=f t u h p q r:=by subst G;subst I;subst z;subst F;subst D;subst v;rfl
theorem c7 {A B C p E m h Z:Type _}(f:A->B->C->p->E->m->h->Z){a u:A}{b v:B}{c j:C}{d q:p}{e r:E}{g t:m}{i z:h}(M:a=u)(N:b=v)(G:c=j)(L:d=q)(I:e=r)(D:g=t)(F:i=z):f a b c d e g i=f u v j q r t z:=by subst M;subst N;subst G;subst L;subst I;subst D;subst F;rfl
theorem c8 {A B C q E p h F Z:Type _}(f:A->B->C->q->E->p->h->F->Z){a v:A}{b z:B}{c m:C}{d r:q}{e t:E}{g u:p}{i D:h}{j G:F}(U:a=v)(V:b=z)(N:c=m)(S:d=r)(Q:e=t)(I:g=u)(M:i=D)(L:j=G):f a b c d e g i j=f v z m r t u D G:=by subst U;subst V;subst N;subst S;subst Q;subst I;subst M;subst L;rfl
section
variable {T:Type}{ks:List CK}{g:T->bP ks}{kd:CK}{g1:T->kd.T}
end
def c0v (l:List Int):List UInt8:=l.map λn=>UInt8.ofNat n.toNat
theorem ve (l:List Int):dJ (x0p l)=some (c0v l):=by
 induction l with
 |nil=>rfl
 |cons n l b =>show(dJ (x0p l)).map (UInt8.ofNat n.toNat :: ·)=_;rw[b];rfl
def Bs {T:Type}(l:List T)(n:Int):Option T:=if 0<=n then l[n.toNat]? else none
def Qa (s:List UInt8)(n:Int):Option Int:=if 0<=n then(s[n.toNat]?).map (λb=>(b.toNat:Int))else none
def Q2 {T:Type}(l:List T)(n:Int)(f:T->T):Option (List T):=match l[n.toNat]? with
 |some x=>some (l.set n.toNat (f x))
 |none=>none
def Eh {T σ ρ:Type}(b:Nat->T->σ->Option (σ ⊕ ρ))(e:σ->ρ):Nat->List T->σ->Option ρ
 |_,[],s=>some (e s)
 |i,x :: xs,s=>match b i x s with
  |some (.inl s')=>Eh b e (i+1) xs s'
  |some (.inr r)=>some r
  |none=>none
def Yv {T σ ρ:Type}(l:List T)(b:Nat->T->σ->Option (σ ⊕ ρ))(e:σ->ρ)(s:σ):Option ρ:=if l.length<=maxLen then Eh b e 0 l s else none
variable {x y:Option α}{x' y':Option γ}{k:γ->Option α}
theorem Imp.no:Imp x (none:Option γ) k:=λ_ h=>by cases h
theorem Imp.ret {r:γ}(h:x=k r):Imp x (some r) k:=λ_ e=>by cases e;exact h
theorem Imp.br {b e:Bool}(f:b=e)(h:Imp x x' k)(j:Imp y y' k):Imp (br b x y) (Go.Am.br e x' y') k:=by subst f;cases b;exact j;exact h
theorem Imp.chk {p b:Prop}{d:Decidable p}{h:Decidable b}(j:p=b)(f:b->Imp x x' k):Imp (@Go.Am.chk α p d x) (@Go.Am.chk γ b h x') k:=by
 subst j;intro r e;unfold Go.Am.chk at e ⊢;by_cases c:p;·rw[if_pos c]at e ⊢;exact f c r e
 ·rw[if_neg c]at e;cases e
theorem Imp.chkE {p:Prop}{d:Decidable p}(f:p)(b:Imp x x' k):Imp (@Go.Am.chk α p d x) x' k:=λr e=>Go.Am.chkE f (b r e)
theorem hP {A B:Type}{o:Option A}{f:A->Option B}{r:B}(h:o.bind f=some r):∃a,o=some a/\f a=some r:=by
 cases o with
 |none=>cases h
 |some a=>exact⟨a,rfl,h⟩
theorem wG {T:Type}{l:List T}{n:Int}{a:T}(h:Bs l n=some a):0<=n/\l[n.toNat]?=some a:=by
 unfold Bs at h;by_cases c:0<=n;·rw[if_pos c]at h;exact⟨c,h⟩
 ·rw[if_neg c]at h;cases h
section
variable {T:Type}{ks ks':List CK}{g:T->bP ks}{kd:CK}{g1:T->kd.T}{l:List T}{xs:List V}{n n':Int}{i:Nat}{X':T->Option γ}
theorem Imp.idx {d:Decidable (0<=n)}{X:bP ks->Option α}(j:xs=rows ks g l)(q:n=n')(f:∀e,Bs l n'=some e->Imp (X (g e)) (X' e) k):Imp (@Go.Am.chk α (0<=n) d (Go.Am.idx true ks xs n.toNat X)) ((Bs l n').bind X') k:=by subst j;subst q;intro r h;obtain⟨e,b,t⟩:=hP h;obtain⟨m,p⟩:=wG b;exact Go.Am.chkE m (q0s p (f e b r t))
theorem Imp.idxAt {o:Nat}{X:bP ks'->Option α}{b:T->bP ks'}(q:xs=rows ks g l)(t:n.toNat=n'.toNat)(p:∀e,bo ks' (((cK ks (g e)).drop o).take ks'.length)=some (b e))(m:∀e,Bs l n'=some e->Imp (X (b e)) (X' e) k):Imp (Go.Am.idxAt ks' xs n.toNat o X) ((Bs l n').bind X') k:=by
 subst q;intro r h;obtain⟨e,f,j⟩:=hP h;refine Eq.trans ?_ (m e f r j);unfold Go.Am.idxAt rows;rw[t,List.getElem?_map,(wG f).2]
 show(match bo ks' (((cK ks (g e)).drop o).take ks'.length)with
  |some e=>X e
  |none=>none)=_
 rw[p]
theorem Imp.strO {xs:List V}{l:List Int}{X:List UInt8->Option α}(e:xs=x0p l)(f:Imp (X (c0v l)) x' k):Imp (Go.Am.strO xs X) x' k:=by subst e;intro r b;unfold Go.Am.strO;rw[ve];exact f r b
theorem Imp.idxS {s:List UInt8}{X:Int->Option α}{X':Int->Option γ}(p:n=n')(j:∀b,Qa s n'=some b->Imp (X b) (X' b) k):Imp (Go.Am.idxS s n X) ((Qa s n').bind X') k:=by
 subst p;intro r h;obtain⟨b,e,f⟩:=hP h;have m:=j b e r f;unfold Qa at e;by_cases c:0<=n
 ·rw[if_pos c]at e;cases hs:s[n.toNat]? with
  |none=>rw[hs]at e;cases e
  |some v =>rw[hs]at e;cases e;exact Go.Am.chkE c (by rw[hs];exact m)
 ·rw[if_neg c]at e;cases e
theorem Imp.store {o:Nat}{b:List V}{f:T->T}{X:List V->Option α}{X':List T->Option γ}(q:xs=rows ks g l)(t:n.toNat=n'.toNat)(v:∀e,over (cK ks (g e)) o b=some (cK ks (g (f e))))(p:∀e,Q2 l n' f=some e->Imp (X (rows ks g e)) (X' e) k) :
  Imp (bU xs n.toNat o b X) ((Q2 l n' f).bind X') k:=by
 subst q;intro r h;obtain⟨e,j,u⟩:=hP h;refine Eq.trans ?_ (p e j r u);unfold Q2 at j;unfold bU iL rows;rw[t,List.getElem?_map];cases m:l[n'.toNat]? with
 |none=>rw[m]at j;cases j
 |some a=>
  rw[m]at j;cases j
  show(match(match over (cK ks (g a)) o b with
   |some cs=>some ((List.map (λy=>eC true ks (g y)) l).set n'.toNat (gM (eC true ks (g a)) cs))
   |none=>none)with
   |some ys=>X ys
   |none=>none)=_
  rw[v];show X _=X _;rw[List.map_set]
  try rfl
end
theorem Imp.call {A R:Type}{f j:A->Option α}{K:A}{e:Option R}{b:R->Option α}{X':R->Option γ}(t:f=j)(h:Imp (j K) e b)(q:∀r,e=some r->Imp (b r) (X' r) k):Imp (f K) (e.bind X') k:=by subst t;intro r p;obtain⟨a,m,u⟩:=hP p;exact(h a m).trans (q a m r u)
section
variable {σ ρ T:Type}
theorem Ir {step:List Leaf->Option (List Leaf ⊕ (Nat×List Leaf))}{l:List T}{e:Nat->T->σ->Option (σ ⊕ ρ)}{f:σ->ρ}{enc:Nat->σ->List Leaf}{b:ρ->Nat×List Leaf}
  (v:∀i x s,l[i]?=some x->i<l.length->Imp (step (enc i s)) (e i x s) (λz=>some (match z with
   |.inl s'=>.inl (enc (i+1) s')
   |.inr r=>.inr (b r)))) (t:∀s,step (enc l.length s)=some (.inr (b (f s)))):∀(zs:List T) (i:Nat) (s:σ) (r:ρ),l.drop i=zs->i<=l.length->Eh e f i zs s=some r->cN step (enc i s)=some (b r):=by
 intro zs;induction zs with
 |nil=>
  intro i s r j u h;have:i=l.length:=by have:=List.drop_eq_nil_iff.1 j;omega
  subst this;rw[Eh]at h;cases h;rw[eW,t]
 |cons x zs B=>
  intro i s r j u h;have q:l[i]?=some x:=by have:=congrArg (λl=>l[0]?) j;simpa using this
  have p:=(bW q).1;have m:l.drop (i+1)=zs:=by rw[<-List.tail_drop,j];rfl
  rw[Eh]at h;rw[eW];cases hs:e i x s with
  |none=>rw[hs]at h;cases h
  |some z=>
   rw[hs]at h;rw[v i x s q p z hs];cases z with
   |inl s'=>exact B (i+1) s' r m (by omega) h
   |inr C=>cases h;rfl
theorem Imp.for {step:List Leaf->Option (List Leaf ⊕ (Nat×List Leaf))}{l:List T}{f:Nat->T->σ->Option (σ ⊕ ρ)}{j:σ->ρ}{enc:Nat->σ->List Leaf}{b:ρ->Nat×List Leaf}{e:List Leaf}{p:σ}{K:Nat×List Leaf->Option α}{K':ρ->Option γ}
  (u:e=enc 0 p) (v:∀i x s,l[i]?=some x->i<l.length->l.length<=maxLen->Imp (step (enc i s)) (f i x s) (λz=>some (match z with
   |.inl s'=>.inl (enc (i+1) s')
   |.inr r=>.inr (b r)))) (t:∀s,step (enc l.length s)=some (.inr (b (j s)))) (B:∀r,Imp (K (b r)) (K' r) k):Imp (l_ step e K) ((Yv l f j p).bind K') k:=by
 intro r h;obtain⟨a,m,D⟩:=hP h;unfold Yv at m;by_cases c:l.length<=maxLen;·rw[if_pos c]at m;unfold l_;rw[u,Ir (λi x s C q=>v i x s C q c) t l 0 p a rfl (Nat.zero_le _) m];exact B a r D
 ·rw[if_neg c]at m;cases m
end
end
end Go.Am
end
section
namespace Go.Am
open Go Go.RowKit
section
variable {P:Program}{c:Cfg}
def Kept (w w':World):Prop:=w'.os=w.os/\w'.tape=w.tape/\w'.output=w.output/\w.heap.size<=w'.heap.size /\ ∀k,k<w.heap.size->w'.heap[k]?=w.heap[k]?
theorem Kept.refl (w:World):Kept w w:=⟨rfl,rfl,rfl,Nat.le_refl _,λ_ _=>rfl⟩
theorem Kept.below {w w':World}(h:Below w.heap.size w w'):Kept w w':=⟨h.os,h.tape,h.output,h.size,h.block⟩
theorem fL {R:Nat->Prop}{w w':World}{r:V}{x:Value}(b:Kept w w')(e:Rd w' (λ_=>False) r x):Answer R w r x w':=
 ⟨b.1,b.2.1,b.2.2.1,b.2.2.2.1,b.2.2.2.2,{ w0:=w',F:=λk=>w.heap.size<=k,S:=λ_=>False,has:=λ_=>False,blk:=λ_=>0,off:=λ_=>0,cap:=λ_=>0,sz:=λ_=>0,ln:=λ_=>0,lb:=λ_=>False,box:=λ_=>0,R:=λ_=>False,Z:=λ_=>False,N:=λ_ _=>False,U:=True },
  .rd _ _ e,λ_ h=>h,λ_ h=>h.elim,λ_ h=>h.elim,λ_ _ h=>h.elim,λ_ h=>h.elim,λ_ h=>h.elim,trivial,λ_ h=>h.elim,λ_ _ h=>h.elim⟩
def sI (P:Program)(f:Nat)(e:List V->Option V):Prop:=∀args r,e args=some r ->
 (∃fn,P.funcs[f]?=some fn/\fn.body.isNone=false/\(fn.name == "runtime.NumGoroutine")=false) /\
 ∀(R:Nat->Prop) (w:World) (vals:Array Value),ck w->(∀k,R k->k<w.heap.size)->args.length=vals.size->(∀(i:Nat) (c:V) (v:Value),args[i]?=some c->vals[i]?=some v->Rd w R c v) ->
  Calls P f vals w λ
   |.returned x,w'=>Answer R w r x w'
   |_,_=>False
def yF:List (Nat×(List V->Option V))->Nat->List V->Option V
 | [],_,_=>none
 |(g,e) :: r,f,args=>if f=g then e args else yF r f args
theorem Im:bE P (yF []):=λf args r h=>by cases h
theorem jv {g:Nat}{e:List V->Option V}{l:List (Nat×(List V->Option V))}(j:sI P g e)(m:bE P (yF l)):bE P (yF ((g,e) :: l)):=by
 intro f args r h;rw[yF]at h;split at h;·rename_i b;subst b;exact j args r h
 ·exact m f args r h
theorem mS {ext:Nat->List V->Option V}{f:Nat}{e:List V->Option V}{b:List (Bool×List CK)}{G:(O:Type)->mL b->(V->Option O)->Option O}(p:∀args,ext f args=e args)
  (h:∀O (x:mL b) (k:V->Option O) r,G O x k=some r -> ∃v,e (mK b x)=some v/\k v=some r):aC (den P c ext) f (wrap b G):=by
 intro O args k r j;unfold wrap at j;split at j;·rename_i x m;obtain⟨v,q,t⟩:=h O x k r j;exact⟨v,IR (yL m) (by rw[p,<-vZ m];exact q),t⟩
 ·cases j
theorem ME {vals:Array Value}{a:V}(h:[a].length=vals.size):∃x,vals = #[x]/\vals[0]?=some x:=by
 obtain⟨l⟩:=vals;cases l with
 |nil=>simp at h
 |cons x l=>cases l with
  |nil=>exact⟨x,rfl,rfl⟩
  |cons y l=>simp at h
theorem f0n {vals:Array Value}{a b:V}(h:[a,b].length=vals.size):∃x y,vals = #[x,y]/\vals[0]?=some x/\vals[1]?=some y:=by
 obtain⟨l⟩:=vals;cases l with
 |nil=>simp at h
 |cons x l=>cases l with
  |nil=>simp at h
  |cons y l=>cases l with
   |nil=>exact⟨x,y,rfl,rfl,rfl⟩
   |cons z l=>simp at h
theorem kC {w:World}{S:Nat->Prop}{s:List UInt8}{x:Value}(h:Rd w S (.str s) x):∃y:ByteArray,x = .string y/\y.data.toList=s:=by
 cases h with
 |str _ y b=>exact⟨y,rfl,b⟩
theorem nM {w:World}{S:Nat->Prop}{k:IntKind}{n:Int}{x:Value}(h:Rd w S (.int k n) x):x = .int k n:=by cases h;rfl
def fk:List V->Option (List (List UInt8))
 | []=>some []
 |.str s :: vs=>(fk vs).map (s :: ·)
 |_ :: _=>none
theorem yz:∀{xs:List V} {l:List (List UInt8)},fk xs=some l->xs=l.map V.str:=by
 intro xs;induction xs with
 |nil=>intro l h;simp only[fk,aK]at h;subst h;rfl
 |cons x xs e=>
  intro l h;cases x with
  |str s=>
   simp only[fk]at h;cases b:fk xs with
   |none=>rw[b]at h;cases h
   |some m =>rw[b]at h;simp only[Option.map_some,aK]at h;rw[<-h,List.map_cons,<-e b]
  |_=>simp only[fk]at h;cases h
def pN:List V->Option V
 | [.sl 1 true xs,.str sep]=>match fk xs with
  |some l=>if l.length<=140737488355328/\(Lib.join l sep).length<=140737488355328 then some (.str (Lib.join l sep))else none
  |none=>none
 |_=>none
theorem Eb {f:Nat}{fn:Func}(hf:P.funcs[f]?=some fn)(hb:fn.body.isNone=false)(hn:(fn.name == "runtime.NumGoroutine")=false)
  (h0:∀(a:Option Addr) (c:Nat) (sep:ByteArray) (w:World),Calls P f #[.slice a 0 c,.string sep] w λe w'=>e = .returned (.string ⟨#[]⟩)/\w'=w)
  (h1:∀(bk o c:Nat) (xs:List ByteArray) (sep:ByteArray) (w:World),(∀(j:Nat) x,xs[j]?=some x->w.cell? ⟨bk,o+j,none⟩=some (.string x))->bk<w.heap.size->xs.length<=140737488355328->xs.length<=c ->
   (Lib.join (xs.map (·.data.toList)) sep.data.toList).length<=140737488355328 ->
   Calls P f #[.slice (some ⟨bk,o,none⟩) xs.length c,.string sep] w λe w'=>e = .returned (.string ⟨(Lib.join (xs.map (·.data.toList)) sep.data.toList).toArray⟩)/\Below w.heap.size w w'):sI P f pN:=by
 intro args r h;refine⟨⟨fn,hf,hb,hn⟩,λR w vals hg hR hl hv=>?_⟩;unfold pN at h;split at h
 ·rename_i xs sep;split at h
  ·rename_i l hxs;split at h
   ·rename_i hc;simp only[aK]at h;subst h;obtain⟨x,y,rfl,e0,e1⟩:=f0n hl;obtain⟨sp,rfl,hsp⟩:=kC (hv 1 _ _ rfl e1);have hx:=hv 0 _ _ rfl e0;have hxl:=yz hxs;cases hx with
    |empty _ _ a cap=>
     obtain rfl:l=[]:=by cases l with
      |nil=>rfl
      |cons s l=>cases hxl
     refine(h0 a cap sp w).mono (λe w' he=>?_);obtain⟨rfl,rfl⟩:=he;exact fL (Kept.refl _) (.str _ _ (by rw[Lib.join_nil]))
    |sl _ _ _ k o cap g hl2 hcap hS hsz hf2 hg2 hr2=>
     have hlen:xs.length=l.length:=by rw[hxl];simp
     have hmap:(l.map (λs=>(⟨s.toArray⟩:ByteArray))).map (·.data.toList)=l:=by
      rw[List.map_map]
      conv=>rhs;rw[<-List.map_id l]
      exact List.map_congr_left (λs _=>rfl)
     have:=h1 k o cap (l.map (λs=>⟨s.toArray⟩)) sp w (λj x hj=>by
      rw[List.getElem?_map]at hj
      cases hs:l[j]? with
      |none=>rw[hs]at hj;cases hj
      |some s=>
       rw[hs]at hj
       simp only[Option.map_some,aK]at hj
       subst hj
       have hjl:=(bW hs).1
       have hxj:xs[j]?=some (.str s):=by rw[hxl,List.getElem?_map,hs];rfl
       have hc1:=(hg2 j 0 (by omega) (by omega)).1
       have hrd:=hr2 j _ 0 _ hxj rfl
       obtain⟨z,hz,hz2⟩:=kC hrd
       rw[hz]at hc1
       rw[Nat.mul_one,Nat.add_zero]at hc1
       rw[hc1]
       congr 2
       apply ByteArray.ext
       apply Array.ext'
       rw[hz2]) (hR k hS) (by simpa using hc.1) (by simpa[hlen]using hcap) (by rw[hmap,hsp];exact hc.2)
     rw[hmap,hsp,List.length_map,<-hlen]at this;refine this.mono (λe w' he=>?_);obtain⟨rfl,hw⟩:=he;exact fL (Kept.below hw) (.str _ _ rfl)
   ·cases h
  ·cases h
 ·cases h
def wN:(O:Type)->List V->List UInt8->(List UInt8->Option O)->Option O:=λO xs sep k=>
 match fk xs with
 |some l=>chk (l.length<=140737488355328/\(Lib.join l sep).length<=140737488355328) (k (Lib.join l sep))
 |none=>none
theorem Er {xs:List V}{sep:List UInt8}{l:List (List UInt8)}(b:fk xs=some l)(e:l.length<=140737488355328/\(Lib.join l sep).length<=140737488355328):pN [.sl 1 true xs,.str sep]=some (.str (Lib.join l sep)):=by simp only[pN,b];rw[if_pos e]
theorem JU {ext:Nat->List V->Option V}{f:Nat}(h:∀args,ext f args=pN args):aC (den P c ext) f (wrap [(false,[.sl 1 true]),(false,[.str])] (λO e k=>wN O e.1.1 e.2.1.1 (λy=>k (.str y)))):=by
 refine mS h (λO x k r b=>?_);obtain⟨⟨xs,_⟩,⟨sep,_⟩,_⟩:=x;simp only[wN]at b;split at b;·rename_i l j;obtain⟨m,p⟩:=bQ b;exact⟨.str (Lib.join l sep),Er j m,p⟩
 ·cases b
end
end Go.Am
end
section
namespace Go.Am
open Go Go.RowKit Go.Sort
section
variable {P:Program}{c:Cfg}
theorem Kept.grow (w:World)(k:Nat)(os:Array Obj):Kept w (grow (w.drewN k) os):=by
 refine⟨rfl,rfl,rfl,?_,λg h=>?_⟩;·simp[Go.Sort.grow,World.drewN]
 ·simp[Go.Sort.grow,World.drewN,Array.getElem?_append,h]
def pL:List V->Option V
 | [.int .i64 n]=>if -9223372036854775808<=n/\n<=9223372036854775807 then some (.str (Lib.itoa n))else none
 |_=>none
theorem Ea {f:Nat}{fn:Func}(hf:P.funcs[f]?=some fn)(hb:fn.body.isNone=false)(hn:(fn.name == "runtime.NumGoroutine")=false)
  (h1:∀(n:Int) (w:World),ck w -> -9223372036854775808<=n->n<=9223372036854775807->Calls P f #[.int .i64 n] w λe w'=>e = .returned (.string ⟨(Lib.itoa n).toArray⟩) /\ ∃k os,w'=grow (w.drewN k) os):sI P f pL:=by
 intro args r h;refine⟨⟨fn,hf,hb,hn⟩,λR w vals hg hR hl hv=>?_⟩;unfold pL at h;split at h
 ·rename_i n;split at h;·rename_i hc;simp only[aK]at h;subst h;obtain⟨x,rfl,e0⟩:=ME hl;obtain rfl:=nM (hv 0 _ _ rfl e0);refine(h1 n w hg hc.1 hc.2).mono (λe w' he=>?_);obtain⟨rfl,k,os,rfl⟩:=he;exact fL (Kept.grow _ _ _) (.str _ _ rfl)
  ·cases h
 ·cases h
def wK:(O:Type)->Int->(List UInt8->Option O)->Option O:=λO n k=>chk (-9223372036854775808<=n/\n<=9223372036854775807) (k (Lib.itoa n))
theorem Ek {n:Int}(b:-9223372036854775808<=n/\n<=9223372036854775807):pL [.int .i64 n]=some (.str (Lib.itoa n)):=by simp only[pL];rw[if_pos b]
theorem B0 {O:Type}{n:Int}{k:List UInt8->Option O}{r:O}(h:wK O n k=some r):(-9223372036854775808<=n/\n<=9223372036854775807)/\k (Lib.itoa n)=some r:=bQ h
theorem JT {ext:Nat->List V->Option V}{f:Nat}(h:∀args,ext f args=pL args):aC (den P c ext) f (wrap [(false,[.int .i64])] (λO e k=>wK O e.1.1 (λy=>k (.str y)))):=by refine mS h (λO x k r b=>?_);obtain⟨⟨n,_⟩,_⟩:=x;obtain⟨j,m⟩:=B0 (n:=n) b;exact⟨.str (Lib.itoa n),Ek j,m⟩
end
end Go.Am
end
section
namespace Go.Am
open Go Go.RowKit
section
variable {P:Program}{c:Cfg}
def jo (b:UInt8):UInt8:=if b=91 then 60 else if b=93 then 62 else b
def yU:List V->Option V
 | [.str a]=>if a.length<4294967281 then some (.str (a.map jo))else none
 |_=>none
def I7:(O:Type)->List UInt8->(List UInt8->Option O)->Option O:=λO a k=>chk (a.length<4294967281) (k (a.map jo))
theorem I8 {a:List UInt8}(h:a.length<4294967281):yU [.str a]=some (.str (a.map jo)):=by simp only[yU];rw[if_pos h]
theorem Ev {O:Type}{a:List UInt8}{k:List UInt8->Option O}{r:O}(h:I7 O a k=some r):a.length<4294967281/\k (a.map jo)=some r:=bQ h
theorem RH {ext:Nat->List V->Option V}{f:Nat}(h:∀args,ext f args=yU args):aC (den P c ext) f (wrap [(false,[.str])] (λO e k=>I7 O e.1.1 (λj=>k (.str j)))):=by refine mS h (λO x k r b=>?_);obtain⟨⟨a,_⟩,_⟩:=x;obtain⟨m,p⟩:=Ev (a:=a) b;exact⟨_,I8 m,p⟩
theorem Il {f:Nat}{fn:Func}(hf:P.funcs[f]?=some fn)(hb:fn.body.isNone=false)(hn:(fn.name == "runtime.NumGoroutine")=false)
  (h1:∀(a:ByteArray) (w:World),ck w->a.size<4294967281->Calls P f #[.string a] w λe w'=>e = .returned (.string ⟨(a.data.toList.map jo).toArray⟩)/\Kept w w'):sI P f yU:=by
 intro args r h;refine⟨⟨fn,hf,hb,hn⟩,λR w vals hg hR hl hv=>?_⟩;unfold yU at h;split at h
 ·split at h;·rename_i hc;simp only[aK]at h;subst h;obtain⟨x,rfl,e0⟩:=ME hl;obtain⟨sa,rfl,ha⟩:=kC (hv 0 _ _ rfl e0);refine(h1 sa w hg (by rw[<-ha]at hc;exact hc)).mono (λe w' he=>?_);obtain⟨rfl,hk⟩:=he;rw[ha];exact fL hk (.str _ _ rfl)
  ·cases h
 ·cases h
end
end Go.Am
end
section
namespace Go.Am
open Go Go.RowKit
section
variable {P:Program}{c:Cfg}
def o_ (xs:List V)(i:Int):List V:=if 0<=i/\i<xs.length then xs.eraseIdx i.toNat else xs
def xy:List V->Option V
 | [.sl 10 true xs,.int .i64 i]=>if xs.length<=1099511627776 then some (.own 0 10 .flat (o_ xs i))else none
 |_=>none
def Wn:(O:Type)->List V->Int->(List V->Option O)->Option O:=λO xs i k=>chk (xs.length<=1099511627776) (k (o_ xs i))
theorem IH {xs:List V}{i:Int}(h:xs.length<=1099511627776):xy [.sl 10 true xs,.int .i64 i]=some (.own 0 10 .flat (o_ xs i)):=by simp only[xy];rw[if_pos h]
theorem RG {ext:Nat->List V->Option V}{f:Nat}(h:∀args,ext f args=xy args):aC (den P c ext) f (wrap [(false,[.sl 10 true]),(false,[.int .i64])] (λO e k=>Wn O e.1.1 e.2.1.1 (λj=>k (.own 0 10 .flat j)))):=by refine mS h (λO x k r b=>?_);obtain⟨⟨a,_⟩,⟨n,_⟩,_⟩:=x;obtain⟨m,p⟩:=bQ (show chk (a.length<=1099511627776) (k (.own 0 10 .flat (o_ a n)))=some r from b);exact⟨_,IH m,p⟩
end
end Go.Am
end
section
namespace Go.Am
open Go Go.RowKit
structure Ag (n:Nat) (s:Nat->Value) (a:Act):Prop where
  dz:a.defers=[]
  sz:a.tmps.size=n
  at_:∀i,a.tmps.getD i undef=s i
def Sf (s:Nat->Value)(d:Nat)(x:Value):Nat->Value:=λi=>if i=d then x else s i
theorem GQ {s:Nat->Value}{d:Nat}{x:Value}:Sf s d x d=x:=if_pos rfl
theorem Sg {s:Nat->Value}{d i:Nat}{x:Value}(h:i≠d):Sf s d x i=s i:=if_neg h
def LD (s:Nat->Value):Operand->Value
 |.tmp t=>s t
 |.const v=>v
 |.global g=>.pointer (some ⟨g,0,none⟩)
 |.func f=>.func (.func f) #[] #[]
section
variable {P:Program}{n d:Nat}{s:Nat->Value}{a:Act}{w w':World}{x:Value}
theorem Ag.eval (h:Ag n s a):a.eval=LD s:=by
 funext x;cases x with
 |tmp t=>exact h.at_ t
 |_=>rfl
theorem Ag.put (h:Ag n s a)(f:d<n):Ag n (Sf s d x) (a.put (some d) x):=by
 refine⟨h.dz,by simp[Act.put,h.sz],λi=>?_⟩;simp only[Act.put,Array.getD_eq_getD_getElem?,Array.getElem?_setIfInBounds];by_cases b:i=d;·subst b;rw[GQ,if_pos rfl,if_pos (by rw[h.sz];exact f)];rfl
 ·rw[Sg b,if_neg (λe=>b e.symm),<-Array.getD_eq_getD_getElem?];exact h.at_ i
theorem Ag.enter (args:Array Value)(m:Nat):Ag (args.size+m) (λi=>args.getD i undef) { tmps:=args++Array.replicate m undef,defers:=[] }:=by
 refine⟨rfl,by simp,λi=>?_⟩;simp only[Array.getD_eq_getD_getElem?];rcases Nat.lt_or_ge i args.size with h|h;·rw[Array.getElem?_append_left h]
 ·rw[Array.getElem?_append_right h,Array.getElem?_eq_none h,Array.getElem?_replicate];split<;>rfl
def R (P:Program)(n:Nat)(ops:Array Oper)(l:List Oper)(s:Nat->Value)(w:World)(K:(Nat->Value)->World->Prop):Prop:=
 ∀(Q:Exit->Act->World->Prop),(∀s' b w',Ag n s' b->K s' w'->Q .normal b w') -> ∀a,Ag n s a->wpList P ops Q l a w
def W (P:Program)(n:Nat)(c:Code)(s:Nat->Value)(w:World)(K:Exit->(Nat->Value)->World->Prop):Prop:=
 ∀(Q:Exit->Act->World->Prop),(∀e s' b w',Ag n s' b->K e s' w'->Q e b w') -> ∀a,Ag n s a->c.wp P Q a w
variable {ops:Array Oper}{l:List Oper}{o:Oper}{K K':(Nat->Value)->World->Prop}{c c1 c2:Code}{J J':Exit->(Nat->Value)->World->Prop}
theorem R.mono (h:R P n ops l s w K)(f:∀s' w',K s' w'->K' s' w'):R P n ops l s w K':=λQ j a b=>h Q (λs' e w' m p=>j s' e w' m (f s' w' p)) a b
theorem W.mono (h:W P n c s w J)(j:∀e s' w',J e s' w'->J' e s' w'):W P n c s w J':=λQ m a b=>h Q (λe s' f w' p q=>m e s' f w' p (j e s' w' q)) a b
theorem R.nil (h:K s w):R P n ops [] s w K:=λQ b a e=>wpList_nil (b s a w e h)
theorem R.step (e:o.guard=none)(h:∀(a:Act) (Q:Exit->Act->World->Prop) (N:Act->World->Prop),(∀s' b w',Ag n s' b->R P n ops l s' w' K->N b w')->Ag n s a->o.wp P a w N Q):R P n ops (o :: l) s w K:=by intro Q j a f;refine wpList_step λN p=>?_;rw[if_pos (by simp[Region.wanted,e])];exact h a Q N (λs' b w' m q=>p _ _ (q Q j b m)) f
theorem R.value (f:o.guard=none)(j:o.dst=some d)(m:d<n)(e:(execOp (LD s) o).run P w = .ok (.value x) w')(h:R P n ops l (Sf s d x) w' K):R P n ops (o :: l) s w K:=by refine R.step f λa Q N p b=>?_;unfold Oper.wp;rw[b.eval,e,Oper.upon_value,j];exact p _ _ _ (b.put m) h
theorem R.skip (f:o.guard=none)(j:o.dst=none)(e:(execOp (LD s) o).run P w = .ok .skip w')(h:R P n ops l s w' K):R P n ops (o :: l) s w K:=by refine R.step f λa Q N m b=>?_;unfold Oper.wp;rw[b.eval,e,Oper.upon_skip,j];exact m _ a _ b h
theorem R.call {f:FuncId}{args:Array Value}(t:o.guard=none)(p:o.dst=some d)(q:d<n)(j:(execOp (LD s) o).run P w = .ok (.enter f args) w)
  (m:Calls P f args w λe w'=>∃x,e = .returned x/\R P n ops l (Sf s d x) w' K):R P n ops (o :: l) s w K:=by refine R.step t λa Q N r b=>?_;unfold Oper.wp;rw[b.eval,j,Oper.upon_enter];refine Calls.mono m λe w' h=>?_;obtain⟨x,rfl,h⟩:=h;show N (a.put o.dst x) w';rw[p];exact r _ _ _ (b.put q) h
def O1 (P:Program)(n:Nat)(o:Oper)(s:Nat->Value)(w:World)(K:(Nat->Value)->World->Prop):Prop:=
 o.guard=none /\ ∀(a:Act) (Q:Exit->Act->World->Prop) (N:Act->World->Prop),(∀s' b w',Ag n s' b->K s' w'->N b w')->Ag n s a->o.wp P a w N Q
theorem O1.mono (h:O1 P n o s w K)(f:∀s' w',K s' w'->K' s' w'):O1 P n o s w K':=⟨h.1,λa Q N m b=>h.2 a Q N (λs' e w' j p=>m s' e w' j (f s' w' p)) b⟩
theorem R.one (h:O1 P n o s w (λs' w'=>R P n ops l s' w' K)):R P n ops (o :: l) s w K:=R.step h.1 h.2
theorem O1.value (f:o.guard=none)(j:o.dst=some d)(m:d<n)(e:(execOp (LD s) o).run P w = .ok (.value x) w')(h:K (Sf s d x) w'):O1 P n o s w K:=by refine⟨f,λa Q N p b=>?_⟩;unfold Oper.wp;rw[b.eval,e,Oper.upon_value,j];exact p _ _ _ (b.put m) h
theorem O1.skip (f:o.guard=none)(j:o.dst=none)(e:(execOp (LD s) o).run P w = .ok .skip w')(h:K s w'):O1 P n o s w K:=by refine⟨f,λa Q N m b=>?_⟩;unfold Oper.wp;rw[b.eval,e,Oper.upon_skip,j];exact m _ a _ b h
theorem O1.call {f:FuncId}{args:Array Value}(t:o.guard=none)(p:o.dst=some d)(q:d<n)(j:(execOp (LD s) o).run P w = .ok (.enter f args) w)
  (m:Calls P f args w λe w'=>∃x,e = .returned x/\K (Sf s d x) w'):O1 P n o s w K:=by refine⟨t,λa Q N r b=>?_⟩;unfold Oper.wp;rw[b.eval,j,Oper.upon_enter];refine Calls.mono m λe w' h=>?_;obtain⟨x,rfl,h⟩:=h;show N (a.put o.dst x) w';rw[p];exact r _ _ _ (b.put q) h
theorem IE (I:Array Bool->(Nat->Value)->World->Prop){M:(Nat->Value)->World->Prop}(q:∀(j:Nat) (o:Oper),ops[j]?=some o -> ∀e∈o.after.toList,e.on<j)
  (step:∀(b:Array Bool) (s:Nat->Value) (w:World) (i:Nat) (o:Oper),I b s w->ops[i]?=some o->b.getD i true=false->b.size=ops.size->(∀e∈o.after.toList,Region.binds .any e=true->b.getD e.on false=true)->O1 P n o s w (λs' w'=>I (b.setIfInBounds i true) s' w'))
  (t:∀(b:Array Bool) (s:Nat->Value) (w:World),(∀j,j<ops.size->b.getD j true=true)->I b s w->M s w) :
  ∀(f:Nat) (b:Array Bool) (s:Nat->Value) (w:World),I b s w->b.size=ops.size->left ops b<=f -> ∀(Q:Exit->Act->World->Prop),(∀s' D w',Ag n s' D->M s' w'->Q .normal D w') -> ∀a,Ag n s a->wpAny P .any ops Q f b a w:=by
 intro f;induction f with
 |zero=>
  intro b s w E u m Q C a B;have N:=sw (Nat.le_zero.1 m);refine⟨?_,C s a w B (t b s w N E)⟩;cases G:Region.ready .any ops b with
  |nil=>rfl
  |cons i L =>exfalso;obtain⟨z,o,r,_⟩:=mem_ready.1 (show i∈Region.ready .any ops b by rw[G];simp);rw[N i (Array.getElem?_eq_some_iff.1 r).1]at z;cases z
 |succ f Y=>
  intro b s w E u m Q C a B;refine⟨λG=>C s a w B (t b s w (tB (λj o r e F _=>q j o r e (by simpa using F)) u G) E),λi S=>?_⟩;obtain⟨z,o,r,h⟩:=mem_ready.1 S;have v:=(Array.getElem?_eq_some_iff.1 r).1;have p:left ops (b.setIfInBounds i true)<=f:=by have:=wQ u v z;omega
  obtain⟨g1,W⟩:=step b s w i o E r z u (λe F U=>h e (by simpa using F) U);unfold wpOp;rw[r];simp only;rw[if_pos (by simp[Region.wanted,g1])];exact .inl (W a Q _ (λs' D w' V X=>Y _ s' w' X (by simpa using u) p Q C D V) B)
theorem W.drawn {i:Nat}(u:P.follows .mixedOrders=true)(I:Array Bool->(Nat->Value)->World->Prop)(f:∀(j:Nat) (o:Oper),ops[j]?=some o -> ∀e∈o.after.toList,e.on<j)
  (step:∀(b:Array Bool) (s:Nat->Value) (w:World) (i:Nat) (o:Oper),I b s w->ops[i]?=some o->b.getD i true=false->b.size=ops.size->(∀e∈o.after.toList,Region.binds .any e=true->b.getD e.on false=true)->O1 P n o s w (λs' w'=>I (b.setIfInBounds i true) s' w'))
  (h:∀(b:Array Bool) (s:Nat->Value) (w:World),(∀j,j<ops.size->b.getD j true=true)->I b s w->J .normal s w) (t:I (Array.replicate ops.size false) s { w with drawn:=w.drawn+1 }):W P n (.region i ops true) s w J:=by intro Q r a m;refine wp_region_any u ?_;exact IE I f step h ops.size _ s _ t (by simp) pQ Q (λs' v w' p q=>r _ _ _ _ p q) a m
theorem W.skip (h:J .normal s w):W P n .skip s w J:=λQ b a e=>wp_skip (b _ _ _ _ e h)
theorem W.exit {i:Nat}(h:J (.exit i) s w):W P n (.exit i) s w J:=λQ b a e=>wp_exit (b _ _ _ _ e h)
theorem W.ret (h:J .ret s w):W P n .ret s w J:=λQ b a e=>wp_ret (b _ _ _ _ e h)
theorem W.region {i:Nat}(h:R P n ops ops.toList s w (J .normal)):W P n (.region i ops false) s w J:=λQ e a b=>wp_region_list (h Q (λs' m w' f j=>e _ _ _ _ f j) a b)
def e0s (P:Program)(n:Nat)(c:Code)(J:Exit->(Nat->Value)->World->Prop):Exit->(Nat->Value)->World->Prop
 |.normal,s,w=>W P n c s w J
 |e,s,w=>J e s w
theorem W.seq (h:W P n c1 s w (e0s P n c2 J)):W P n (.seq c1 c2) s w J:=by
 intro Q b a p;refine wp_seq (h _ (λe s' m w' f j=>?_) a p);cases e with
 |normal=>exact j Q b m f
 |_=>exact b _ _ _ _ f j
theorem W.cond {y:Operand}{b:Bool}(f:LD s y = .bool b)(h:W P n (if b then c1 else c2) s w J):W P n (.cond y c1 c2) s w J:=λQ j a e=>wp_cond (by rw[e.eval];exact f) (h Q j a e)
def c0s (i:Nat)(J:Exit->(Nat->Value)->World->Prop):Exit->(Nat->Value)->World->Prop
 |.exit j,s,w=>if j=i then J .normal s w else J (.exit j) s w
 |e,s,w=>J e s w
theorem W.block {i:Nat}(h:W P n c s w (c0s i J)):W P n (.block i c) s w J:=by
 intro Q f a p;refine wp_block (h _ (λe s' q w' m b=>?_) a p);cases e with
 |exit j=>
  show(if j=i then _ else _);simp only[c0s]at b;split;·rename_i e;rw[if_pos e]at b;exact f _ _ _ _ m b
  ·rename_i e;rw[if_neg e]at b;exact f _ _ _ _ m b
 |_=>exact f _ _ _ _ m b
open Classical in
theorem W.loop (I:Nat->(Nat->Value)->World->Prop){m:Nat}(B:I m s w)(f:∀m s w,I m s w->W P n c s w (λe s' w'=>match e with
   |.normal=>∃m',m'<m/\I m' s' w'
   |e=>J e s' w')):W P n (.loop c) s w J:=by
 intro Q v a C;have gK:∀(p:Nat->Prop),(∃m,p m) -> ∃m,p m /\ ∀k,p k->m<=k:=by
  intro p ⟨m,D⟩;induction m using Nat.strongRecOn with
  |_ m F=>
   by_cases h:∃k,k<m/\p k;·obtain⟨k,q,G⟩:=h;exact F k q G
   ·exact⟨m,D,λk q=>Nat.le_of_not_lt λj=>h ⟨k,j,q⟩⟩
 let p:Act->World->Nat->Prop:=λa w m=>∃s,Ag n s a/\I m s w;refine wp_loop (λa w=>∃m,p a w m) (λa w=>if h:∃m,p a w m then(gK _ h).choose else 0) ⟨m,s,C,B⟩ (λa w h=>?_);obtain⟨⟨z,E,L⟩,M⟩:=(gK _ h).choose_spec;refine f _ z w L _ (λe s' r w' g1 u=>?_) a E;cases e with
 |normal =>obtain⟨m',j,t⟩:=u;have b:∃m,p r w' m:=⟨m',s',g1,t⟩;refine⟨b,?_⟩;show(if h:∃m,p r w' m then(gK _ h).choose else 0)<(if h:∃m,p a w m then(gK _ h).choose else 0);rw[dif_pos b,dif_pos h];exact Nat.lt_of_le_of_lt ((gK _ b).choose_spec.2 m' ⟨s',g1,t⟩) j
 |_=>exact v _ _ _ _ g1 u
def wC:Code->List Code
 |.seq a b=>wC a++wC b
 |c=>[c]
def WL (P:Program)(n:Nat):List Code->(Nat->Value)->World->(Exit->(Nat->Value)->World->Prop)->Prop
 | [],s,w,J=>J .normal s w
 |c :: cs,s,w,J=>W P n c s w (λe s' w'=>match e with
  |.normal=>WL P n cs s' w' J
  |e=>J e s' w')
theorem WL.mono:∀{cs:List Code} {s:Nat->Value} {w:World} {J J':Exit->(Nat->Value)->World->Prop},WL P n cs s w J->(∀e s' w',J e s' w'->J' e s' w')->WL P n cs s w J':=by
 intro cs;induction cs with
 |nil=>intro s w J J' h b;exact b _ _ _ h
 |cons c cs f=>
  intro s w J J' h b;refine W.mono h (λe s' w' h=>?_);cases e with
  |normal=>exact f h b
  |_=>exact b _ _ _ h
theorem WL.flat:∀(c:Code) (f:List Code) (s:Nat->Value) (w:World) (J:Exit->(Nat->Value)->World->Prop),WL P n (wC c++f) s w J->WL P n (c :: f) s w J:=by
 intro c;induction c with
 |seq a b j m=>
  intro f s w J h;rw[wC,List.append_assoc]at h;have h:=j _ _ _ _ h;refine W.seq (W.mono h (λe s' w' h=>?_));cases e with
  |normal=>exact m f s' w' J h
  |_=>exact h
 |_=>intro f s w J h;exact h
theorem WL.code (h:WL P n (wC c) s w J):W P n c s w J:=by
 have:=WL.flat c [] s w J (by rw[List.append_nil];exact h);refine W.mono this (λe s' w' h=>?_);cases e with
 |normal=>exact h
 |_=>exact h
end
end Go.Am
end

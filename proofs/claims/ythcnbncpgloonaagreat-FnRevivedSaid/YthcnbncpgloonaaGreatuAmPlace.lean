/-
  A function's results, placed: named by the first cell that hangs on each base.
-/
import Derived.Test.YthcnbncpgloonaaGreatuAmWr
section
set_option linter.unusedVariables false
set_option linter.unusedSimpArgs false
namespace Go.Am
open Go Go.RowKit
section
variable {P:Program}{c:Cfg}{Γ Γ':Ctx}{st:St}{a:Act}{w w':World}{den:Nat→List V→Option V}{η:Nat→Option V}{d:Nat}
theorem m0p {ops:Array Oper}(hs:Sim Γ st a w){o:Oper}{b:Bool}(h:wanted ops st.t o=some b):Region.wanted o (yielded ops a.tmps)=b:=by
 unfold wanted at h
 unfold Region.wanted
 split at h
 ·rename_i hg
  simp only [sj_] at h
  subst h
  simp [hg]
 ·rename_i j want hg
  simp only [hg]
  split at h
  ·rename_i d hd
   have hv:VR Γ w (st.t.getD d .undef) (a.tmps.getD d undef):=by simpa [Am.ev,Act.eval] using hs.ev (.tmp d)
   unfold yielded
   rw [hd]
   split at h
   ·rename_i b' hb
    simp only [sj_] at h
    rw [hb] at hv
    have:=hv.bool_inv
    cases ht:a.tmps[d]? with
    | none=>simp [Array.getD_eq_getD_getElem?,ht] at this; cases this
    | some x=>
     simp [Array.getD_eq_getD_getElem?,ht] at this
     subst this
     simp [ht,← h]
   ·rename_i hb
    simp only [sj_] at h
    rw [hb] at hv
    obtain ⟨vs,e,_⟩:=hv.tup_inv
    cases ht:a.tmps[d]? with
    | none=>simp [ht,← h]
    | some x=>
     simp [Array.getD_eq_getD_getElem?,ht] at e
     subst e
     simp [ht,← h]
   ·cases h
  ·rename_i hd
   simp only [sj_] at h
   simp [yielded,hd,← h]
theorem q0u (hs:Sim Γ st a w)(d:Nat):Sim Γ { st with t:=st.t.set d d0g } (a.put (some d) undef) w:=
 hs.put (v:=d0g) (x:=undef) (.tup [] #[] rfl (λ i c v h=>by simp at h))
theorem s0p (ds:List Nat):∀ (l:List V) (k i:Nat),(g0b ds k l)[i]? = (l[i]?).map λ v=>if ds.contains (k+i) then .undef else v:=by
 intro l
 induction l with
 | nil=>intro k i; rfl
 | cons v l ih=>
  intro k i
  rw [g0b]
  cases i with
  | zero=>simp
  | succ i=>
   simp only [List.getElem?_cons_succ,ih]
   rw [show k+1+i=k+(i+1) by omega]
theorem s0q (ds:List Nat):∀ (l:List V) (k:Nat),(g0b ds k l).length=l.length:=by
 intro l
 induction l with
 | nil=>intro k; rfl
 | cons v l ih=>intro k; rw [g0b,List.length_cons,ih,List.length_cons]
theorem h1v (ds:List Nat):∀ (l:List (Option V)) (k i:Nat) (v:V),(u0j ds k l)[i]? = some (some v)→l[i]? = some (some v):=by
 intro l
 induction l with
 | nil=>intro k i v h; simp [u0j] at h
 | cons x l ih=>
  intro k i v h
  rw [u0j] at h
  cases i with
  | zero=>
   simp only [List.getElem?_cons_zero,sj_] at h ⊢
   split at h
   ·cases h
   ·exact h
  | succ i=>exact ih _ _ _ (by simpa using h)
theorem Sim.sweepC {f:V→Option V}{dead:Nat→Bool}{dup:Bool}(C:V→Prop)(hagg:∀ cs,C (.agg cs) → ∀ u∈cs,C u)(htup:∀ cs,C (.tup cs) → ∀ u∈cs,C u)(hclo:∀ g cs,C (.clo g cs) → ∀ u∈cs,C u)
  (hs:Sim Γ st a w) (hCt:∀ u∈st.t,C u) (hCh:∀ u,some u∈st.h→C u)
  (hl:∀ v x,(match v with
   | .agg _=>False
   | .tup _=>False
   | .clo _ _=>False
   | _=>True)→C v→VR Γ w v x→VR Γ' w' ((f v).getD v) x) (hf:∀ v u,f v=some u→u.cells=[u]) (hg:Good Γ' w') (hlb:∀ k,Γ.lb k→Γ'.lb k) (hbox:∀ k,Γ'.box k=Γ.box k)
  (hw:∀ k,Γ.lb k→w'.heap[Γ.box k]? = w.heap[Γ.box k]?) (hn:∀ b,Γ'.has b→dead b=false → ¬ Γ'.S (Γ'.blk b))
  (hdu:dup=false→Γ'.U) (hnd:Γ'.U → ∀ b b',Γ'.has b→Γ'.has b' → dead b=false→dead b' = false→b ≠ b' → ∀ m,Γ'.N b m→Γ'.N b' m→False) (hnt:Γ'.nt=Γ.nt:=by rfl):Sim Γ' { st.sweep f with dead:=dead,dup:=dup } a w':=by
 refine ⟨hg,hs.dz,?_,λ i v h=>?_,λ k v h=>?_,hn,hdu,hnd,by rw [hnt,← hs.nt]; exact a0f f st.t⟩
 ·show _=(V.mapBs f st.t).length
  rw [a0f]; exact hs.len
 ·change (V.mapBs f st.t)[i]? = some v at h
  rw [a0e] at h
  cases hc:st.t[i]? with
  | none=>rw [hc] at h; cases h
  | some u=>
   rw [hc] at h
   simp only [Option.map_some,sj_] at h
   subst h
   obtain ⟨x,h1,h2⟩:=hs.tm i u hc
   exact ⟨x,h1,VR.sweepC C hagg htup hclo hl u x (hCt u (a0a hc)) h2⟩
 ·change (d0c f st.h)[k]? = some (some v) at h
  rw [j0d] at h
  cases hc:st.h[k]? with
  | none=>rw [hc] at h; cases h
  | some uo=>
   cases uo with
   | none=>rw [hc] at h; cases h
   | some u=>
    rw [hc] at h
    simp only [Option.map_some,sj_] at h
    subst h
    obtain ⟨h1,cur,e,h2,h3,h4⟩:=hs.bx k u hc
    have hCu:=hCh u (a0a hc)
    refine ⟨hlb k h1,cur,e,by rw [hbox,hw k h1]; exact h2,?_,λ j z hz=>?_⟩
    ·rw [d0a f hf,a0f]; exact h3
    ·rw [d0a f hf,a0e] at hz
     cases hu:u.cells[j]? with
     | none=>rw [hu] at hz; cases hz
     | some y=>
      rw [hu] at hz
      simp only [Option.map_some,sj_] at hz
      subst hz
      obtain ⟨x,e1,e2⟩:=h4 j y hu
      refine ⟨x,e1,VR.sweepC C hagg htup hclo hl y x ?_ e2⟩
      cases u with
      | agg cs=>exact hagg cs hCu y (a0a hu)
      | _=>
       obtain rfl:j=0:=by
        cases j with
        | zero=>rfl
        | succ j=>simp [V.cells] at hu
       simp only [V.cells,List.getElem?_cons_zero,sj_] at hu
       subst hu
       exact hCu
theorem n0f (dead:Nat→Bool):∀ v u,b0s dead v=some u→u.cells=[u]:=by
 intro v u h
 cases v <;> simp only [b0s] at h <;> first
  | (cases h; done)
  | (split at h <;> first
    | (simp only [sj_] at h; subst h; first | rfl | (split <;> rfl))
    | cases h)
theorem t0i (l:List Nat):∀ v u,e0d l v=some u→u.cells=[u]:=by
 intro v u h
 cases v <;> simp only [e0d] at h <;> first
  | (cases h; done)
  | (simp only [sj_] at h; subst h; rfl)
theorem z0g (l:List Nat):∀ v u,f0z l v=some u→u.cells=[u]:=by
 intro v u h
 cases v <;> simp only [f0z] at h <;> first
  | (cases h; done)
  | (split at h <;> first
    | (simp only [sj_] at h; subst h; rfl)
    | cases h)
def Ctx.settled (Γ:Ctx)(dead:Nat→Bool):Ctx:={ Γ with S:=λ k=>Γ.S k ∨ ∃ b,Γ.has b∧dead b=true∧k=Γ.blk b,has:=λ b=>Γ.has b∧dead b=false }
theorem Good.settled {dead:Nat→Bool}(g:Good Γ w):Good (Γ.settled dead) w:=by
 refine ⟨g.os,g.tape,g.output,g.size,g.old,g.new,?_,λ b hb=>g.base b hb.1,λ b b' hb hb'=>g.baseInj b b' hb.1 hb'.1,λ k hk=>?_,g.boxInj,λ b k hb hk=>g.baseBox b k hb.1 hk,?_,g.gl,λ b hb=>g.bz b hb.1,g.zf,λ b hb m hm=>⟨.inl (g.ns b hb.1 m hm).1,(g.ns b hb.1 m hm).2⟩,λ h=>g.h9 h.1⟩
 ·rintro k (h | ⟨b,hb,_,rfl⟩)
  ·exact g.slt k h
  ·exact (g.base b hb).2.1
 ·obtain ⟨h1,h2,h3⟩:=g.box k hk
  refine ⟨h1,?_,h3⟩
  rintro (h | ⟨b,hb,_,h⟩)
  ·exact h2 h
  ·exact g.baseBox b k hb hk h.symm
 ·rintro k (h | ⟨b,hb,_,rfl⟩)
  ·exact g.sr k h
  ·exact .inr (g.base b hb).1
theorem d1c {dead:Nat→Bool}{q:Q}{k:Nat}(h:Γ.Sq q k):(Γ.settled dead).Sq q k:=by
 cases q with
 | any=>exact .inl h
 | flat=>exact ⟨.inl h.1,h.2⟩
 | clean=>exact ⟨.inl h.1,h.2⟩
theorem h0p {dead:Nat→Bool}(g:Good Γ w):s0a Γ (Γ.settled dead) w w (b0s dead):=by
 have rr:∀ {q:Q} {s k o:Nat} {xs:List V},Rows w (Γ.Sq q) s xs k o→Rows w ((Γ.settled dead).Sq q) s xs k o:=λ h=>h.mono (λ _=>d1c) (λ _ _ _=>rfl) (λ _ _ _=>rfl)
 have rs:∀ {q:Q} {s k o:Nat} {xs:List V},Rows w (Γ.Sq q) s xs k o→Rows w (Γ.settled dead).S s xs k o:=λ h=>h.mono (λ k hk=>.inl (p0b hk)) (λ _ _ _=>rfl) (λ _ _ _=>rfl)
 have uu:∀ {q:Q} {b s k o:Nat} {xs:List V},Γ.Uq w q b s xs k o→(Γ.settled dead).Uq w q b s xs k o:=λ h=>Ctx.Uq.mono (Γ:=Γ) (Γ':=Γ.settled dead) (λ h=>h) (λ _ h=>h) (λ _ h=>.inl h) (λ _ _ _=>rfl) (λ _ _ _=>rfl) h
 have rd:∀ {u:V} {y:Value},Rd w Γ.S u y→Rd w (Γ.settled dead).S u y:=λ h=>h.mono (λ k hk=>.inl hk) (λ _ _ _=>rfl)
 intro u y hleaf hu
 cases u with
 | undef=>exact VR.undef_ _
 | bool b=>rw [hu.bool_inv]; exact .rd _ _ (.bool b)
 | int k m=>rw [hu.int_inv]; exact .rd _ _ (.int k m)
 | str s=>obtain ⟨z,rfl,hz⟩:=hu.str_inv; exact .rd _ _ (.str s z hz)
 | nil=>rw [hu.nil_inv]; exact .rd _ _ .nil
 | sl s f xs=>exact .rd _ _ (rd hu.sl_inv)
 | iptr z o=>
  cases hu with
  | rd _ _ h=>exact .rd _ _ (rd h)
 | ptr d n=>
  obtain ⟨rfl,h⟩:=hu.ptr_inv
  exact .ptr (Γ:=Γ.settled dead) d n h
 | agg _=>cases hleaf
 | tup _=>cases hleaf
 | clo _ _=>cases hleaf
 | own b s q xs=>
  simp only [b0s]
  split
  ·rename_i hdb
   simp only [Option.getD_some]
   rcases hu.own_inv with ⟨rfl,rfl,h3⟩ | ⟨rfl,h1,h2,h3,h4,h5⟩
   ·exact .rd _ _ (.empty _ _ _ _)
   ·exact .rd _ _ (Rd.sl_of (rs h4) h5 h3.1 (.inr ⟨b,h1,hdb,rfl⟩))
  ·rename_i hdb
   simp only [Option.getD_none]
   have huq:=hu.own_uq
   rcases hu.own_inv with ⟨rfl,rfl,h3⟩ | ⟨rfl,h1,h2,h3,h4,h5⟩
   ·exact .ownNil _ _ _ (λ h=>h3 h.1)
   ·exact .own (Γ:=Γ.settled dead) b s q xs ⟨h1,by simpa using hdb⟩ h2 h3 (rr h4) h5 (uu huq)
 | view b s q xs=>
  simp only [b0s]
  split
  ·rename_i hdb
   simp only [Option.getD_some]
   rcases hu.view_inv with ⟨ad,cap,rfl,rfl⟩ | ⟨o,cap,rfl,h1,hx,h3,hfit,h4,h5⟩
   ·exact .rd _ _ (.empty _ _ _ _)
   ·exact .rd _ _ (Rd.sl_of (rs h4) h5 h3 (.inr ⟨b,h1,hdb,rfl⟩))
  ·rename_i hdb
   simp only [Option.getD_none]
   have hu0:=hu
   rcases hu.view_inv with ⟨ad,cap,rfl,rfl⟩ | ⟨o,cap,rfl,h1,hx,h3,hfit,h4,h5⟩
   ·exact .view0 (Γ:=Γ.settled dead) _ _ _ _ _ (hu.view0_of.to ⟨λ h=>h.1,λ h=>⟨h,by simpa using hdb⟩⟩ (λ _=>⟨rfl,rfl,rfl,rfl⟩))
   ·exact .view (Γ:=Γ.settled dead) b s q xs o cap ⟨h1,by simpa using hdb⟩ hx h3 hfit (rr h4) h5 (uu hu0.view_uq)
 | eptr b s q xs i o=>
  have huq:=hu.eptr_uq
  obtain ⟨rfl,h1,h2,h3,h4,h5,h6⟩:=hu.eptr_inv
  simp only [b0s]
  split
  ·rename_i hdb
   simp only [Option.getD_some]
   split
   ·rename_i z hz
    obtain ⟨r1,gg,r2,r3⟩:=h5
    refine .rd _ _ (.iptr z (Γ.blk b) (Γ.off b+i * s) o (gg i) (.inr ⟨b,h1,hdb,rfl⟩) (λ j hj=>(r2 i j h4 (by rw [← r1 z (a0a hz)]; exact hj)).1) (λ j u hu=>?_))
    exact (r3 i z j u hz hu).mono (λ k hk=>.inl (p0b hk)) (λ _ _ _=>rfl)
   ·exact VR.undef_ _
  ·rename_i hdb
   simp only [Option.getD_none]
   exact .eptr (Γ:=Γ.settled dead) b s q xs i o ⟨h1,by simpa using hdb⟩ h2 h3 h4 (rr h5) h6 (uu huq)
 | vptr b z o=>
  obtain ⟨o',gg,rfl,h1,h2,h3⟩:=hu.vptr_inv
  simp only [b0s]
  split
  ·rename_i hdb
   simp only [Option.getD_some]
   exact .rd _ _ (.iptr z (Γ.blk b) o' o gg (.inr ⟨b,h1,hdb,rfl⟩) h2 (λ j u hu=>rd (h3 j u hu)))
  ·rename_i hdb
   simp only [Option.getD_none]
   exact .vptr (Γ:=Γ.settled dead) b z o' o gg ⟨h1,by simpa using hdb⟩ h2 (λ j u hu=>rd (h3 j u hu))
def Ctx.renamed (Γ:Ctx)(l:List Nat):Ctx:={ Γ with has:=λ b'=>∃ i b,b' = a0v i∧l[i]? = some b∧l.idxOf b=i∧Γ.has b,blk:=λ b'=>Γ.blk (l.getD (b' - 1000000) 0),
                                                   off:=λ b'=>Γ.off (l.getD (b' - 1000000) 0),cap:=λ b'=>Γ.cap (l.getD (b' - 1000000) 0),sz:=λ b'=>Γ.sz (l.getD (b' - 1000000) 0),ln:=λ b'=>Γ.ln (l.getD (b' - 1000000) 0),N:=λ b'=>Γ.N (l.getD (b' - 1000000) 0) }
theorem d0b {l:List Nat}{i b:Nat}(h:l[i]? = some b):l.getD (a0v i - 1000000) 0=b:=by
 unfold a0v
 rw [show 1000000+i - 1000000=i by omega,List.getD_eq_getElem?_getD,h]
 rfl
theorem e0y {l:List Nat}{b:Nat}(hb:b∈l):(Γ.renamed l).has (a0v (l.idxOf b))↔Γ.has b:=by
 have hi:l[l.idxOf b]? = some b:=by
  rw [List.getElem?_eq_getElem (List.idxOf_lt_length_of_mem hb),List.getElem_idxOf]
 constructor
 ·rintro ⟨i,b',h1,h2,h3,h4⟩
  have:i=l.idxOf b:=by unfold a0v at h1; omega
  subst this
  rw [hi] at h2
  injection h2 with h2
  rw [h2]; exact h4
 ·intro h
  exact ⟨_,b,rfl,hi,rfl,h⟩
theorem Good.renamed {l:List Nat}(g:Good Γ w):Good (Γ.renamed l) w:=by
 refine ⟨g.os,g.tape,g.output,g.size,g.old,g.new,g.slt,?_,?_,g.box,g.boxInj,?_,g.sr,g.gl,?_,g.zf,?_,λ ⟨i,b,h,_⟩=>by unfold a0v at h; omega⟩
 ·rintro _ ⟨i,b,rfl,h1,_,h2⟩
  show Γ.F (Γ.blk (l.getD _ 0))∧Γ.blk (l.getD _ 0) < _∧Γ.cap (l.getD _ 0)≤_ ∧ ∃ cur e,w.heap[Γ.blk (l.getD _ 0)]? = _∧Γ.off (l.getD _ 0)+Γ.cap (l.getD _ 0) * Γ.sz (l.getD _ 0)≤_
  rw [d0b h1]
  exact g.base b h2
 ·rintro _ _ ⟨i,b,rfl,h1,h2,h3⟩ ⟨i',b',rfl,h1',h2',h3'⟩ he
  change Γ.blk (l.getD _ 0)=Γ.blk (l.getD _ 0) at he
  rw [d0b h1,d0b h1'] at he
  have:=g.baseInj b b' h3 h3' he
  subst this
  rw [← h2,← h2']
 ·rintro _ k ⟨i,b,rfl,h1,_,h2⟩ hk
  show Γ.blk (l.getD _ 0) ≠ _
  rw [d0b h1]
  exact g.baseBox b k h2 hk
 ·rintro _ ⟨i,b,rfl,h1,_,h2⟩
  show Γ.Z (Γ.blk (l.getD _ 0))
  rw [d0b h1]
  exact g.bz b h2
 ·rintro _ ⟨i,b,rfl,h1,_,h2⟩ m hm
  change Γ.N (l.getD _ 0) m at hm
  rw [d0b h1] at hm
  exact g.ns b h2 m hm
theorem s0t {l:List Nat}{b:Nat}(hb:b∈l):l.getD (a0v (l.idxOf b) - 1000000) 0=b:=
 d0b (by rw [List.getElem?_eq_getElem (List.idxOf_lt_length_of_mem hb),List.getElem_idxOf])
theorem z0r {l:List Nat}:∀ v x,(match v with
   | .agg _=>False
   | .tup _=>False
   | .clo _ _=>False
   | _=>True)→(∀ b,v.anyB (λ b'=>b' == b)=true→b∈l)→VR Γ w v x→VR (Γ.renamed l) w ((e0d l v).getD v) x:=by
 intro u y hleaf hc hu
 have e1:∀ {b:Nat},b∈l→(Γ.renamed l).blk (a0v (l.idxOf b))=Γ.blk b:=λ {b} hb=>by show Γ.blk (l.getD _ 0)=_; rw [s0t hb]
 have e2:∀ {b:Nat},b∈l→(Γ.renamed l).off (a0v (l.idxOf b))=Γ.off b:=λ {b} hb=>by show Γ.off (l.getD _ 0)=_; rw [s0t hb]
 have e3:∀ {b:Nat},b∈l→(Γ.renamed l).cap (a0v (l.idxOf b))=Γ.cap b:=λ {b} hb=>by show Γ.cap (l.getD _ 0)=_; rw [s0t hb]
 have e4:∀ {b:Nat},b∈l→(Γ.renamed l).sz (a0v (l.idxOf b))=Γ.sz b:=λ {b} hb=>by show Γ.sz (l.getD _ 0)=_; rw [s0t hb]
 have e5:∀ {b:Nat},b∈l→(Γ.renamed l).ln (a0v (l.idxOf b))=Γ.ln b:=λ {b} hb=>by show Γ.ln (l.getD _ 0)=_; rw [s0t hb]
 have e6:∀ {b:Nat},b∈l→(Γ.renamed l).N (a0v (l.idxOf b))=Γ.N b:=λ {b} hb=>by show Γ.N (l.getD _ 0)=_; rw [s0t hb]
 have uu:∀ {q:Q} {b s k o:Nat} {xs:List V},b∈l→Γ.Uq w q b s xs k o→(Γ.renamed l).Uq w q (a0v (l.idxOf b)) s xs k o:=λ hb h hq hU=>(h hq hU).mono (λ m hm=>⟨by rw [e6 hb]; exact hm.1,hm.2⟩) (λ _ _ _=>rfl) (λ _ _ _=>rfl)
 have sq:∀ q k,Γ.Sq q k→(Γ.renamed l).Sq q k:=λ q k h=>by cases q <;> exact h
 have rr:∀ {q:Q} {s k o:Nat} {xs:List V},Rows w (Γ.Sq q) s xs k o→Rows w ((Γ.renamed l).Sq q) s xs k o:=λ h=>h.mono (sq _) (λ _ _ _=>rfl) (λ _ _ _=>rfl)
 cases u with
 | undef=>exact VR.undef_ _
 | bool b=>rw [hu.bool_inv]; exact .rd _ _ (.bool b)
 | int k m=>rw [hu.int_inv]; exact .rd _ _ (.int k m)
 | str s=>obtain ⟨z,rfl,hz⟩:=hu.str_inv; exact .rd _ _ (.str s z hz)
 | nil=>rw [hu.nil_inv]; exact .rd _ _ .nil
 | sl s f xs=>exact .rd _ _ hu.sl_inv
 | iptr z o=>
  cases hu with
  | rd _ _ h=>exact .rd _ _ h
 | ptr d n=>
  obtain ⟨rfl,h⟩:=hu.ptr_inv
  exact .ptr (Γ:=Γ.renamed l) d n h
 | agg _=>cases hleaf
 | tup _=>cases hleaf
 | clo _ _=>cases hleaf
 | own b s q xs=>
  have hb:=hc b (by simp [V.anyB])
  simp only [e0d,Option.getD_some]
  have huq:=hu.own_uq
  rcases hu.own_inv with ⟨rfl,rfl,h3⟩ | ⟨rfl,h1,h2,h3,h4,h5⟩
  ·exact .ownNil _ _ _ (λ h=>h3 ((e0y hb).1 h))
  ·have:=VR.own (Γ:=Γ.renamed l) (w:=w) (a0v (l.idxOf b)) s q xs ((e0y hb).2 h1) (by rw [e4 hb]; exact h2) (by rw [e3 hb,e5 hb]; exact h3) (by rw [e1 hb,e2 hb]; exact rr h4) h5 (by rw [e1 hb,e2 hb]; exact uu hb huq)
   rwa [e1 hb,e2 hb,e3 hb] at this
 | view b s q xs=>
  have hb:=hc b (by simp [V.anyB])
  simp only [e0d,Option.getD_some]
  have hu0:=hu
  rcases hu.view_inv with ⟨ad,cap,rfl,rfl⟩ | ⟨o,cap,rfl,h1,hx,h3,hfit,h4,h5⟩
  ·exact .view0 _ _ _ _ _ (hu.view0_of.to (e0y hb) (λ _=>⟨e1 hb,e2 hb,e3 hb,e4 hb⟩))
  ·have:=VR.view (Γ:=Γ.renamed l) (w:=w) (a0v (l.idxOf b)) s q xs o cap ((e0y hb).2 h1) hx h3 (by rw [e2 hb,e3 hb,e4 hb]; exact hfit) (by rw [e1 hb]; exact rr h4) h5 (by rw [e1 hb]; exact uu hb hu0.view_uq)
   rwa [e1 hb] at this
 | eptr b s q xs i o=>
  have hb:=hc b (by simp [V.anyB])
  have huq:=hu.eptr_uq
  obtain ⟨rfl,h1,h2,h3,h4,h5,h6⟩:=hu.eptr_inv
  have:=VR.eptr (Γ:=Γ.renamed l) (w:=w) (a0v (l.idxOf b)) s q xs i o ((e0y hb).2 h1) (by rw [e4 hb]; exact h2) (by rw [e3 hb,e5 hb]; exact h3) h4 (by rw [e1 hb,e2 hb]; exact rr h5) h6 (by rw [e1 hb,e2 hb]; exact uu hb huq)
  rwa [e1 hb,e2 hb] at this
 | vptr b z o=>
  have hb:=hc b (by simp [V.anyB])
  obtain ⟨o',gg,rfl,h1,h2,h3⟩:=hu.vptr_inv
  have:=VR.vptr (Γ:=Γ.renamed l) (w:=w) (a0v (l.idxOf b)) z o' o gg ((e0y hb).2 h1) (by rw [e1 hb]; exact h2) h3
  rwa [e1 hb] at this
theorem s0e (b:Nat):∀ (hs:List (Option V)) (l:List Nat),(b∈l ∨ ∃ u,some u∈hs∧u.anyB (λ b'=>b' == b)=true)→b∈g0p l hs:=by
 intro hs
 induction hs with
 | nil=>
  rintro l (h | ⟨u,hu,_⟩)
  ·exact h
  ·cases hu
 | cons x hs ih=>
  intro l h
  cases x with
  | none=>
   refine ih l (h.imp id ?_)
   rintro ⟨u,hu,hb⟩
   exact ⟨u,(List.mem_cons.1 hu).resolve_left (by simp),hb⟩
  | some y=>
   refine ih _ ?_
   rcases h with h | ⟨u,hu,hb⟩
   ·exact .inl (f0w b y l (.inl h))
   ·rcases List.mem_cons.1 hu with e | hu
    ·injection e with e
     subst e
     exact .inl (f0w b u l (.inr hb))
    ·exact .inr ⟨u,hu,hb⟩
theorem Sim.canon (hs:Sim Γ st a w)(hd:∀ b,Γ.has b → ¬ Γ.S (Γ.blk b))(hnd:Γ.U → ∀ b b',Γ.has b→Γ.has b' → b ≠ b' → ∀ m,Γ.N b m→Γ.N b' m→False):Sim (Γ.renamed (V.basess (g0p [] st.h) st.t)) st.canon a w:=by
 have e:st.canon = { st.sweep (e0d (V.basess (g0p [] st.h) st.t)) with dead:=λ _=>false,dup:=st.dup }:=rfl
 rw [e]
 refine Sim.sweepC (f:=e0d (V.basess (g0p [] st.h) st.t)) (λ v=>∀ b,v.anyB (λ b'=>b' == b)=true→b∈V.basess (g0p [] st.h) st.t) (λ cs h u hu b hb=>h b (c0n hu hb)) (λ cs h u hu b hb=>h b (c0n hu hb)) (λ _ cs h u hu b hb=>h b (c0n hu hb))
  hs (λ u hu b hb=>f0w b (.agg st.t) (g0p [] st.h) (.inr (c0n hu hb))) (λ u hu b hb=>f0w b (.agg st.t) (g0p [] st.h) (.inl (s0e b _ _ (.inr ⟨u,hu,hb⟩)))) z0r (t0i _) hs.good.renamed (λ _ h=>h) (λ _=>rfl) (λ _ _=>rfl) ?_ hs.du ?_
 ·rintro _ ⟨i,b,rfl,h1,_,h2⟩ _
  show ¬ Γ.S (Γ.blk (List.getD _ _ 0))
  rw [d0b h1]
  exact hd b h2
 ·rintro hU _ _ ⟨i,b,rfl,h1,k1,h2⟩ ⟨i',b',rfl,h1',k1',h2'⟩ _ _ hne m hm hm'
  change Γ.N (List.getD _ _ 0) m at hm hm'
  rw [d0b h1] at hm
  rw [d0b h1'] at hm'
  exact hnd hU b b' h2 h2' (λ e=>hne (by rw [← k1,← k1',e])) m hm hm'
theorem VR.own_view {b s:Nat}{q:Q}{xs:List V}{x:Value}(h:VR Γ w (.own b s q xs) x):VR Γ w (.view b s q xs) x:=by
 have hu:=h.own_uq
 rcases h.own_inv with ⟨rfl,rfl,h0⟩ | ⟨rfl,h1,h2,h3,h4,h5⟩
 ·exact .view0 _ _ _ _ _ (.inl ⟨rfl,rfl,h0⟩)
 ·by_cases hx:xs=[]
  ·subst hx
   exact .view0 _ _ _ _ _ (.inr ⟨h1,_,rfl,by rw [h2]; exact Nat.le_refl _,Nat.le_refl _⟩)
  ·exact .view b s q xs _ _ h1 (List.length_pos_iff.2 hx) h3.1 ⟨by rw [h2]; exact Nat.le_refl _,Nat.le_refl _⟩ h4 h5 hu
theorem v0e {vw:Bool}{i s:Nat}{q:Q}{v:V}{x:Value}(hi:¬ Γ.has i)(h:VR Γ w v x):VR Γ w (n1c vw i s q v) x:=by
 cases v with
 | nil=>
  rw [h.nil_inv]
  cases vw with
  | true=>exact .view0 _ _ _ _ _ (.inl ⟨rfl,rfl,hi⟩)
  | false=>exact .ownNil _ _ _ hi
 | own b s' q' xs=>
  cases vw with
  | true=>exact h.own_view
  | false=>exact h
 | _=>exact h
theorem o1o {vw:Bool}{i s j:Nat}{q:Q}{v:V}{x:Value}(hi:¬ Γ.has i)(h:VR Γ w v x):VR Γ w (x0j vw i s q j v) x:=by
 cases v with
 | agg cs=>
  simp only [x0j]
  obtain ⟨vs,rfl,h1,h2⟩:=h.agg_inv
  refine .agg _ vs (by rw [List.length_modify]; exact h1) (λ k c y e1 e2=>?_)
  rw [List.getElem?_modify] at e1
  cases hk:cs[k]? with
  | none=>rw [hk] at e1; cases e1
  | some u=>
   rw [hk] at e1
   simp only [Option.map_eq_map,Option.map_some,sj_] at e1
   subst e1
   have:=h2 k u y hk e2
   split
   ·exact v0e hi this
   ·exact this
 | nil=>exact v0e (s:=s) (q:=q) hi h
 | own b s' q' xs=>exact v0e (s:=s) (q:=q) hi h
 | _=>exact h
theorem a1d {vw:Bool}{i s j:Nat}{q:Q}{v:V}:(x0j vw i s q j v).cells.length=v.cells.length:=by
 cases v <;> first | rfl | (cases vw <;> rfl) | simp [x0j,V.cells]
theorem k1b {vw:Bool}{i s j k:Nat}{q:Q}{v c:V}(h:(x0j vw i s q j v).cells[k]? = some c):∃ u,v.cells[k]? = some u∧(c=u∨c=n1c vw i s q u):=by
 have one:∀ {u:V},u.cells=[u]→(n1c vw i s q u).cells=[n1c vw i s q u]→(n1c vw i s q u).cells[k]? = some c → ∃ u',u.cells[k]? = some u' ∧ (c=u' ∨ c=n1c vw i s q u'):=λ {u} h1 h2 h=>by
  rw [h2] at h
  rw [h1]
  cases k with
  | zero=>injection h with h; exact ⟨u,rfl,.inr h.symm⟩
  | succ k=>simp at h
 cases v with
 | agg cs=>
  simp only [x0j,V.cells] at h ⊢
  rw [List.getElem?_modify] at h
  cases hk:cs[k]? with
  | none=>rw [hk] at h; cases h
  | some u=>
   rw [hk] at h
   simp only [Option.map_eq_map,Option.map_some,sj_] at h
   refine ⟨u,rfl,?_⟩
   split at h
   ·exact .inr h.symm
   ·exact .inl h.symm
 | nil=>exact one rfl (by simp only [n1c]; split <;> rfl) h
 | own b s' q' xs=>exact one rfl (by simp only [n1c]; split <;> rfl) h
 | _=>exact ⟨c,h,.inl rfl⟩
theorem w0o (cs:List V):(V.agg cs).cells ≠ [.agg cs]:=λ h=>by
 have h1:cs=[.agg cs]:=h
 have h2:SizeOf.sizeOf cs=SizeOf.sizeOf [V.agg cs]:=congrArg SizeOf.sizeOf h1
 simp at h2
 omega
def Ctx.retaken (Γ:Ctx)(b o cap s n:Nat):Ctx:={ Γ with off:=λ b'=>if b' = b then o else Γ.off b',cap:=λ b'=>if b' = b then cap else Γ.cap b',sz:=λ b'=>if b' = b then s else Γ.sz b',ln:=λ b'=>if b' = b then n else Γ.ln b' }
theorem Good.retaken {b o cap s n:Nat}(g:Good Γ w)(hb:Γ.has b)(h:o+cap * s≤Γ.off b+Γ.cap b * Γ.sz b∧cap≤Γ.cap b):Good (Γ.retaken b o cap s n) w:=by
 refine ⟨g.os,g.tape,g.output,g.size,g.old,g.new,g.slt,λ b' hb'=>?_,g.baseInj,g.box,g.boxInj,g.baseBox,g.sr,g.gl,g.bz,g.zf,g.ns,g.h9⟩
 obtain ⟨h1,h2,h3,cur,e,h4,h5⟩:=g.base b' hb'
 show _∧_∧(if b' = b then cap else Γ.cap b')≤maxLen ∧ ∃ (cur:Array Value) (e:TypeId),_∧(if b' = b then o else Γ.off b')+(if b' = b then cap else Γ.cap b') * (if b' = b then s else Γ.sz b')≤cur.size
 split
 ·rename_i hbb
  subst hbb
  exact ⟨h1,h2,by omega,cur,e,h4,by omega⟩
 ·exact ⟨h1,h2,h3,cur,e,h4,h5⟩
theorem VR.retaken {b o cap s n:Nat}{v:V}{x:Value}(h:VR Γ w v x)(hp:v.anyB (λ b'=>b' == b)=false):VR (Γ.retaken b o cap s n) w v x:=by
 refine VR.mono' (Γ:=Γ) (Γ':=Γ.retaken b o cap s n) (w:=w) (w':=w) (p:=λ b'=>b' == b) (r:=λ _=>false) (λ h=>h) (λ _ h=>h) (λ _ _ h=>h) (λ _ _ _=>rfl) (λ b' hb'=>⟨Iff.rfl,λ _=>?_⟩) (λ _ _=>⟨λ h=>h,rfl⟩) h hp (a0z v)
 have hne:b' ≠ b:=by simpa using hb'
 exact ⟨rfl,if_neg hne,if_neg hne,if_neg hne,if_neg hne,λ _ h=>h,λ _=>rfl⟩
theorem VR.retake {b s:Nat}{q:Q}{xs:List V}{x:Value}(g:Good Γ w)(h:VR Γ w (.view b s q xs) x):∃ Γ',(Γ' = Γ ∨ ∃ o cap,Γ' = Γ.retaken b o cap s xs.length)∧Good Γ' w∧VR Γ' w (.own b s q xs) x ∧ ∀ (v:V) (y:Value),VR Γ w v y→v.anyB (λ b'=>b' == b)=false→VR Γ' w v y:=by
 rcases h.view_inv with ⟨ad,cap,rfl,rfl⟩ | ⟨o,cap,rfl,h1,hx,h3,hfit,h4,h5⟩
 ·rcases h.view0_of with ⟨rfl,rfl,h0⟩ | ⟨h1,o,rfl,hfit⟩
  ·exact ⟨Γ,.inl rfl,g,.ownNil _ _ _ h0,λ _ _ h _=>h⟩
  ·refine ⟨Γ.retaken b o cap s 0,.inr ⟨o,cap,rfl⟩,g.retaken h1 hfit,?_,λ v y hv hp=>hv.retaken hp⟩
   have e1:(Γ.retaken b o cap s 0).off b=o:=if_pos rfl
   have e2:(Γ.retaken b o cap s 0).cap b=cap:=if_pos rfl
   have e3:(Γ.retaken b o cap s 0).sz b=s:=if_pos rfl
   have e4:(Γ.retaken b o cap s 0).ln b=0:=if_pos rfl
   have:=VR.own (Γ:=Γ.retaken b o cap s 0) (w:=w) b s q [] h1 e3.symm ⟨Nat.zero_le _,e4.symm⟩ ⟨(λ _ h=>by cases h),λ _ _=>undef,λ i j hi=>absurd hi (Nat.not_lt_zero _),λ i x j c hx=>by simp at hx⟩ (λ _ _ h=>by cases h) g1s
   rw [e1,e2] at this
   exact this
 ·have hu:=h.view_uq
  refine ⟨Γ.retaken b o cap s xs.length,.inr ⟨o,cap,rfl⟩,g.retaken h1 hfit,?_,λ v y hv hp=>hv.retaken hp⟩
  have e1:(Γ.retaken b o cap s xs.length).off b=o:=if_pos rfl
  have e2:(Γ.retaken b o cap s xs.length).cap b=cap:=if_pos rfl
  have e3:(Γ.retaken b o cap s xs.length).sz b=s:=if_pos rfl
  have e4:(Γ.retaken b o cap s xs.length).ln b=xs.length:=if_pos rfl
  have:=VR.own (Γ:=Γ.retaken b o cap s xs.length) (w:=w) b s q xs h1 e3.symm ⟨by rw [e2]; exact h3,e4.symm⟩ (by rw [e1]; exact h4.mono (λ k hk=>by cases q <;> exact hk) (λ _ _ _=>rfl) (λ _ _ _=>rfl)) h5 (by rw [e1]; exact hu)
  rw [e1,e2] at this
  exact this
theorem s0h {j b s:Nat}{q:Q}{xs:List V}{v:V}(h:l0p j v=V.view b s q xs):∃ k:Nat,v.cells[k]? = some (V.view b s q xs) ∧ ∀ (f:V→Option V),(∀ v u,f v=some u→u.cells=[u]) → ∀ u:V,(∀ cs,u ≠ .agg cs)→(f0k j u (v.mapB f)).cells.length=v.cells.length ∧ ∀ (i:Nat) (c:V),(f0k j u (v.mapB f)).cells[i]? = some c→(i=k∧c=u)∨(∃ y:V,v.cells[i]? = some y∧c=y.mapB f):=by
 have one:∀ u:V,(∀ cs,u ≠ .agg cs)→u.cells=[u]:=λ u hu=>by cases u <;> first | rfl | exact absurd rfl (hu _)
 cases v with
 | agg cs=>
  simp only [l0p] at h
  have hj:cs[j]? = some (.view b s q xs):=by
   rw [List.getD_eq_getElem?_getD] at h
   cases hc:cs[j]? with
   | none=>rw [hc] at h; cases h
   | some y=>rw [hc] at h; exact congrArg _ h
  refine ⟨j,hj,λ f hf u hu=>⟨?_,λ i c hc=>?_⟩⟩
  ·simp [V.mapB,f0k,V.cells,a0f]
  ·simp only [V.mapB,f0k,V.cells] at hc
   rw [List.getElem?_set] at hc
   split at hc
   ·rename_i hij
    split at hc
    ·injection hc with hc
     exact .inl ⟨hij.symm,hc.symm⟩
    ·cases hc
   ·rw [a0e] at hc
    cases hy:cs[i]? with
    | none=>rw [hy] at hc; cases hc
    | some y=>
     rw [hy] at hc
     injection hc with hc
     exact .inr ⟨y,hy,hc.symm⟩
 | view b' s' q' xs'=>
  simp only [l0p] at h
  refine ⟨0,by rw [h]; rfl,λ f hf u hu=>?_⟩
  have hm:(f0k j u ((V.view b' s' q' xs').mapB f)).cells=[u]:=by
   have:∀ z:V,(∀ cs,z ≠ .agg cs)→f0k j u z=u:=λ z hz=>by cases z <;> first | rfl | exact absurd rfl (hz _)
   rw [this,one u hu]
   intro cs hz
   simp only [V.mapB] at hz
   cases hfv:f (V.view b' s' q' xs') with
   | none=>rw [hfv] at hz; cases hz
   | some y=>
    rw [hfv] at hz
    simp only [Option.getD_some] at hz
    have:=hf _ _ hfv
    rw [hz] at this
    exact absurd this (w0o cs)
  refine ⟨by rw [hm]; rfl,λ i c hc=>?_⟩
  rw [hm] at hc
  cases i with
  | zero=>simp only [List.getElem?_cons_zero,sj_] at hc; exact .inl ⟨rfl,hc.symm⟩
  | succ i=>simp at hc
 | _=>simp only [l0p] at h; cases h
theorem Sim.take1 (hs:Sim Γ st a w)(hdead:st.dead=λ _=>false)(n:Nat):∃ Γ',Same Γ Γ' ∧ (∀ j,Γ'.has j↔Γ.has j)∧Sim Γ' (st.take1 n) a w:=by
 have keepS:∀ {Γ':Ctx} {b s:Nat} {xs:List V},(Γ' = Γ ∨ ∃ o cap,Γ' = Γ.retaken b o cap s xs.length)→Same Γ Γ' ∧ (∀ j,Γ'.has j↔Γ.has j)∧(∀ k,Γ.lb k→Γ'.lb k)∧(∀ k,Γ'.box k=Γ.box k)∧(∀ b,Γ'.has b→st.dead b=false → ¬ Γ'.S (Γ'.blk b))∧(st.dup=false→Γ'.U) ∧
   (Γ'.U → ∀ b b',Γ'.has b→Γ'.has b' → st.dead b=false→st.dead b' = false→b ≠ b' → ∀ m,Γ'.N b m→Γ'.N b' m→False)∧Γ'.nt=Γ.nt:=by
  rintro Γ' b s xs (rfl | ⟨o,cap,rfl⟩)
  ·exact ⟨Same.rfl',λ _=>Iff.rfl,λ _ h=>h,λ _=>rfl,hs.nds,hs.du,hs.nd,rfl⟩
  ·exact ⟨⟨rfl,rfl,rfl,rfl,rfl,λ _ _=>rfl⟩,λ _=>Iff.rfl,λ _ h=>h,λ _=>rfl,hs.nds,hs.du,hs.nd,rfl⟩
 unfold St.take1
 split
 ·split
  ·rename_i b s q xs hc
   obtain ⟨k,hk,hput⟩:=s0h hc
   obtain ⟨hlen,hget⟩:=hput (a0h b) (d0k b) (.own b s q xs) (λ cs h=>by cases h)
   have hlt:n / 2000000 % 1000 < st.t.length:=by
    rcases Nat.lt_or_ge (n / 2000000 % 1000) st.t.length with h | h
    ·exact h
    ·rw [List.getD_eq_getElem?_getD,List.getElem?_eq_none h] at hc; cases hc
   have hg:st.t[n / 2000000 % 1000]? = some (st.t.getD (n / 2000000 % 1000) .undef):=by
    rw [List.getD_eq_getElem?_getD,List.getElem?_eq_getElem hlt]; rfl
   generalize hv:st.t.getD (n / 2000000 % 1000) .undef=v at *
   obtain ⟨x,hx1,hx2⟩:=hs.tm _ _ hg
   -- the cell's value
   have hcell:∃ y,VR Γ w (.view b s q xs) y ∧ ∀ Γ',VR Γ' w (.own b s q xs) y→VR Γ' w (v.mapB (a0h b)) x→VR Γ' w (f0k (n / 2000 % 1000) (.own b s q xs) (v.mapB (a0h b))) x:=by
    cases v with
    | agg cs=>
     obtain ⟨vs,rfl,h1,h2⟩:=hx2.agg_inv
     have hkl:k < vs.size:=by rw [← h1]; exact (gs_ hk).1
     have hj:cs[n / 2000 % 1000]? = some (.view b s q xs):=by
      simp only [l0p] at hc
      rw [List.getD_eq_getElem?_getD] at hc
      cases hcc:cs[n / 2000 % 1000]? with
      | none=>rw [hcc] at hc; cases hc
      | some y=>rw [hcc] at hc; exact congrArg _ hc
     have hjl:n / 2000 % 1000 < vs.size:=by rw [← h1]; exact (gs_ hj).1
     refine ⟨vs[n / 2000 % 1000],h2 _ _ _ hj (by simp [hjl]),λ Γ' ho hm=>?_⟩
     simp only [V.mapB,f0k] at hm ⊢
     obtain ⟨vs',e1,h3,h4⟩:=hm.agg_inv
     injection e1 with e1
     subst e1
     refine .agg _ vs (by rw [List.length_set]; exact h3) (λ i c y hi hy=>?_)
     rw [List.getElem?_set] at hi
     split at hi
     ·rename_i hij
      subst hij
      split at hi
      ·injection hi with hi
       subst hi
       have:vs[n / 2000 % 1000]=y:=by
        have:=Array.getElem?_eq_some_iff.1 hy
        exact this.2
       rw [← this]
       exact ho
      ·cases hi
     ·exact h4 i c y hi hy
    | view b' s' q' xs'=>
     simp only [l0p] at hc
     cases hc
     refine ⟨x,hx2,λ Γ' ho _=>?_⟩
     have:f0k (n / 2000 % 1000) (V.own b s q xs) ((V.view b s q xs).mapB (a0h b)) = .own b s q xs:=by simp [V.mapB,a0h,f0k]
     rw [this]
     exact ho
    | _=>simp only [l0p] at hc; cases hc
   obtain ⟨y,hy1,hy2⟩:=hcell
   obtain ⟨Γ',hor,hgood,hown,hkeep⟩:=hy1.retake hs.good
   obtain ⟨k1,k2,k3,k4,k5,k6,k7,k8⟩:=keepS hor
   have hsw:=Sim.sweep (f:=a0h b) (dead:=st.dead) (dup:=st.dup) (Γ':=Γ') (w':=w) hs (g0f hkeep) (d0k b) hgood k3 k4 (λ _ _=>rfl) k5 k6 k7 k8
   refine ⟨Γ',k1,k2,hsw.good,hsw.dz,by simpa using hsw.len,λ i u hi=>?_,hsw.bx,hsw.nds,hsw.du,hsw.nd,by simpa using hsw.nt⟩
   simp only at hi
   rw [List.getElem?_set] at hi
   split at hi
   ·rename_i hid
    subst hid
    split at hi
    ·injection hi with hi
     subst hi
     refine ⟨x,hx1,hy2 Γ' hown ?_⟩
     obtain ⟨x',h1,h2⟩:=hsw.tm (n / 2000000 % 1000) (v.mapB (a0h b)) (by show (V.mapBs (a0h b) st.t)[_]? = _; rw [a0e,hg]; rfl)
     rw [hx1] at h1
     injection h1 with h1
     rw [h1]
     exact h2
    ·cases hi
   ·exact hsw.tm i u hi
  ·exact ⟨Γ,Same.rfl',λ _=>Iff.rfl,hs⟩
 ·split
  ·rename_i r hr
   split
   ·rename_i b s q xs hc
    obtain ⟨k,hk,hput⟩:=s0h hc
    obtain ⟨hlen,hget⟩:=hput (a0h b) (d0k b) (.own b s q xs) (λ cs h=>by cases h)
    have hr':st.h[n / 2000000 % 1000]? = some (some r):=by
     rw [List.getD_eq_getElem?_getD] at hr
     cases h:st.h[n / 2000000 % 1000]? with
     | none=>rw [h] at hr; cases hr
     | some y=>rw [h] at hr; exact congrArg _ hr
    obtain ⟨b1,cur,e,b2,b3,b4⟩:=hs.bx _ r hr'
    obtain ⟨y,hy0,hy1⟩:=b4 k _ hk
    obtain ⟨Γ',hor,hgood,hown,hkeep⟩:=hy1.retake hs.good
    obtain ⟨k1,k2,k3,k4,k5,k6,k7,k8⟩:=keepS hor
    have hsw:=Sim.sweep (f:=a0h b) (dead:=st.dead) (dup:=st.dup) (Γ':=Γ') (w':=w) hs (g0f hkeep) (d0k b) hgood k3 k4 (λ _ _=>rfl) k5 k6 k7 k8
    refine ⟨Γ',k1,k2,hsw.good,hsw.dz,hsw.len,hsw.tm,λ i u hi=>?_,hsw.nds,hsw.du,hsw.nd,hsw.nt⟩
    simp only at hi
    rw [List.getElem?_set] at hi
    split at hi
    ·rename_i hid
     subst hid
     split at hi
     ·injection hi with hi
      injection hi with hi
      subst hi
      obtain ⟨c1,cur',e',c2,c3,c4⟩:=hsw.bx (n / 2000000 % 1000) (r.mapB (a0h b)) (by
       show (d0c (a0h b) st.h)[_]? = _
       rw [j0d,hr']; rfl)
      rw [k4,b2] at c2
      injection c2 with c2
      injection c2 with c2 c2'
      subst c2
      refine ⟨c1,cur,e,by rw [k4]; exact b2,by rw [hlen]; exact b3,λ j c hj=>?_⟩
      rcases hget j c hj with ⟨rfl,rfl⟩ | ⟨z,hz1,rfl⟩
      ·exact ⟨y,hy0,hown⟩
      ·exact c4 j _ (by rw [d0a _ (d0k b),a0e,hz1]; rfl)
     ·cases hi
    ·exact hsw.bx i u hi
   ·exact ⟨Γ,Same.rfl',λ _=>Iff.rfl,hs⟩
  ·exact ⟨Γ,Same.rfl',λ _=>Iff.rfl,hs⟩
theorem f1n (st:St)(n:Nat):(st.take1 n).dead=st.dead:=by
 unfold St.take1
 repeat' split
 all_goals rfl
theorem Sim.own0 (hs:Sim Γ st a w){i n:Nat}(hi:¬ Γ.has i)(hn:¬ 8000000000≤n):Sim Γ (st.own1 i n) a w:=by
 unfold St.own1
 rw [if_neg hn]
 split
 ·refine ⟨hs.good,hs.dz,by simp [hs.len],λ k v h=>?_,hs.bx,hs.nds,hs.du,hs.nd,by simp [hs.nt]⟩
  simp only at h
  rw [List.getElem?_set] at h
  split at h
  ·rename_i hk
   subst hk
   split at h
   ·rename_i hlt
    injection h with h
    subst h
    have hg:st.t[n / 2000000 % 1000]? = some (st.t.getD (n / 2000000 % 1000) .undef):=by
     rw [List.getD_eq_getElem?_getD,List.getElem?_eq_getElem hlt]; rfl
    obtain ⟨x,h1,h2⟩:=hs.tm _ _ hg
    exact ⟨x,h1,o1o hi h2⟩
   ·cases h
  ·exact hs.tm k v h
 ·split
  ·rename_i r hr
   refine ⟨hs.good,hs.dz,hs.len,hs.tm,λ k v h=>?_,hs.nds,hs.du,hs.nd,hs.nt⟩
   simp only at h
   rw [List.getElem?_set] at h
   split at h
   ·rename_i hk
    subst hk
    split at h
    ·injection h with h
     injection h with h
     subst h
     have hr':st.h[n / 2000000 % 1000]? = some (some r):=by
      rw [List.getD_eq_getElem?_getD] at hr
      cases h:st.h[n / 2000000 % 1000]? with
      | none=>rw [h] at hr; cases hr
      | some y=>rw [h] at hr; exact congrArg _ hr
     obtain ⟨h1,cur,e,h2,h3,h4⟩:=hs.bx _ r hr'
     refine ⟨h1,cur,e,h2,by rw [a1d]; exact h3,λ k c hc=>?_⟩
     obtain ⟨u,hu,hor⟩:=k1b hc
     obtain ⟨x,e1,e2⟩:=h4 k u hu
     refine ⟨x,e1,?_⟩
     rcases hor with rfl | rfl
     ·exact e2
     ·exact v0e hi e2
    ·cases h
   ·exact hs.bx k v h
  ·exact hs
theorem k1a (st:St)(i n:Nat):(st.own1 i n).dead=st.dead:=by
 unfold St.own1
 split
 ·exact f1n st n
 ·repeat' split
  all_goals rfl
theorem Sim.own1 (hs:Sim Γ st a w)(hdead:st.dead=λ _=>false){i n:Nat}(hi:¬ Γ.has i):∃ Γ',Same Γ Γ' ∧ (∀ j,Γ'.has j↔Γ.has j)∧Sim Γ' (st.own1 i n) a w:=by
 by_cases hn:8000000000≤n
 ·unfold St.own1
  rw [if_pos hn]
  exact hs.take1 hdead n
 ·exact ⟨Γ,Same.rfl',λ _=>Iff.rfl,hs.own0 hi hn⟩
theorem Sim.owns:∀ (ns:List Nat) (i:Nat) (Γ:Ctx) (st:St),(∀ j,j < 999 → ¬ Γ.has j)→st.dead=(λ _=>false)→Sim Γ st a w → ∃ Γ',Same Γ Γ' ∧ Sim Γ' (St.owns ns i st) a w∧(St.owns ns i st).dead=λ _=>false:=by
 intro ns
 induction ns with
 | nil=>intro i Γ st _ hd h; exact ⟨Γ,Same.rfl',h,hd⟩
 | cons n ns ih=>
  intro i Γ st hi hd hs
  by_cases h9:i < 999
  ·rw [St.owns,if_pos h9]
   obtain ⟨Γ1,e1,e2,h1⟩:=hs.own1 hd (i:=i) (n:=n) (hi i h9)
   obtain ⟨Γ2,e3,h2,h3⟩:=ih (i+1) Γ1 _ (λ j hj h=>hi j hj ((e2 j).1 h)) ((k1a st i n).trans hd) h1
   exact ⟨Γ2,e1.trans e3,h2,h3⟩
  ·rw [St.owns,if_neg h9]
   exact ih (i+1) Γ st hi hd hs
theorem Sim.head0 (hs:Sim Γ st a w)(fs:List Nat × List Nat):Sims Γ (st.head0 fs) a w:=by
 have h1:Sim Γ ({ st with t:=g0b fs.1 0 st.t }:St) a w:=by
  refine ⟨hs.good,hs.dz,by rw [s0q]; exact hs.len,λ i v h=>?_,hs.bx,hs.nds,hs.du,hs.nd,by rw [s0q]; exact hs.nt⟩
  simp only [s0p] at h
  cases hc:st.t[i]? with
  | none=>rw [hc] at h; cases h
  | some u=>
   rw [hc] at h
   simp only [Option.map_some,sj_] at h
   obtain ⟨x,e1,e2⟩:=hs.tm i u hc
   refine ⟨x,e1,?_⟩
   split at h
   ·subst h; exact VR.undef_ _
   ·subst h; exact e2
 have h2:Sim Γ (({ st with t:=g0b fs.1 0 st.t }:St).sweep (f0z fs.2)) a w:=by
  have:=Sim.sweep (f:=f0z fs.2) (dead:=st.dead) (Γ':=Γ) (w':=w) h1 (λ u y hleaf hu=>?_) (z0g _) hs.good (λ _ h=>h) (λ _=>rfl) (λ _ _=>rfl) hs.nds hs.du hs.nd
  ·exact this
  ·cases u with
   | ptr d n=>
    simp only [f0z]
    split
    ·exact VR.undef_ _
    ·exact hu
   | agg _=>cases hleaf
   | tup _=>cases hleaf
   | clo _ _=>cases hleaf
   | _=>exact hu
 have h3:Sim Γ ({ ({ st with t:=g0b fs.1 0 st.t }:St).sweep (f0z fs.2) with h:=u0j fs.2 0 (({ st with t:=g0b fs.1 0 st.t }:St).sweep (f0z fs.2)).h }:St) a w:=
  ⟨h2.good,h2.dz,h2.len,h2.tm,λ k v h=>h2.bx k v (h1v _ _ _ _ _ h),h2.nds,h2.du,h2.nd,h2.nt⟩
 have h4:=Sim.sweep (f:=b0s st.dead) (dead:=st.dead) (Γ':=Γ.settled st.dead) (w':=w) h3 (h0p hs.good) (n0f _) hs.good.settled (λ _ h=>h) (λ _=>rfl) (λ _ _=>rfl) (λ b hb _=>?_) hs.du (λ hU b b' hb hb' _ _ hne m=>hs.nd hU b b' hb.1 hb'.1 hb.2 hb'.2 hne m)
 ·have h5:=h4.canon (λ b hb=>by
   rintro (h | ⟨b',hb',hdd,h⟩)
   ·exact hs.nds b hb.1 hb.2 h
   ·have:=hs.good.baseInj b b' hb.1 hb' h
    subst this
    rw [hb.2] at hdd
    cases hdd) (λ hU b b' hb hb' hne m=>hs.nd hU b b' hb.1 hb'.1 hb.2 hb'.2 hne m)
  show Sims Γ (match o0u fs.2 with
   | []=>_
   | ns=>_) a w
  split
  ·exact ⟨(Γ.settled st.dead).renamed _,⟨rfl,rfl,rfl,rfl,rfl,λ _ _=>rfl⟩,h5⟩
  ·have h9:∀ (l:List Nat) (j:Nat),j < 999 → ¬ ((Γ.settled st.dead).renamed l).has j:=λ l j hj ⟨i,b,e,_⟩=>by unfold a0v at e; omega
   obtain ⟨Γ6,e6,h6,hd6⟩:=Sim.owns (o0u fs.2) 0 _ _ (h9 _) rfl h5
   have h7:=h6.canon (λ b hb=>h6.nds b hb (by rw [hd6])) (λ hU b b' hb hb' hne m=>h6.nd hU b b' hb hb' (by rw [hd6]) (by rw [hd6]) hne m)
   exact ⟨Γ6.renamed _,Same.trans ⟨rfl,rfl,rfl,rfl,rfl,λ _ _=>rfl⟩ (Same.trans e6 ⟨rfl,rfl,rfl,rfl,rfl,λ _ _=>rfl⟩),h7⟩
 ·rintro (h | ⟨b',hb',hdd,h⟩)
  ·exact hs.nds b hb.1 hb.2 h
  ·have:=hs.good.baseInj b b' hb.1 hb' h
   subst this
   rw [hb.2] at hdd
   cases hdd
def Ctx.coarse (Γ:Ctx)(dup:Bool):Ctx:={ Γ with U:=True,N:=λ b m=>dup=false∧Γ.N b m }
theorem h0o {dup:Bool}(hU:dup=false→Γ.U):s0a Γ (Γ.coarse dup) w w (coarse dup):=by
 have rr:∀ {q:Q} {s k o:Nat} {xs:List V},Rows w (Γ.Sq q) s xs k o→Rows w ((Γ.coarse dup).Sq q) s xs k o:=λ {q} _ _ _ _ h=>h.mono (λ k hk=>by cases q <;> exact hk) (λ _ _ _=>rfl) (λ _ _ _=>rfl)
 have ra:∀ {q:Q} {s k o:Nat} {xs:List V},Rows w (Γ.Sq q) s xs k o→Rows w ((Γ.coarse dup).Sq .any) s xs k o:=λ h=>h.mono (λ k hk=>p0b hk) (λ _ _ _=>rfl) (λ _ _ _=>rfl)
 have uu:∀ {q:Q} {b s k o:Nat} {xs:List V},Γ.Uq w q b s xs k o→(q = .clean→dup=false)→(Γ.coarse dup).Uq w q b s xs k o:=λ h hd hq _=>(h hq (hU (hd hq))).mono (λ m hm=>⟨⟨hd hq,hm.1⟩,hm.2⟩) (λ _ _ _=>rfl) (λ _ _ _=>rfl)
 have ua:∀ {b s k o:Nat} {xs:List V},(Γ.coarse dup).Uq w .any b s xs k o:=λ hq=>by cases hq
 intro u y hleaf hu
 cases u with
 | undef=>exact VR.undef_ _
 | bool b=>rw [hu.bool_inv]; exact .rd _ _ (.bool b)
 | int k m=>rw [hu.int_inv]; exact .rd _ _ (.int k m)
 | str s=>obtain ⟨z,rfl,hz⟩:=hu.str_inv; exact .rd _ _ (.str s z hz)
 | nil=>rw [hu.nil_inv]; exact .rd _ _ .nil
 | sl s f xs=>exact .rd _ _ hu.sl_inv
 | iptr z o=>
  cases hu with
  | rd _ _ h=>exact .rd _ _ h
 | ptr d n=>
  obtain ⟨rfl,h⟩:=hu.ptr_inv
  exact .ptr (Γ:=Γ.coarse dup) d n h
 | agg _=>cases hleaf
 | tup _=>cases hleaf
 | clo _ _=>cases hleaf
 | own b s q xs=>
  have huq:=hu.own_uq
  have keep:(q = .clean→dup=false)→VR (Γ.coarse dup) w (.own b s q xs) y:=λ hd=>by
   rcases hu.own_inv with ⟨rfl,rfl,h3⟩ | ⟨rfl,h1,h2,h3,h4,h5⟩
   ·exact .ownNil _ _ _ h3
   ·exact .own (Γ:=Γ.coarse dup) b s q xs h1 h2 h3 (rr h4) h5 (uu huq hd)
  cases q with
  | flat=>exact keep (λ e=>by cases e)
  | any=>exact keep (λ e=>by cases e)
  | clean=>
   simp only [coarse]
   split
   ·simp only [Option.getD_some]
    rcases hu.own_inv with ⟨rfl,rfl,h3⟩ | ⟨rfl,h1,h2,h3,h4,h5⟩
    ·exact .ownNil _ _ _ h3
    ·exact .own (Γ:=Γ.coarse dup) b s .any xs h1 h2 h3 (ra h4) (λ e=>by cases e) ua
   ·rename_i hd
    exact keep (λ _=>by simpa using hd)
 | view b s q xs=>
  have hu0:=hu
  have keep:(q = .clean→dup=false)→VR (Γ.coarse dup) w (.view b s q xs) y:=λ hd=>by
   rcases hu.view_inv with ⟨ad,cap,rfl,rfl⟩ | ⟨o,cap,rfl,h1,hx,h3,hfit,h4,h5⟩
   ·exact .view0 (Γ:=Γ.coarse dup) _ _ _ _ _ (hu.view0_of.to Iff.rfl (λ _=>⟨rfl,rfl,rfl,rfl⟩))
   ·exact .view (Γ:=Γ.coarse dup) b s q xs o cap h1 hx h3 hfit (rr h4) h5 (uu hu0.view_uq hd)
  cases q with
  | flat=>exact keep (λ e=>by cases e)
  | any=>exact keep (λ e=>by cases e)
  | clean=>
   simp only [coarse]
   split
   ·simp only [Option.getD_some]
    rcases hu.view_inv with ⟨ad,cap,rfl,rfl⟩ | ⟨o,cap,rfl,h1,hx,h3,hfit,h4,h5⟩
    ·exact .view0 (Γ:=Γ.coarse dup) _ _ _ _ _ (hu.view0_of.to Iff.rfl (λ _=>⟨rfl,rfl,rfl,rfl⟩))
    ·exact .view (Γ:=Γ.coarse dup) b s .any xs o cap h1 hx h3 hfit (ra h4) (λ e=>by cases e) ua
   ·rename_i hd
    exact keep (λ _=>by simpa using hd)
 | eptr b s q xs i o=>
  simp only [coarse]
  split
  ·exact VR.undef_ _
  ·rename_i hd
   have huq:=hu.eptr_uq
   obtain ⟨rfl,h1,h2,h3,h4,h5,h6⟩:=hu.eptr_inv
   exact .eptr (Γ:=Γ.coarse dup) b s q xs i o h1 h2 h3 h4 (rr h5) h6 (uu huq (λ _=>by simpa using hd))
 | vptr b z o=>
  obtain ⟨o',gg,rfl,h1,h2,h3⟩:=hu.vptr_inv
  exact .vptr (Γ:=Γ.coarse dup) b z o' o gg h1 h2 h3
theorem Good.coarse {dup:Bool}(g:Good Γ w):Good (Γ.coarse dup) w:=
 ⟨g.os,g.tape,g.output,g.size,g.old,g.new,g.slt,g.base,g.baseInj,g.box,g.boxInj,g.baseBox,g.sr,g.gl,g.bz,g.zf,λ b hb m hm=>g.ns b hb m hm.2,g.h9⟩
theorem m0u (dup:Bool):∀ v u,coarse dup v=some u→u.cells=[u]:=by
 intro v u h
 unfold coarse at h
 split at h <;> first
  | (cases h; done)
  | (split at h <;> first
    | (simp only [sj_] at h; subst h; rfl)
    | cases h)
theorem Sim.calm (hs:Sim Γ st a w):Sims Γ st.calm a w:=by
 unfold St.calm
 split
 ·rename_i hd
  refine ⟨Γ.coarse true,⟨rfl,rfl,rfl,rfl,rfl,λ _ _=>rfl⟩,?_⟩
  exact Sim.sweep (f:=Go.Am.coarse true) (dead:=st.dead) (dup:=false) hs (h0o (λ e=>by cases e)) (m0u true) hs.good.coarse (λ _ h=>h) (λ _=>rfl) (λ _ _=>rfl) hs.nds (λ _=>trivial) (λ _ b b' _ _ _ _ _ m hm=>by cases hm.1)
 ·exact ⟨Γ,Same.rfl',hs⟩
theorem Sim.head (hs:Sim Γ st a w)(fs:List Nat × List Nat):Sims Γ (st.head fs) a w:=
 let ⟨_,h1,h2⟩:=hs.calm
 Sims.of h1 (h2.head0 fs)
end
end Go.Am
end
section
set_option linter.unusedVariables false
set_option linter.unusedSimpArgs false
namespace Go.Am
open Go Go.RowKit
section
variable {P:Program}{c:Cfg}{Γ Γ':Ctx}{st:St}{a:Act}{w w':World}{den:Nat→List V→Option V}{η:Nat→Option V}{d:Nat}
theorem o1x (hA:b0l P c)(hs:Sim Γ st a w){r:ResultVar}{v:V}(h:k1g c st r=some v) :
    ∃ y,(match r with
      | .tmp t=>(pure (a.tmps.getD t undef):Sem Value)
      | .cell p t=>do loadVar t (← asAddr (a.tmps.getD p undef))).run P w = .ok y w∧VR Γ w v y:=by
  cases r with
  | tmp t=>
    simp only [k1g,sj_] at h
    subst h
    exact ⟨a.tmps.getD t undef,by simp,by simpa [Am.ev,Act.eval] using hs.ev (.tmp t)⟩
  | cell p t=>
    simp only [k1g] at h
    split at h
    · rename_i i hi
      simp only [i0f] at h
      split at h
      · rename_i cs hc
        obtain ⟨ti,ai⟩:=hA _ _ hi
        have hv:VR Γ w (st.t.getD p .undef) (a.tmps.getD p undef):=by simpa [Am.ev,Act.eval] using hs.ev (.tmp p)
        obtain ⟨k,o',g,e,h1,h2⟩:=s0i hs hv hc
        obtain ⟨y,hy,hv⟩:=c1o ai h h1 h2
        refine ⟨y,?_,hv⟩
        simp only [e,asAddr,Sem.run_bind,Sem.run_pure,Result.andThen_ok,hy]
      · cases h
    · cases h
theorem x0s (hA:b0l P c)(hs:Sim Γ st a w):∀ (rs:List ResultVar) (vs:List V),q0r c st rs=some vs →
    ∃ ys:List Value,(rs.mapM (λ r:ResultVar=>match r with
      | .tmp t=>(pure (a.tmps.getD t undef):Sem Value)
      | .cell p t=>do loadVar t (← asAddr (a.tmps.getD p undef)))).run P w = .ok ys w∧ys.length=vs.length ∧ ∀ (i:Nat) (v:V) (y:Value),vs[i]? = some v→ys[i]? = some y→VR Γ w v y:=by
  intro rs
  induction rs with
  | nil=>
    intro vs h
    simp only [q0r,sj_] at h
    subst h
    exact ⟨[],by simp,rfl,λ i v y h=>by simp at h⟩
  | cons r rs ih=>
    intro vs h
    simp only [q0r] at h
    cases h1:k1g c st r with
    | none=>rw [h1] at h; cases h
    | some v=>
      cases h2:q0r c st rs with
      | none=>rw [h1,h2] at h; cases h
      | some vs0=>
        rw [h1,h2] at h
        simp only [sj_] at h
        subst h
        obtain ⟨y,hy,hv⟩:=o1x hA hs h1
        obtain ⟨ys,hys,hl,hr⟩:=ih vs0 h2
        refine ⟨y :: ys,?_,by simp [hl],λ i v' y' e1 e2=>?_⟩
        · rw [List.mapM_cons]
          simp only [Sem.run_bind,hy,Result.andThen_ok,hys,Sem.run_pure]
        · cases i with
          | zero=>
            simp only [List.getElem?_cons_zero,sj_] at e1 e2
            subst e1; subst e2
            exact hv
          | succ i=>exact hr i v' y' (by simpa using e1) (by simpa using e2)
def Ctx.placed (Γ:Ctx)(l:List (List Nat)):Ctx:={ Γ with has:=λ j=>∃ b,l[j]? = some [b]∧l.idxOf [b]=j∧Γ.has b,blk:=λ j=>Γ.blk ((l.getD j []).headD 0),
                                                         off:=λ j=>Γ.off ((l.getD j []).headD 0),cap:=λ j=>Γ.cap ((l.getD j []).headD 0),sz:=λ j=>Γ.sz ((l.getD j []).headD 0),ln:=λ j=>Γ.ln ((l.getD j []).headD 0),lb:=λ _=>False,N:=λ j=>Γ.N ((l.getD j []).headD 0) }
theorem a0o {l:List (List Nat)}{j b:Nat}(h:l[j]? = some [b]):(l.getD j []).headD 0=b:=by
 rw [List.getD_eq_getElem?_getD,h]
 rfl
theorem i0x {l:List (List Nat)}{b:Nat}(hb:[b]∈l):l[l.idxOf [b]]? = some [b]:=by
 rw [List.getElem?_eq_getElem (List.idxOf_lt_length_of_mem hb),List.getElem_idxOf]
theorem j0u {l:List (List Nat)}{b:Nat}(hb:[b]∈l):(Γ.placed l).has (l.idxOf [b])↔Γ.has b:=by
 constructor
 ·rintro ⟨b',h2,h3,h4⟩
  rw [i0x hb] at h2
  simp only [sj_,List.cons.injEq,and_true] at h2
  rw [h2]; exact h4
 ·intro h
  exact ⟨b,i0x hb,rfl,h⟩
theorem m0c:∀ {cs:List V},v0c cs=true → ∀ u∈cs,f0j u=true:=by
 intro cs
 induction cs with
 | nil=>intro _ u hu; cases hu
 | cons v vs ih=>
  intro h u hu
  rw [v0c,Bool.and_eq_true] at h
  rcases List.mem_cons.1 hu with rfl | hu
  ·exact h.1
  ·exact ih h.2 u hu
theorem e0p:∀ {vs:List V} {v u:V},v∈vs→u∈v.cells→u∈cellsOf vs:=by
 intro vs
 induction vs with
 | nil=>intro v u hv; cases hv
 | cons x vs ih=>
  intro v u hv hu
  rw [cellsOf,List.mem_append]
  rcases List.mem_cons.1 hv with rfl | hv
  ·exact .inl hu
  ·exact .inr (ih hv hu)
theorem s0y {l:List (List Nat)}:∀ v x,(match v with
   | .agg _=>False
   | .tup _=>False
   | .clo _ _=>False
   | _=>True)→(∀ u∈v.cells,f0j u=true ∧ ∀ b∈c0f u,[b]∈l)→VR Γ w v x→VR (Γ.placed l) w ((r0p l v).getD v) x:=by
 intro u y hleaf hc hu
 have e1:∀ {b:Nat},[b]∈l→(Γ.placed l).blk (l.idxOf [b])=Γ.blk b:=λ {b} hb=>by show Γ.blk _=_; rw [a0o (i0x hb)]
 have e2:∀ {b:Nat},[b]∈l→(Γ.placed l).off (l.idxOf [b])=Γ.off b:=λ {b} hb=>by show Γ.off _=_; rw [a0o (i0x hb)]
 have e3:∀ {b:Nat},[b]∈l→(Γ.placed l).cap (l.idxOf [b])=Γ.cap b:=λ {b} hb=>by show Γ.cap _=_; rw [a0o (i0x hb)]
 have e4:∀ {b:Nat},[b]∈l→(Γ.placed l).sz (l.idxOf [b])=Γ.sz b:=λ {b} hb=>by show Γ.sz _=_; rw [a0o (i0x hb)]
 have e5:∀ {b:Nat},[b]∈l→(Γ.placed l).ln (l.idxOf [b])=Γ.ln b:=λ {b} hb=>by show Γ.ln _=_; rw [a0o (i0x hb)]
 have e6:∀ {b:Nat},[b]∈l→(Γ.placed l).N (l.idxOf [b])=Γ.N b:=λ {b} hb=>by show Γ.N _=_; rw [a0o (i0x hb)]
 have uu:∀ {q:Q} {b s k o:Nat} {xs:List V},[b]∈l→Γ.Uq w q b s xs k o→(Γ.placed l).Uq w q (l.idxOf [b]) s xs k o:=λ hb h hq hU=>(h hq hU).mono (λ m hm=>⟨by rw [e6 hb]; exact hm.1,hm.2⟩) (λ _ _ _=>rfl) (λ _ _ _=>rfl)
 have sq:∀ q k,Γ.Sq q k→(Γ.placed l).Sq q k:=λ q k h=>by cases q <;> exact h
 have rr:∀ {q:Q} {s k o:Nat} {xs:List V},Rows w (Γ.Sq q) s xs k o→Rows w ((Γ.placed l).Sq q) s xs k o:=λ h=>h.mono (sq _) (λ _ _ _=>rfl) (λ _ _ _=>rfl)
 cases u with
 | undef=>exact VR.undef_ _
 | bool b=>rw [hu.bool_inv]; exact .rd _ _ (.bool b)
 | int k m=>rw [hu.int_inv]; exact .rd _ _ (.int k m)
 | str s=>obtain ⟨z,rfl,hz⟩:=hu.str_inv; exact .rd _ _ (.str s z hz)
 | nil=>rw [hu.nil_inv]; exact .rd _ _ .nil
 | sl s f xs=>exact .rd _ _ hu.sl_inv
 | iptr z o=>
  cases hu with
  | rd _ _ h=>exact .rd _ _ h
 | ptr d n=>exact absurd (hc _ (List.mem_singleton.2 rfl)).1 (by simp [f0j])
 | eptr b s q xs i o=>exact absurd (hc _ (List.mem_singleton.2 rfl)).1 (by simp [f0j])
 | vptr b z o=>exact absurd (hc _ (List.mem_singleton.2 rfl)).1 (by simp [f0j])
 | agg _=>cases hleaf
 | tup _=>cases hleaf
 | clo _ _=>cases hleaf
 | own b s q xs=>
  have hb:[b]∈l:=(hc _ (List.mem_singleton.2 rfl)).2 b (List.mem_singleton.2 rfl)
  simp only [r0p,Option.getD_some]
  have huq:=hu.own_uq
  rcases hu.own_inv with ⟨rfl,rfl,h3⟩ | ⟨rfl,h1,h2,h3,h4,h5⟩
  ·exact .ownNil _ _ _ (λ h=>h3 ((j0u hb).1 h))
  ·have:=VR.own (Γ:=Γ.placed l) (w:=w) (l.idxOf [b]) s q xs ((j0u hb).2 h1) (by rw [e4 hb]; exact h2) (by rw [e3 hb,e5 hb]; exact h3) (by rw [e1 hb,e2 hb]; exact rr h4) h5 (by rw [e1 hb,e2 hb]; exact uu hb huq)
   rwa [e1 hb,e2 hb,e3 hb] at this
 | view b s q xs=>
  have hb:[b]∈l:=(hc _ (List.mem_singleton.2 rfl)).2 b (List.mem_singleton.2 rfl)
  simp only [r0p,Option.getD_some]
  have hu0:=hu
  rcases hu.view_inv with ⟨ad,cap,rfl,rfl⟩ | ⟨o,cap,rfl,h1,hx,h3,hfit,h4,h5⟩
  ·exact .view0 _ _ _ _ _ (hu.view0_of.to (j0u hb) (λ _=>⟨e1 hb,e2 hb,e3 hb,e4 hb⟩))
  ·have:=VR.view (Γ:=Γ.placed l) (w:=w) (l.idxOf [b]) s q xs o cap ((j0u hb).2 h1) hx h3 (by rw [e2 hb,e3 hb,e4 hb]; exact hfit) (by rw [e1 hb]; exact rr h4) h5 (by rw [e1 hb]; exact uu hb hu0.view_uq)
   rwa [e1 hb] at this
theorem t0j {j:Nat}{z v:V}{x:Value}(h:VR Γ w v x)(hn:v = .nil → ¬ Γ.has j):VR Γ w (n0c j z v) x:=by
 unfold n0c
 split
 ·rw [h.nil_inv]; exact .ownNil _ _ _ (hn rfl)
 ·rw [h.nil_inv]; exact .view0 _ _ _ _ _ (.inl ⟨rfl,rfl,hn rfl⟩)
 ·rename_i b s q xs
  have huq:=h.own_uq
  rcases h.own_inv with ⟨rfl,rfl,h0⟩ | ⟨rfl,h1,h2,h3,h4,h5⟩
  ·exact .view0 _ _ _ _ _ (.inl ⟨rfl,rfl,h0⟩)
  ·by_cases hx:xs=[]
   ·subst hx; exact .view0 _ _ _ _ _ (.inr ⟨h1,_,rfl,by rw [h2]; exact Nat.le_refl _,Nat.le_refl _⟩)
   ·exact .view b s q xs _ _ h1 (List.length_pos_iff.2 hx) h3.1 ⟨by rw [h2]; exact Nat.le_refl _,Nat.le_refl _⟩ h4 h5 huq
 ·rw [h.nil_inv]; exact .rd _ _ (.empty _ _ _ _)
 ·exact h
theorem a1h (j:Nat)(z v:V):(n0c j z v).cells.length=v.cells.length:=by
 unfold n0c; split <;> rfl
theorem o0b:∀ (zs vs:List V) (j:Nat),(h0t j zs vs).length=vs.length:=by
 intro zs
 induction zs with
 | nil=>intro vs j; cases vs <;> rfl
 | cons z zs ih=>intro vs j; cases vs with
  | nil=>rfl
  | cons v vs=>rw [h0t,List.length_cons,ih,List.length_cons]
theorem a1i:∀ (zs vs:List V) (j:Nat),(∀ k,vs[k]? = some .nil → ¬ Γ.has (j+k)) → ∀ (i:Nat) (u:V),(h0t j zs vs)[i]? = some u → ∃ v,vs[i]? = some v ∧ ∀ x,VR Γ w v x→VR Γ w u x:=by
 intro zs
 induction zs with
 | nil=>intro vs j _ i u h; cases vs <;> exact ⟨u,h,λ _ h=>h⟩
 | cons z zs ih=>
  intro vs j hn i u h
  cases vs with
  | nil=>simp [h0t] at h
  | cons v vs=>
   rw [h0t] at h
   cases i with
   | zero=>
    simp only [List.getElem?_cons_zero,sj_] at h
    subst h
    exact ⟨v,rfl,λ x hx=>t0j hx (λ e=>hn 0 (by rw [e]; rfl))⟩
   | succ i=>
    obtain ⟨y,h1,h2⟩:=ih vs (j+1) (λ k hk=>by have:=hn (k+1) (by simpa using hk); rwa [show j+1+k=j+(k+1) by omega]) i u (by simpa using h)
    exact ⟨y,by simpa using h1,h2⟩
theorem x0r {j:Nat}{zs:List V}{v:V}{x:Value}(h:VR Γ w v x)(hn:∀ k,v.cells[k]? = some .nil → ¬ Γ.has (j+k)):VR Γ w (t0k j zs v) x:=by
 cases v with
 | agg cs=>
  obtain ⟨vs,rfl,h1,h2⟩:=h.agg_inv
  refine .agg _ vs (by rw [o0b]; exact h1) (λ i c v e1 e2=>?_)
  obtain ⟨y,hy,hu⟩:=a1i (w:=w) zs cs j hn i c e1
  exact hu v (h2 i y v hy e2)
 | _=>
  unfold t0k
  split
  ·rename_i heq; cases heq
  ·split
   ·exact t0j h (λ e=>by have:=hn 0 (by rw [e]; rfl); simpa using this)
   ·exact h
theorem q0q:∀ (vs zs:List V) (j:Nat),(f0l j zs vs).length=vs.length:=by
 intro vs
 induction vs with
 | nil=>intro zs j; cases zs <;> rfl
 | cons v vs ih=>intro zs j; rw [f0l,List.length_cons,ih,List.length_cons]
theorem k0z:∀ (vs zs:List V) (j i:Nat) (u:V),(f0l j zs vs)[i]? = some u → ∃ v j' zs',vs[i]? = some v∧u=t0k (j+j') zs' v ∧ ∀ k c,v.cells[k]? = some c→(cellsOf vs)[j' + k]? = some c:=by
 intro vs
 induction vs with
 | nil=>intro zs j i u h; cases zs <;> simp [f0l] at h
 | cons v vs ih=>
  intro zs j i u h
  rw [f0l] at h
  cases i with
  | zero=>
   simp only [List.getElem?_cons_zero,sj_] at h
   refine ⟨v,0,zs,rfl,h.symm,λ k c hk=>?_⟩
   rw [cellsOf,Nat.zero_add,List.getElem?_append_left (gs_ hk).1]
   exact hk
  | succ i=>
   obtain ⟨y,j',zs',h1,h2,h3⟩:=ih _ _ i u (by simpa using h)
   refine ⟨y,v.cells.length+j',zs',by simpa using h1,by rw [h2]; congr 1; omega,λ k c hk=>?_⟩
   rw [cellsOf,List.getElem?_append_right (by omega)]
   rw [← h3 k c hk]
   congr 1
   omega
theorem n0m (l:List (List Nat)):∀ (vs:List V),cellsOf (V.mapBs (r0p l) vs)=V.mapBs (r0p l) (cellsOf vs):=by
 have happ:∀ (a b:List V),V.mapBs (r0p l) (a++b)=V.mapBs (r0p l) a++V.mapBs (r0p l) b:=by
  intro a b
  induction a with
  | nil=>rfl
  | cons x a ih=>rw [List.cons_append,V.mapBs,V.mapBs,ih,List.cons_append]
 intro vs
 induction vs with
 | nil=>rfl
 | cons v vs ih=>
  rw [V.mapBs,cellsOf,cellsOf,ih,happ]
  congr 1
  cases v <;> rfl
theorem c1j {l:List (List Nat)}:∀ {cs:List V} {k:Nat},(V.mapBs (r0p l) cs)[k]? = some .nil→cs[k]? = some .nil:=by
 intro cs k h
 rw [a0e] at h
 cases hc:cs[k]? with
 | none=>rw [hc] at h; cases h
 | some c=>
  rw [hc] at h
  simp only [Option.map_some,sj_] at h
  cases c <;> first | rfl | (simp only [V.mapB,r0p,Option.getD_some,Option.getD_none] at h; cases h)
end
end Go.Am
end

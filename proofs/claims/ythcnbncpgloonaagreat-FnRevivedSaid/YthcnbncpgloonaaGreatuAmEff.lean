/-
  The operations that write: a store, an append to a slice of the call's own.
-/
import Derived.Test.YthcnbncpgloonaaGreatuAmNew
import Derived.Laws.MakeOwn
import Derived.Laws.AppendOwn
section
set_option linter.unusedVariables false
set_option linter.unusedSimpArgs false
namespace Go.Am
open Go Go.RowKit
section
variable {P:Program}{c:Cfg}{Γ:Ctx}{st:St}{a:Act}{w:World}{den:Nat→List V→Option V}{η:Nat→Option V}{d:Nat}
theorem f0p (hd:d < 1000){j:Nat}(hj:j < 1000):base d j / 1000=d:=by unfold base; omega
theorem u0f (g:Good Γ w){esc:List Nat}:∀ k,g0x Γ esc k→Γ.R k∨Γ.F k:=by
 rintro k (h | ⟨b,_,hb,rfl⟩)
 ·exact g.sr k h
 ·exact .inr (g.base b hb).1
def NewRows (Γ:Ctx)(w:World)(S':Nat→Prop)(s:Nat)(q:Q)(ys:List V)(cs:Array Value):Prop:=
 (∀ x∈ys,x.cells.length=s)∧(∀ (i:Nat) (x:V) (j:Nat) (u:V),ys[i]? = some x→x.cells[j]? = some u → ∃ v,cs[i * s+j]? = some v∧v.oneCell' = true ∧
 Rd w S' u v∧(q.good=true→Rd w (λ k=>S' k∧Γ.Z k) u v)∧(q = .flat→r0o u))
def NewTr (Γ:Ctx)(w:World)(esc:List Nat)(s:Nat)(ys:List V)(cs:Array Value):Prop:=
 ∃ T:Nat→Nat→Nat→Prop,(∀ (i:Nat) (x:V) (j:Nat) (u:V) (v:Value),ys[i]? = some x→x.cells[j]? = some u→cs[i * s+j]? = some v→Tr w u v (T i j)) ∧
 (∀ i j i' j' m,T i j m→T i' j' m→i=i' ∧ j=j') ∧ ∀ i j m,T i j m → ∃ b∈esc,Γ.has b∧(m=Γ.blk b∨Γ.N b m)
theorem NewTr.flat {esc:List Nat}{s:Nat}{ys:List V}{cs:Array Value}(h:∀ x∈ys,∀ c∈x.cells,r0o c):NewTr Γ w esc s ys cs:=
 ⟨λ _ _ _=>False,λ i x j u v hx hu _=>.leaf _ _ _ (h x (a0a hx) u (a0a hu)),λ _ _ _ _ _ h=>h.elim,λ _ _ _ h=>h.elim⟩
theorem NewTr.drew {esc:List Nat}{s:Nat}{ys:List V}{cs:Array Value}(h:NewTr Γ w esc s ys cs):NewTr Γ w.drew esc s ys cs:=by
 obtain ⟨T,h1,h2,h3⟩:=h
 exact ⟨T,λ i x j u v e1 e2 e3=>(h1 i x j u v e1 e2 e3).mono (λ _ _ _=>rfl),h2,h3⟩
theorem Sim.apart (hs:Sim Γ st a w)(hU:Γ.U){b b' m:Nat}(hb:Γ.has b)(hb':Γ.has b')(hl:st.dead b=false)(hl':st.dead b' = false)(hne:b ≠ b')(h1:m=Γ.blk b∨Γ.N b m)(h2:m=Γ.blk b' ∨ Γ.N b' m):False:=by
 rcases h1 with h1 | h1
 ·rcases h2 with h2 | h2
  ·exact hne (hs.good.baseInj b b' hb hb' (h1.symm.trans h2))
  ·exact hs.nds b hb hl (h1 ▸ (hs.good.ns b' hb' m h2).1)
 ·rcases h2 with h2 | h2
  ·exact hs.nds b' hb' hl' (h2 ▸ (hs.good.ns b hb m h1).1)
  ·exact hs.nd hU b b' hb hb' hl hl' hne m h1 h2
theorem Sim.newOwn {s:Nat}{q:Q}{ys:List V}{cs:Array Value}{e:TypeId}{n:Nat}{esc:List Nat}(hs:Sim Γ st a w)(hd:d < 1000)(hf:st.freeD d=true)
    (hl:ys.length≤n) (hn:n * s≤cs.size) (hm:n≤maxLen) (hr:NewRows Γ w (g0x Γ esc) s q ys cs) (hT:q.good=true→Γ.U→a0i st.dead esc=true→NewTr Γ w esc s ys cs) :
    Sims Γ ((({ st with t:=st.t.set d (.own (base d 0) s q ys) }:St).kill esc).mark (!a0i st.dead esc)) (a.put (some d) (.slice (some ⟨w.heap.size,0,none⟩) ys.length n)) (w.alloc (.cells cs e)):=by
  let b0:=base d 0
  let Γ':Ctx:={ Γ with S:=g0x Γ esc,has:=λ b=>(Γ.has b∧b / 1000 ≠ d)∨b=b0,blk:=λ b=>if b=b0 then w.heap.size else Γ.blk b,
                       off:=λ b=>if b=b0 then 0 else Γ.off b,cap:=λ b=>if b=b0 then n else Γ.cap b,sz:=λ b=>if b=b0 then s else Γ.sz b,ln:=λ b=>if b=b0 then ys.length else Γ.ln b,Z:=λ k=>Γ.Z k∨k=w.heap.size,
                       N:=λ b m=>if b=b0 then ∃ b' ∈ esc,Γ.has b' ∧ (m=Γ.blk b' ∨ Γ.N b' m) else Γ.N b m,U:=Γ.U∧a0i st.dead esc=true }
  have g:=hs.good
  have hN0:∀ m,Γ'.N b0 m → ∃ b' ∈ esc,Γ.has b' ∧ (m=Γ.blk b' ∨ Γ.N b' m):=λ m h=>by simpa [Γ'] using h
  have hN1:∀ b m,b ≠ b0→Γ'.N b m→Γ.N b m:=λ b m hb h=>by simpa [Γ',hb] using h
  have hsz:=size_alloc w (.cells cs e)
  have hb0:b0 / 1000=d:=f0p hd (by omega)
  have hne:∀ b,b / 1000 ≠ d→b ≠ b0:=λ b hb he=>hb (by rw [he,hb0])
  have hS':∀ k,g0x Γ esc k→k < w.heap.size:=by
    rintro k (hk | ⟨b,_,hb,rfl⟩)
    · exact g.slt k hk
    · exact (g.base b hb).2.1
  refine ⟨Γ',⟨rfl,rfl,rfl,rfl,rfl,λ _ _=>rfl⟩,?_⟩
  have hcell:∀ k,k < w.heap.size → ∀ o,(w.alloc (.cells cs e)).cell? ⟨k,o,none⟩=w.cell? ⟨k,o,none⟩:=λ k hk o=>cell?_of_heap (a0c w _ hk) o
  have hb9:b0 ≠ 999:=by show d * 1000+0 ≠ 999; omega
  refine Sim.extend (p:=λ b=>b / 1000 == d) hs (λ k hk=>a0c w _ hk) (λ h=>h.1) (λ k hk=>.inl hk) (λ _ h=>.inl h) (λ b hb=>?_) (λ _ h=>h) (λ _=>rfl) (u0p hf) (u0o hf) ?_ ?_ (λ h1 h2=>⟨hs.du h1,by simpa using h2⟩) ?_ ?_
  · have hb:b / 1000 ≠ d:=by simpa using hb
    have hb1:=hne b hb
    exact ⟨⟨λ h=>h.elim (λ h=>h.1) (λ h=>absurd h hb1),λ h=>.inl ⟨h,hb⟩⟩,λ _=>⟨if_neg hb1,if_neg hb1,if_neg hb1,if_neg hb1,if_neg hb1,λ m h=>by simpa [Γ',hb1] using h⟩⟩
  · refine ⟨g.os,g.tape,g.output,Nat.le_trans g.size (by rw [hsz]; omega),λ k hk hF=>?_,g.new,λ k hk=>?_,λ b hb=>?_,λ b b' hb hb' he=>?_,λ k hk=>?_,g.boxInj,λ b k hb hk=>?_,u0f g,g.gl,λ b hb=>?bz,λ k hk=>?zf,λ b hb m hm=>?ns,λ h=>?h9⟩
    case h9=>exact h.elim (λ h=>g.h9 h.1) (λ h=>hb9 h.symm)
    case ns=>
      show g0x Γ esc m∧(Γ.Z m∨_)
      by_cases h0:b=b0
      · subst h0
        obtain ⟨b',h1,h2,h3⟩:=hN0 m hm
        rcases h3 with rfl | h3
        · exact ⟨.inr ⟨b',h1,h2,rfl⟩,.inl (g.bz b' h2)⟩
        · exact ⟨.inl (g.ns b' h2 m h3).1,.inl (g.ns b' h2 m h3).2⟩
      · have:=g.ns b (hb.resolve_right h0).1 m (hN1 b m h0 hm)
        exact ⟨.inl this.1,.inl this.2⟩
    case bz=>
      show Γ.Z (if b=b0 then _ else _)∨(if b=b0 then _ else _)=_
      by_cases h0:b=b0
      · rw [if_pos h0]; exact .inr rfl
      · rw [if_neg h0]; exact .inl (g.bz b (hb.resolve_right h0).1)
    case zf=>
      rcases hk with hk | hk
      · obtain ⟨z1,z2,cur,e',h⟩:=g.zf k hk
        exact ⟨z1,by rw [hsz]; omega,cur,e',(a0c w _ z2).trans h⟩
      · subst hk
        exact ⟨.inl (g.new _ g.size),by rw [hsz]; omega,cs,e,b0y w _⟩
    · exact (a0c w _ (Nat.lt_of_lt_of_le hk g.size)).trans (g.old k hk hF)
    · have:=hS' k hk; rw [hsz]; omega
    · by_cases h0:b=b0
      · show Γ.F (if b=b0 then _ else _)∧(if b=b0 then _ else _) < _∧(if b=b0 then _ else _)≤_ ∧ ∃ cur e',(w.alloc (.cells cs e)).heap[if b=b0 then w.heap.size else Γ.blk b]? = some (.cells cur e' (0,0))∧(if b=b0 then 0 else Γ.off b)+(if b=b0 then n else Γ.cap b) * (if b=b0 then s else Γ.sz b)≤cur.size
        simp only [if_pos h0]
        exact ⟨g.new _ g.size,by rw [hsz]; omega,hm,cs,e,b0y w _,by omega⟩
      · rcases hb with ⟨hb,_⟩ | hb
        · obtain ⟨h1,h2,h3,cur,e',h4,h5⟩:=g.base b hb
          show Γ.F (if b=b0 then _ else _)∧(if b=b0 then _ else _) < _∧(if b=b0 then _ else _)≤_ ∧ ∃ cur e',(w.alloc (.cells cs e)).heap[if b=b0 then w.heap.size else Γ.blk b]? = some (.cells cur e' (0,0))∧(if b=b0 then 0 else Γ.off b)+(if b=b0 then n else Γ.cap b) * (if b=b0 then s else Γ.sz b)≤cur.size
          simp only [if_neg h0]
          exact ⟨h1,by rw [hsz]; omega,h3,cur,e',(a0c w _ h2).trans h4,h5⟩
        · exact absurd hb h0
    · change (if b=b0 then w.heap.size else Γ.blk b)=(if b' = b0 then w.heap.size else Γ.blk b') at he
      by_cases h1:b=b0
      · by_cases h2:b' = b0
        · rw [h1,h2]
        · rcases hb' with ⟨hb',_⟩ | hb'
          · rw [if_pos h1,if_neg h2] at he
            have:=(g.base b' hb').2.1; omega
          · exact absurd hb' h2
      · rcases hb with ⟨hb,_⟩ | hb
        · by_cases h2:b' = b0
          · rw [if_neg h1,if_pos h2] at he
            have:=(g.base b hb).2.1; omega
          · rcases hb' with ⟨hb',_⟩ | hb'
            · rw [if_neg h1,if_neg h2] at he
              exact g.baseInj b b' hb hb' he
            · exact absurd hb' h2
        · exact absurd hb h1
    · obtain ⟨h1,h2,h3⟩:=g.box k hk
      refine ⟨h1,?_,Nat.lt_of_lt_of_le h3 (by rw [hsz]; omega)⟩
      rintro (h | ⟨b,_,hb,h⟩)
      · exact h2 h
      · exact g.baseBox b k hb hk h.symm
    · show (if b=b0 then w.heap.size else Γ.blk b) ≠ Γ.box k
      by_cases h1:b=b0
      · rw [if_pos h1]; have:=(g.box k hk).2.2; omega
      · rcases hb with ⟨hb,_⟩ | hb
        · rw [if_neg h1]; exact g.baseBox b k hb hk
        · exact absurd hb h1
  · intro b hb he hdd
    show ¬ g0x Γ esc (if b=b0 then w.heap.size else Γ.blk b)
    by_cases h1:b=b0
    · rw [if_pos h1]
      intro h
      have:=hS' _ h; omega
    · rcases hb with ⟨hb,_⟩ | hb
      · rw [if_neg h1]
        rintro (h | ⟨b',hb1,hb2,h⟩)
        · exact hs.nds b hb hdd h
        · have:=g.baseInj b b' hb hb2 h
          subst this
          simp [hb1] at he
      · exact absurd hb h1
  · rintro ⟨hU,hmv⟩ b b' hb hb' he hdd he' hdd' hne2 m hm hm'
    have aux:∀ (b1 b2:Nat),Γ'.has b1→Γ'.has b2→esc.contains b2=false→st.dead b2=false→b1=b0→b2 ≠ b0→Γ'.N b1 m→Γ'.N b2 m→False:=by
      intro b1 b2 k1 k2 k3 k4 k5 k6 k7 k8
      subst k5
      obtain ⟨b3,j1,j2,j3⟩:=hN0 m k7
      have k8:=hN1 b2 m k6 k8
      have k2:=(k2.resolve_right k6).1
      exact hs.apart hU j2 k2 (b0v hmv b3 j1 (λ e=>g.h9 (e ▸ j2))) k4 (λ e=>by subst e; simp [j1] at k3) j3 (.inr k8)
    by_cases h1:b=b0
    · exact aux b b' hb hb' he' hdd' h1 (λ h2=>hne2 (h1.trans h2.symm)) hm hm'
    · by_cases h2:b' = b0
      · exact aux b' b hb' hb he hdd h2 h1 hm' hm
      · exact hs.nd hU b b' (hb.resolve_right h1).1 (hb'.resolve_right h2).1 hdd hdd' hne2 m (hN1 b m h1 hm) (hN1 b' m h2 hm')
  · obtain ⟨r1,r2⟩:=hr
    have e1:Γ'.blk b0=w.heap.size:=if_pos rfl
    have e2:Γ'.off b0=0:=if_pos rfl
    have e3:Γ'.cap b0=n:=if_pos rfl
    have e4:Γ'.sz b0=s:=if_pos rfl
    have e5:Γ'.ln b0=ys.length:=if_pos rfl
    have hcs:∀ (i:Nat) (x:V) (j:Nat) (u:V),ys[i]? = some x→x.cells[j]? = some u→cs[i * s+j]? = some (cs.getD (i * s+j) undef):=λ i x j u hx hu=>by
      obtain ⟨v,h1,_⟩:=r2 i x j u hx hu
      simp only [Array.getD_eq_getD_getElem?,h1,Option.getD_some]
    have:=VR.own (Γ:=Γ') (w:=w.alloc (.cells cs e)) b0 s q ys (.inr rfl) e4.symm (by rw [e3]; exact ⟨hl,e5.symm⟩) ?_ ?_ ?_
    · rwa [e1,e2,e3] at this
    · rw [e1,e2]
      refine ⟨r1,λ i j=>cs.getD (i * s+j) undef,λ i j hi hj=>?_,λ i x j u hx hu=>?_⟩
      · obtain ⟨x,hx⟩:∃ x,ys[i]? = some x:=⟨_,List.getElem?_eq_getElem hi⟩
        obtain ⟨u,hu⟩:∃ u,x.cells[j]? = some u:=⟨_,List.getElem?_eq_getElem (by rw [r1 x (a0a hx)]; exact hj)⟩
        obtain ⟨v,h1,h2,_⟩:=r2 i x j u hx hu
        have:=b0y w (.cells cs e)
        simp only [World.cell?,this,Nat.zero_add,Array.getD_eq_getD_getElem?,h1]
        exact ⟨rfl,h2⟩
      · obtain ⟨v,h1,_,h3,h4,_⟩:=r2 i x j u hx hu
        simp only [Array.getD_eq_getD_getElem?,h1,Option.getD_some]
        cases q with
        | any=>exact h3.mono (λ _ h=>h) (λ k hk o=>hcell k (hS' k hk) o)
        | flat=>exact (h4 rfl).mono (λ _ h=>⟨h.1,.inl h.2⟩) (λ k hk o=>hcell k (hS' k hk.1) o)
        | clean=>exact (h4 rfl).mono (λ _ h=>⟨h.1,.inl h.2⟩) (λ k hk o=>hcell k (hS' k hk.1) o)
    · intro hq x hx u hu
      obtain ⟨i,hi⟩:=List.getElem?_of_mem hx
      obtain ⟨j,hj⟩:=List.getElem?_of_mem hu
      obtain ⟨v,_,_,_,_,h5⟩:=r2 i x j u hi hj
      exact h5 hq
    · rintro hq ⟨hU,hmv⟩
      obtain ⟨T,t1,t2,t3⟩:=hT (by rw [hq]; rfl) hU hmv
      have hTS:∀ i j m,T i j m→g0x Γ esc m:=λ i j m hm=>by
        obtain ⟨b',q1,q2,q3⟩:=t3 i j m hm
        rcases q3 with rfl | q3
        · exact .inr ⟨b',q1,q2,rfl⟩
        · exact .inl (g.ns b' q2 m q3).1
      rw [e1,e2]
      refine ⟨λ i j=>cs.getD (i * s+j) undef,T,λ i j hi hj=>?_,λ i x j u hx hu=>(t1 i x j u _ hx hu (hcs i x j u hx hu)).mono (λ k hk o=>hcell k (hS' k (hTS i j k hk)) o),t2,λ i j m hm=>⟨?_,hTS i j m hm⟩⟩
      · obtain ⟨x,hx⟩:∃ x,ys[i]? = some x:=⟨_,List.getElem?_eq_getElem hi⟩
        obtain ⟨u,hu⟩:∃ u,x.cells[j]? = some u:=⟨_,List.getElem?_eq_getElem (by rw [r1 x (a0a hx)]; exact hj)⟩
        have:=b0y w (.cells cs e)
        simp only [World.cell?,this,Nat.zero_add]
        exact hcs i x j u hx hu
      · show if b0=b0 then _ else _
        rw [if_pos rfl]
        exact t3 i j m hm
theorem u1z (hs:Sim Γ st a w)(s:Nat):∀ (ps:List (Nat × Operand)) (acc xs:List V) (vs:Array Value),
  vs.size=acc.length * s→(∀ x∈acc,x.cells.length=s) →
  (∀ (i:Nat) (x:V) (j:Nat) (u:V),acc[i]? = some x→x.cells[j]? = some u → ∃ y,vs[i * s+j]? = some y∧VR Γ w u y) →
  v0i s (ps.map λ p=>ev st.t p.2)=true→q0s acc (ps.map λ p=>(p.1,ev st.t p.2))=some xs →
  ∃ vs',Instr.fill (λ i=>some (i * s,s)) vs (ps.map λ p=>(p.1,a.eval p.2))=some vs' ∧ vs'.size=vs.size∧xs.length=acc.length∧(∀ x∈xs,x.cells.length=s) ∧
   (∀ (i:Nat) (x:V) (j:Nat) (u:V),xs[i]? = some x→x.cells[j]? = some u → ∃ y,vs'[i * s+j]? = some y∧VR Γ w u y):=by
 intro ps
 induction ps with
 | nil=>
  intro acc xs vs h1 h2 h3 _ h
  simp only [List.map_nil,q0s,sj_] at h
  subst h
  exact ⟨vs,rfl,rfl,rfl,h2,h3⟩
 | cons p ps ih=>
  intro acc xs vs h1 h2 h3 hsz h
  obtain ⟨i,x⟩:=p
  simp only [List.map_cons,v0i,Bool.and_eq_true,beq_iff_eq] at hsz
  obtain ⟨⟨hlen,hdef⟩,hsz⟩:=hsz
  simp only [List.map_cons,q0s] at h
  split at h
  ·rename_i hi
   have hx:=hs.ev x
   have hcl:=hx.cellLen hdef
   have hcell:=hx.cells hcl
   have hi1:i * s+s≤acc.length * s:=by
    have:=Nat.mul_le_mul_right s (show i+1≤acc.length from hi)
    rw [Nat.add_mul,Nat.one_mul] at this
    exact this
   have hget:=k1n (i * s) (a.eval x).cells.toList 0 vs (by simp; omega)
   have hfz:=c1v (i * s) ((a.eval x).cells.toList.zipIdx 0) vs
   generalize he:((a.eval x).cells.toList.zipIdx 0).foldl (λ (cs:Array Value) (q:Value × Nat)=>cs.setIfInBounds (i * s+q.2) q.1) vs=vs1 at hget hfz
   simp only [Nat.add_zero,Array.length_toList,Array.getElem?_toList] at hget
   obtain ⟨vs',f1,f2,f3,f4,f5⟩:=ih (acc.set i (ev st.t x)) xs vs1 (by rw [hfz]; simpa using h1) (λ y hy=>by
    rcases List.mem_or_eq_of_mem_set hy with h | h
    ·exact h2 y h
    ·rw [h]; exact hlen) (λ i' x' j u hx' hu=>by
     rw [List.getElem?_set] at hx'
     split at hx'
     ·rename_i hii
      subst hii
      injection hx' with hx'
      subst hx'
      have hj:j < s:=by rw [← hlen]; exact (gs_ hu).1
      rw [hget,if_pos (by omega),Nat.add_sub_cancel_left]
      exact hcell j u hu
     ·rename_i hii
      have hj:j < s:=by rw [← h2 x' (a0a hx')]; exact (gs_ hu).1
      rw [hget,if_neg]
      ·exact h3 i' x' j u hx' hu
      ·rw [← hcl,hlen]
       rintro ⟨q1,q2⟩
       rcases Nat.lt_or_ge i' i with hlt | hge
       ·have:=Nat.mul_le_mul_right s (show i' + 1≤i from hlt)
        rw [Nat.add_mul,Nat.one_mul] at this
        omega
       ·have:i+1≤i':=by omega
        have:=Nat.mul_le_mul_right s this
        rw [Nat.add_mul,Nat.one_mul] at this
        omega) hsz h
   refine ⟨vs',?_,by omega,by simpa using f3,f4,f5⟩
   simp only [List.map_cons,Instr.fill]
   rw [if_neg (by simp; omega)]
   rw [← f1,← he]
   congr 1
   rw [← Array.foldl_toList]
   simp
  ·cases h
theorem g0k {n s:Nat}{z:V}{zc:Array Value}(hz:z.cells.length=s)(hs:zc.size=s)(hv:∀ (j:Nat) (u:V),z.cells[j]? = some u → ∃ y,zc[j]? = some y∧VR Γ w u y) :
  ∀ (i:Nat) (x:V) (j:Nat) (u:V),(List.replicate n z)[i]? = some x→x.cells[j]? = some u → ∃ y,((Array.range (n * s)).map (λ k=>zc[k % zc.size]!))[i * s+j]? = some y∧VR Γ w u y:=by
 intro i x j u hx hu
 have hi:i < n:=by have:=(gs_ hx).1; simpa using this
 rw [List.getElem?_replicate,if_pos hi] at hx
 injection hx with hx
 subst hx
 have hj:j < s:=by rw [← hz]; exact (gs_ hu).1
 obtain ⟨y,hy,hvy⟩:=hv j u hu
 refine ⟨y,?_,hvy⟩
 have hb:i * s+s≤n * s:=by
  have:=Nat.mul_le_mul_right s (show i+1≤n from hi)
  rw [Nat.add_mul,Nat.one_mul] at this
  exact this
 rw [Array.getElem?_map,Array.getElem?_range,if_pos (by omega)]
 simp only [Option.map_some,sj_]
 rw [hs,Nat.mul_add_mod_self_right,Nat.mod_eq_of_lt hj]
 rw [getElem!_pos zc j (by omega)]
 rw [Array.getElem?_eq_getElem (by omega)] at hy
 injection hy
theorem e1h (hs:Sim Γ st a w){s:Nat}{xs ys:List V}{cs:Array Value}(hl:∀ x∈xs,x.cells.length=s)(hc:∀ (i:Nat) (x:V) (j:Nat) (u:V),xs[i]? = some x→x.cells[j]? = some u → ∃ y,cs[i * s+j]? = some y∧VR Γ w u y)
  (hf:g0q xs=some ys):NewRows Γ w (g0x Γ (n0d xs)) s (a1k xs) ys cs:=by
 obtain ⟨h1,h2⟩:=i0v hf
 refine ⟨λ y hy=>?_,λ i y j u hy hu=>?_⟩
 ·obtain ⟨i,hi⟩:=List.getElem?_of_mem hy
  obtain ⟨x,hx,hxy⟩:=h2 i y hi
  rw [(e0q hxy).1]
  exact hl x (a0a hx)
 ·obtain ⟨x,hx,hxy⟩:=h2 i y hy
  obtain ⟨z,hz,hzu⟩:=(e0q hxy).2 j u hu
  obtain ⟨v,hv,hvr⟩:=hc i x j z hx hz
  obtain ⟨r1,r2,r3,r4⟩:=p0u (S':=g0x Γ (n0d xs)) hs.good hvr hzu (λ k hk=>.inl hk) (λ b hb hh=>.inr ⟨b,m0h (a0a hx) b (c0q (a0a hz) b hb),hh,rfl⟩)
  exact ⟨v,hv,r2,r1,λ hq=>r3 (t0l hq x (a0a hx) z (a0a hz)),λ hq=>r4 (f1a hq x (a0a hx) z (a0a hz))⟩
theorem o1h (hs:Sim Γ st a w){s:Nat}{xs ys:List V}{cs:Array Value}(hc:∀ (i:Nat) (x:V) (j:Nat) (u:V),xs[i]? = some x→x.cells[j]? = some u → ∃ y,cs[i * s+j]? = some y∧VR Γ w u y)
  (hf:g0q xs=some ys) (hq:(a1k xs).good=true) (hU:Γ.U) (hm:a0i st.dead (n0d xs)=true):NewTr Γ w (n0d xs) s ys cs:=by
 obtain ⟨h1,h2⟩:=i0v hf
 have no9:∀ b,Γ.has b→b ≠ 999:=λ b hb e=>hs.good.h9 (e ▸ hb)
 have key:∀ (i j:Nat) (x z:V) (b m:Nat),xs[i]? = some x→x.cells[j]? = some z→b∈c0f z→b∈n0d xs:=λ i j x z b m hx hz hb=>m0h (a0a hx) b (c0q (a0a hz) b hb)
 refine ⟨λ i j m=>∃ x z,xs[i]? = some x∧x.cells[j]? = some z ∧ ∃ b∈c0f z,Γ.has b∧(m=Γ.blk b∨Γ.N b m),λ i y j u v hy hu hv=>?_,λ i j i' j' m h h'=>?_,λ i j m h=>?_⟩
 ·obtain ⟨x,hx,hxy⟩:=h2 i y hy
  obtain ⟨z,hz,hzu⟩:=(e0q hxy).2 j u hu
  obtain ⟨v',hv',hvr⟩:=hc i x j z hx hz
  rw [hv'] at hv
  injection hv with hv
  subst hv
  have:=z0l hvr hzu (t0l hq x (a0a hx) z (a0a hz)) hU (λ b hb hh=>hs.nds b hh (b0v hm b (key i j x z b 0 hx hz hb) (no9 b hh)))
  exact this.weaken (λ m hm=>⟨x,z,hx,hz,hm⟩)
 ·obtain ⟨x,z,hx,hz,b,hb,hh,hbm⟩:=h
  obtain ⟨x',z',hx',hz',b',hb',hh',hbm'⟩:=h'
  have hbb:b=b':=Classical.byContradiction λ hne=>hs.apart hU hh hh' (b0v hm b (key i j x z b 0 hx hz hb) (no9 b hh)) (b0v hm b' (key i' j' x' z' b' 0 hx' hz' hb') (no9 b' hh')) hne hbm hbm'
  subst hbb
  exact a1j hm i i' j j' x x' z z' b hx hx' hz hz' hb hb' (no9 b hh)
 ·obtain ⟨x,z,hx,hz,b,hb,hh,hbm⟩:=h
  exact ⟨b,key i j x z b 0 hx hz hb,hh,hbm⟩
theorem m0t {v:V}(h:k0s v = .flat):c0f v=[]:=by
 cases v <;> first | rfl | (rename_i q _; cases q <;> cases h)
theorem a1b {S':Nat→Prop}{v u1 u z:V}{x:Value}(g:Good Γ w)(h:VR Γ w v x)(hq:k0s v = .flat)(hor:u1=e0u z v∨u1=v)(hf:flat u1=some u)(hS:∀ k,Γ.S k→S' k) :
  Rd w S' u x∧x.oneCell' = true∧Rd w (λ k=>S' k∧Γ.Z k) u x∧(k0s u1 = .flat→r0o u):=by
 have keep:flat v=some u→Rd w S' u x∧x.oneCell' = true∧Rd w (λ k=>S' k∧Γ.Z k) u x∧(k0s v = .flat→r0o u):=by
  intro hf
  obtain ⟨r1,r2,r3,r4⟩:=p0u (S':=S') g h hf hS (λ b hb=>by rw [m0t hq] at hb; cases hb)
  exact ⟨r1,r2,r3 (by rw [hq]; rfl),r4⟩
 rcases hor with rfl | rfl
 ·unfold e0u at hf ⊢
  split at hf
  ·simp only [flat,sj_] at hf
   subst hf
   rw [h.nil_inv]
   refine ⟨.empty _ _ _ _,rfl,.empty _ _ _ _,λ e=>?_⟩
   exfalso
   revert e
   simp only [k0s]
   split <;> intro e <;> cases e
  ·exact keep hf
 ·exact keep hf
theorem NewRows.join {S':Nat→Prop}{s:Nat}{q p:Q}{ys:List V}{cs:Array Value}(h:NewRows Γ w S' s q ys cs):NewRows Γ w S' s (q.join p) ys cs:=by
 refine ⟨h.1,λ i x j u hx hu=>?_⟩
 obtain ⟨v,h1,h2,h3,h4,h5⟩:=h.2 i x j u hx hu
 exact ⟨v,h1,h2,h3,λ hg=>h4 (b0d hg).1,λ hf=>h5 (d0r hf).1⟩
theorem o0m (hA:b0l P c)(hs:Sim Γ st a w){o:Oper}{t:TypeId}{n:Nat}{ps:Array (Nat × Operand)}{v:V}{esc:List Nat}{m:Nat}(ho:o.op = .buildSlice t n ps)
  (h:a0d c den (ev st.t) η d o.op=some (.fresh v esc m)) (hd:d < 1000) (hf:m=0∨st.freeD d=true) :
  ∃ x w',(execOp a.eval o).run P w = .ok (.value x) w' ∧ Sims Γ ((({ st with t:=st.t.set d v }:St).kill esc).mark (!a0i st.dead esc)) (a.put (some d) x) w':=by
 rw [ho] at h
 simp only [a0d] at h
 split at h
 ·rename_i e sz by_ z0 cm nz_ qz_ ht
  split at h
  ·rename_i i hi
   split at h
   ·rename_i hc
    simp only [Bool.and_eq_true,decide_eq_true_eq] at hc
    obtain ⟨⟨⟨⟨hn,hroom⟩,hne⟩,hsz⟩,hzz⟩:=hc
    split at h
    ·rename_i xs hxs
     split at h
     ·rename_i ys hys
      simp only [sj_,Out.fresh.injEq] at h
      obtain ⟨rfl,rfl,rfl⟩:=h
      have hf:st.freeD d=true:=hf.resolve_left (by omega)
      obtain ⟨tt,at_⟩:=hA _ _ ht
      obtain ⟨ti,ai⟩:=hA _ _ hi
      obtain ⟨z,hz,hz1,hz2,hz3,hz4⟩:=ai.zero
      simp only [v0i,Bool.and_eq_true,beq_iff_eq,and_true] at hzz
      have hzc:∀ (j:Nat) (u:V),i.zero.cells[j]? = some u → ∃ y,z.cells[j]? = some y∧VR Γ w u y:=λ j u hu=>by
       obtain ⟨y,h1,h2⟩:=hz4 j u hu
       exact ⟨y,h1,.rd _ _ (h2 w Γ.S)⟩
      have hzs:z.cells.size=i.size:=by rw [← hzz.1,← hz2]; simp
      have e1:(ps.toList.map λ p=>(p.1,ev st.t p.2)).map (·.2)=ps.toList.map λ p=>ev st.t p.2:=by simp
      rw [e1] at hsz
      obtain ⟨vs',f1,f2,f3,f4,f5⟩:=u1z hs i.size ps.toList (List.replicate n i.zero) xs ((Array.range (n * i.size)).map (λ k=>z.cells[k % z.cells.size]!)) (by simp) (λ x hx=>by rw [(List.mem_replicate.1 hx).2]; exact hzz.1)
       (g0k hzz.1 hzs hzc) hsz hxs
      have hyl:ys.length=n:=by rw [(i0v hys).1,a1a,f3]; simp
      have f4':∀ x∈e0j i.nz xs,x.cells.length=i.size:=by
       intro x hx
       obtain ⟨ii,hii⟩:=List.getElem?_of_mem hx
       obtain ⟨x0,hx0,rfl⟩:=q0j _ _ _ _ hii
       rw [t0d]
       exact f4 x0 (a0a hx0)
      have f5':∀ (ii:Nat) (x:V) (j:Nat) (u:V),(e0j i.nz xs)[ii]? = some x→x.cells[j]? = some u → ∃ y,vs'[ii * i.size+j]? = some y∧VR Γ w u y:=by
       intro ii x j u hx hu
       obtain ⟨x0,hx0,rfl⟩:=q0j _ _ _ _ hx
       obtain ⟨u0,z0,hu0,hor⟩:=m0z hu
       obtain ⟨y,hy,hvy⟩:=f5 ii x0 j u0 hx0 hu0
       exact ⟨y,hy,m0y hs.good.h9 hor hvy⟩
      have hsim:=Sim.newOwn (q:=(a1k (e0j i.nz xs)).join i.qz) (e:=e) (n:=n) hs hd hf (by omega) (by rw [f2]; simp) (by unfold maxLen; omega) (NewRows.join (p:=i.qz) (e1h hs f4' f5' hys)) (λ hq hU hm=>o1h hs f5' hys (b0d hq).1 hU hm)
      refine ⟨_,_,?_,by rw [hyl] at hsim; exact hsim⟩
      have e2:(ps.map λ (i,x)=>(i,a.eval x)).toList=ps.toList.map λ p=>(p.1,a.eval p.2):=by simp
      have hr1:¬ (16777216 < n * i.size):=by omega
      have hcond:∀ (q:Sem (Array Value)),(if n * i.size=0 then pure #[] else q).run P w=if n * i.size=0 then .ok #[] w else q.run P w:=λ q=>by split <;> rfl
      simp only [execOp,ho,Instr.buildSlice,Sem.run_bind,run_underlying (at_.slice e rfl),Result.andThen_ok,sizeOf,typeInfo,run_program,ai.info,Sem.run_pure,ai.size,Sem.run_ite,hcond]
      rw [if_neg (show ¬ n * i.size > 2 ^ 24 by omega)]
      by_cases h0:n * i.size=0
      ·rw [if_pos h0,e2]
       have e3:∀ g:Nat→Value,(Array.range (n * i.size)).map g = #[]:=λ g=>by rw [h0]; simp
       rw [e3] at f1
       rw [e3,f1]
       simp [newRow]
      ·rw [if_neg h0]
       simp only [zeroValue,typeInfo,Sem.run_bind,run_program,Result.andThen_ok,ai.info,Sem.run_pure,hz,e2,f1]
       simp [newRow]
     ·cases h
    ·cases h
   ·cases h
  ·cases h
 ·cases h
theorem k1p (hA:b0l P c)(hs:Sim Γ st a w){o:Oper}{r:V}(h:a0d c den (ev st.t) η d o.op=some (.box r))(hdt:d < st.t.length)(hd:d < st.h.length)(hn:(st.h.getD d none).isNone=true)(hf:st.freeP d=true)(hrp:r.anyP (λ b=>b == d)=false) :
  ∃ x w',(execOp a.eval o).run P w = .ok (.value x) w' ∧ Sims Γ { st with t:=st.t.set d (.ptr d 0),h:=st.h.set d (some r) } (a.put (some d) x) w':=by
 have no:∀ {q:V} {s:Option Out},s=some (.val q)→s ≠ some (.box r):=by rintro q s rfl h; injection h with h; cases h
 cases hop:o.op with
 | alloc e=>
  rw [hop] at h
  simp only [a0d] at h
  cases hi:c.ty e with
  | none=>rw [hi] at h; cases h
  | some i=>
   rw [hi] at h
   simp only [sj_,Out.box.injEq] at h
   subst h
   obtain ⟨ti,ai⟩:=hA _ _ hi
   obtain ⟨z,hz,hz1,hz2,hz3,hz4⟩:=ai.zero
   have hsim:=Sim.newBox (e:=e) (r:=i.zero) (cs:=z.cells) hs hdt hd hf hn (by rw [← hz2]; simp) (λ j u hu=>by
    obtain ⟨y,h1,h2⟩:=hz4 j u hu
    exact ⟨y,h1,.rd _ _ (h2 w Γ.S)⟩) hrp
   exact ⟨_,_,by simp [execOp,hop,Instr.alloc,zeroValue,typeInfo,ai.info,hz,newVar,newRow],hsim⟩
 | box e x=>
  rw [hop] at h
  simp only [a0d] at h
  cases hi:c.ty e with
  | none=>rw [hi] at h; cases h
  | some i=>
   rw [hi] at h
   simp only at h
   split at h
   ·rename_i hc
    simp only [sj_,Out.box.injEq] at h
    subst h
    have hx:=hs.ev x
    have hcl:=hx.cellLen hc.2
    have hsim:=Sim.newBox (e:=e) (r:=ev st.t x) (cs:=(a.eval x).cells) hs hdt hd hf hn hcl (λ j u hu=>hx.cells hcl j u hu) hrp
    exact ⟨_,_,by simp [execOp,hop,Instr.box,newVar,newRow],hsim⟩
   ·cases h
 | call cl=>
  exfalso
  rw [hop] at h
  obtain ⟨callee,args,ts⟩:=cl
  cases callee with
  | value f=>
   simp only [a0d,y0l] at h
   repeat' split at h
   all_goals cases h
  | invoke f m=>simp only [a0d] at h; cases h
  | builtin bi=>
   cases bi <;> simp only [a0d,plain] at h <;> first | (cases h; done) | skip
   all_goals (repeat' split at h) <;> cases h
 | unOp u _ _=>
  exfalso
  rw [hop] at h
  cases u <;> simp only [a0d,plain] at h <;> first | (cases h; done) | ((repeat' split at h) <;> cases h)
 | makeFunc fn _ _=>
  exfalso
  rw [hop] at h
  cases fn <;> simp only [a0d,plain] at h <;> first | (cases h; done) | ((repeat' split at h) <;> cases h)
 | convert s t x=>
  exfalso
  rw [hop] at h
  simp only [a0d,plain] at h
  cases hc:p0q c s t (ev st.t x) with
  | some u=>rw [hc] at h; cases h
  | none=>
   rw [hc] at h
   simp only at h
   cases hb:p0p c s t (ev st.t x) with
   | some u=>rw [hb] at h; cases h
   | none=>
    rw [hb] at h
    simp only at h
    cases hf:e0e c s t (ev st.t x) <;> rw [hf] at h <;> cases h
 | slice _ _ _ _ mx=>
  exfalso
  rw [hop] at h
  cases mx <;> simp only [a0d,plain] at h <;> first | (cases h; done) | ((repeat' split at h) <;> cases h)
 | _=>
  exfalso
  rw [hop] at h
  first
   | (simp only [a0d,plain] at h; cases h; done)
   | (simp only [a0d,plain] at h; (repeat' split at h) <;> cases h)
theorem q0y (hA:b0l P c)(hs:Sim Γ st a w){o:Oper}{t:TypeId}{l k:Operand}{v:V}{esc:List Nat}{m:Nat}(ho:o.op = .makeSlice t l k)
  (h:a0d c den (ev st.t) η d o.op=some (.fresh v esc m)) (hd:d < 1000) (hf:m=0∨st.freeD d=true) :
  ∃ x w',(execOp a.eval o).run P w = .ok (.value x) w' ∧ Sims Γ ((({ st with t:=st.t.set d v }:St).kill esc).mark (!a0i st.dead esc)) (a.put (some d) x) w':=by
 rw [ho] at h
 simp only [a0d] at h
 split at h
 ·rename_i e sz by_ z0 cm nz_ qz_ ht
  split at h
  ·rename_i i kn n km mm hi hl hk
   split at h
   ·rename_i hc
    obtain ⟨h1,h2,h3,h4,hne,hzz,hzq⟩:=hc
    split at h
    ·rename_i zr hzr
     simp only [sj_,Out.fresh.injEq] at h
     obtain ⟨rfl,rfl,rfl⟩:=h
     have hf:st.freeD d=true:=hf.resolve_left (by omega)
     obtain ⟨tt,at_⟩:=hA _ _ ht
     obtain ⟨ti,ai⟩:=hA _ _ hi
     obtain ⟨z,hz,hz1,hz2,hz3,hz4⟩:=ai.zero
     simp only [v0i,Bool.and_eq_true,beq_iff_eq,and_true] at hzz
     have hzc:∀ (j:Nat) (u:V),i.zero.cells[j]? = some u → ∃ y,z.cells[j]? = some y∧VR Γ w u y:=λ j u hu=>by
      obtain ⟨y,h1,h2⟩:=hz4 j u hu
      exact ⟨y,h1,.rd _ _ (h2 w Γ.S)⟩
     have hzs:z.cells.size=i.size:=by rw [← hzz.1,← hz2]; simp
     have hlv:=hs.ev l
     have hkv:=hs.ev k
     rw [hl] at hlv; rw [hk] at hkv
     have e1:=hlv.int_inv
     have e2:=hkv.int_inv
     have hnm:n.toNat≤mm.toNat:=by omega
     have hrows:NewRows Γ w (g0x Γ []) i.size ((u1x (c0e i.nz i.zero)).join i.qz) (List.replicate n.toNat zr) ((Array.range (mm.toNat * i.size)).map (λ k=>z.cells[k % z.cells.size]!)):=by
      refine NewRows.join (p:=i.qz) ⟨λ y hy=>?_,λ ii y j u hy hu=>?_⟩
      ·rw [(List.mem_replicate.1 hy).2,(e0q hzr).1,t0d]
       exact hzz.1
      ·have hii:ii < n.toNat:=by have:=(gs_ hy).1; simpa using this
       rw [List.getElem?_replicate,if_pos hii] at hy
       injection hy with hy
       subst hy
       obtain ⟨v1,hv1,hfl⟩:=(e0q hzr).2 j u hu
       obtain ⟨v0,z1,hv0,hor⟩:=m0z hv1
       have hx':(List.replicate mm.toNat i.zero)[ii]? = some i.zero:=by rw [List.getElem?_replicate,if_pos (by omega)]
       obtain ⟨y,hy,hvy⟩:=g0k (n:=mm.toNat) hzz.1 hzs hzc ii i.zero j v0 hx' hv0
       refine ⟨y,hy,?_⟩
       have hq0:k0s v0 = .flat:=f0x hzq v0 (a0a hv0)
       obtain ⟨r1,r2,r3,r4⟩:=a1b (S':=g0x Γ []) hs.good hvy hq0 hor hfl (λ _ h=>.inl h)
       exact ⟨r2,r1,λ _=>r3,λ hq=>r4 (f0x hq v1 (a0a hv1))⟩
     have htr:((u1x (c0e i.nz i.zero)).join i.qz).good=true→Γ.U→a0i st.dead []=true→NewTr Γ w [] i.size (List.replicate n.toNat zr) ((Array.range (mm.toNat * i.size)).map (λ k=>z.cells[k % z.cells.size]!)):=λ hq hU _=>by
      refine ⟨λ _ _ _=>False,λ ii y j u v hy hu hv=>?_,λ _ _ _ _ _ h=>h.elim,λ _ _ _ h=>h.elim⟩
      have hii:ii < n.toNat:=by have:=(gs_ hy).1; simpa using this
      rw [List.getElem?_replicate,if_pos hii] at hy
      injection hy with hy
      subst hy
      obtain ⟨v1,hv1,hfl⟩:=(e0q hzr).2 j u hu
      obtain ⟨v0,z1,hv0,hor⟩:=m0z hv1
      have hx':(List.replicate mm.toNat i.zero)[ii]? = some i.zero:=by rw [List.getElem?_replicate,if_pos (by omega)]
      obtain ⟨y,hy,hvy⟩:=g0k (n:=mm.toNat) hzz.1 hzs hzc ii i.zero j v0 hx' hv0
      rw [hy] at hv
      injection hv with hv
      subst hv
      have hq0:k0s v0 = .flat:=f0x hzq v0 (a0a hv0)
      have h9:∀ b∈c0f v1,Γ.has b→False:=λ b hb hh=>by
       rcases hor with rfl | rfl
       ·unfold e0u at hb
        split at hb
        ·simp only [c0f,List.mem_cons,List.not_mem_nil,or_false] at hb
         exact hs.good.h9 (hb ▸ hh)
        ·rw [m0t hq0] at hb; cases hb
       ·rw [m0t hq0] at hb; cases hb
      exact (z0l (m0y hs.good.h9 hor hvy) hfl (h0j (b0d hq).1 v1 (a0a hv1)) hU (λ b hb hh=>(h9 b hb hh).elim)).weaken (λ m ⟨b,hb,hh,_⟩=>h9 b hb hh)
     have hsim:=Sim.newOwn (e:=e) (n:=mm.toNat) hs hd hf (by simpa using hnm) (by simp) (by unfold maxLen; omega) hrows htr
     rw [List.length_replicate] at hsim
     refine ⟨_,_,?_,hsim⟩
     have hb:(ti.bytes:Int) * mm≤281474976710656:=by rw [ai.bytes,Int.mul_comm]; omega
     have:=run_make (P:=P) w t e ti z (at_.slice e rfl) ai.info hz kn km n mm h1 h2 hb (by omega)
     simp only [execOp,ho,e1,e2,Sem.run_bind,this,Result.andThen_ok,Sem.run_pure,ai.size,madeCells]
    ·cases h
   ·cases h
  ·cases h
 ·cases h
theorem Sim.drew (hs:Sim Γ st a w):Sim Γ st a w.drew:=by
 have hm:∀ {u:V} {y:Value},VR Γ w u y→VR Γ w.drew u y:=λ h=>
  VR.mono (Γ:=Γ) (Γ':=Γ) (w:=w) (w':=w.drew) (p:=λ _=>false) (r:=λ _=>false) (λ h=>h) (λ _ h=>h) (λ _ h=>h) (λ _ _ _=>rfl) (λ _ _=>⟨Iff.rfl,λ _=>⟨rfl,rfl,rfl,rfl,rfl,λ _ h=>h,λ _=>rfl⟩⟩) (λ _ _=>⟨λ h=>h,rfl⟩) h (b0r _) (a0z _)
 have g:=hs.good
 refine ⟨⟨g.os,g.tape,g.output,g.size,g.old,g.new,g.slt,g.base,g.baseInj,g.box,g.boxInj,g.baseBox,g.sr,g.gl,g.bz,g.zf,g.ns,g.h9⟩,hs.dz,hs.len,λ i v h=>?_,λ k v h=>?_,hs.nds,hs.du,hs.nd,hs.nt⟩
 ·obtain ⟨x,h1,h2⟩:=hs.tm i v h
  exact ⟨x,h1,hm h2⟩
 ·obtain ⟨h1,cur,e,h2,h3,h4⟩:=hs.bx k v h
  exact ⟨h1,cur,e,h2,h3,λ j u hu=>(let ⟨x,e1,e2⟩:=h4 j u hu; ⟨x,e1,hm e2⟩)⟩
theorem j1s {S S':Nat→Prop}{u:V}{v:Value}(h:Rd w S u v)(hn:r0o u):Rd w S' u v:=by
 cases h with
 | bool b=>exact .bool b
 | int k n=>exact .int k n
 | str s x h=>exact .str s x h
 | nil=>exact .nil
 | _=>cases hn
def h0n (n s:Nat)(g:Nat→Nat→Value):List Value:=(List.range (n * s)).map λ p=>g (p / s) (p % s)
theorem c0s (n s:Nat)(g:Nat→Nat→Value):(h0n n s g).length=n * s:=by simp [h0n]
theorem l0r {n s:Nat}{g:Nat→Nat→Value}{i j:Nat}(hi:i < n)(hj:j < s):(h0n n s g)[i * s+j]? = some (g i j):=by
 have:i * s+s≤n * s:=by
  have:=Nat.mul_le_mul_right s (show i+1≤n from hi)
  rw [Nat.add_mul,Nat.one_mul] at this
  exact this
 have h1:(i * s+j) / s=i:=by
  rw [Nat.mul_comm,Nat.mul_add_div (by omega),Nat.div_eq_of_lt hj,Nat.add_zero]
 have h2:(i * s+j) % s=j:=by rw [Nat.mul_add_mod_self_right,Nat.mod_eq_of_lt hj]
 simp only [h0n,List.getElem?_map]
 rw [List.getElem?_range (by omega)]
 simp [h1,h2]
theorem p0t {n s:Nat}{g:Nat→Nat→Value}{p:Nat}{u:Value}(h:(h0n n s g)[p]? = some u):p / s < n∧p % s < s∧u=g (p / s) (p % s)∧p=p / s * s+p % s:=by
 have hp:p < n * s:=by have:=(gs_ h).1; rwa [c0s] at this
 have hs:0 < s:=by
  rcases Nat.eq_zero_or_pos s with h0 | h0
  ·rw [h0] at hp; simp at hp
  ·exact h0
 simp only [h0n,List.getElem?_map,List.getElem?_range hp,Option.map_some,sj_] at h
 refine ⟨(Nat.div_lt_iff_lt_mul hs).2 hp,Nat.mod_lt _ hs,h.symm,?_⟩
 rw [Nat.mul_comm]
 exact (Nat.div_add_mod p s).symm
def x1j (Γ:Ctx)(w:World)(s:Nat)(q:Q)(ys:List V)(x:Value):Prop:=
 (ys=[] ∧ ∃ ad cap,x = .slice ad 0 cap)∨(∃ (k o cap:Nat) (news:List Value),x = .slice (some ⟨k,o,none⟩) ys.length cap∧0 < ys.length∧news.length=ys.length * s ∧
 (∀ (p:Nat) (u:Value),news[p]? = some u→w.cell? ⟨k,o+p,none⟩=some u∧u.oneCell' = true)∧(∀ y∈ys,y.cells.length=s) ∧
 (∀ (i:Nat) (y:V) (j:Nat) (u:V),ys[i]? = some y→y.cells[j]? = some u → ∃ z,news[i * s+j]? = some z∧z.oneCell' = true∧Rd w Γ.S u z∧(q.good=true→Rd w (λ k=>Γ.S k∧Γ.Z k) u z)∧(q = .flat→r0o u)))
theorem c1s {s:Nat}{q:Q}{ys:List V}{x:Value}(k o cap:Nat)(e:x = .slice (some ⟨k,o,none⟩) ys.length cap)(hl:0 < ys.length)(hr:Rows w (Γ.Sq q) s ys k o)(hf:flatOk q ys):x1j Γ w s q ys x:=by
 obtain ⟨r1,gg,r2,r3⟩:=hr
 refine .inr ⟨k,o,cap,h0n ys.length s gg,e,hl,c0s _ _ _,λ p u hu=>?_,r1,λ i y j u hy hu=>?_⟩
 ·obtain ⟨h1,h2,rfl,h4⟩:=p0t hu
  have:=r2 _ _ h1 h2
  rw [Nat.add_assoc,← h4] at this
  exact this
 ·have hi:i < ys.length:=(gs_ hy).1
  have hj:j < s:=by rw [← r1 y (a0a hy)]; exact (gs_ hu).1
  have hrd:=r3 i y j u hy hu
  refine ⟨gg i j,l0r hi hj,(r2 i j hi hj).2,hrd.mono (λ k hk=>p0b hk) (λ _ _ _=>rfl),λ hg=>?_,λ e=>hf e y (a0a hy) u (a0a hu)⟩
  cases q with
  | any=>cases hg
  | flat=>exact hrd
  | clean=>exact hrd
theorem k1r (g:Good Γ w){v:V}{x:Value}{s:Nat}{q:Q}{ys:List V}(h:VR Γ w v x)(hq:i0g s v=some (q,ys)):x1j Γ w s q ys x:=by
 cases v with
 | nil=>
  simp only [i0g,sj_,Prod.mk.injEq] at hq
  obtain ⟨rfl,rfl⟩:=hq
  exact .inl ⟨rfl,_,_,h.nil_inv⟩
 | sl s' f xs=>
  simp only [i0g] at hq
  split at hq
  ·rename_i hss
   subst hss
   simp only [sj_,Prod.mk.injEq] at hq
   obtain ⟨rfl,rfl⟩:=hq
   have hr:=h.sl_inv
   cases hr with
   | empty=>exact .inl ⟨rfl,_,_,rfl⟩
   | sl _ _ _ k o cap gg hl hcap hS hsz hf hg hr=>
    refine .inr ⟨k,o,cap,h0n xs.length s' gg,rfl,hl,c0s _ _ _,λ p u hu=>?_,hsz,λ i y j u hy hu=>?_⟩
    ·obtain ⟨h1,h2,rfl,h4⟩:=p0t hu
     have:=hg _ _ h1 h2
     rw [Nat.add_assoc,← h4] at this
     exact this
    ·have hi:i < xs.length:=(gs_ hy).1
     have hj:j < s':=by rw [← hsz y (a0a hy)]; exact (gs_ hu).1
     have hrd:=hr i y j u hy hu
     refine ⟨gg i j,l0r hi hj,(hg i j hi hj).2,hrd,λ hgd=>?_,λ e=>?_⟩
     ·cases f with
      | true=>exact j1s hrd (hf rfl y (a0a hy) u (a0a hu))
      | false=>cases hgd
     ·cases f with
      | true=>exact hf rfl y (a0a hy) u (a0a hu)
      | false=>cases e
  ·cases hq
 | own b s' q' xs=>
  simp only [i0g] at hq
  split at hq
  ·rename_i hss
   subst hss
   simp only [sj_,Prod.mk.injEq] at hq
   obtain ⟨rfl,rfl⟩:=hq
   rcases h.own_inv with ⟨e,rfl,_⟩ | ⟨e,h1,h2,h3,h4,h5⟩
   ·exact .inl ⟨rfl,_,_,e⟩
   ·by_cases hx:xs=[]
    ·subst hx; exact .inl ⟨rfl,_,_,e⟩
    ·exact c1s _ _ _ e (List.length_pos_iff.2 hx) h4 h5
  ·cases hq
 | view b s' q' xs=>
  simp only [i0g] at hq
  split at hq
  ·rename_i hss
   subst hss
   simp only [sj_,Prod.mk.injEq] at hq
   obtain ⟨rfl,rfl⟩:=hq
   rcases h.view_inv with ⟨ad,cap,e,rfl⟩ | ⟨o,cap,e,h1,hx,h3,_,h4,h5⟩
   ·exact .inl ⟨rfl,_,_,e⟩
   ·exact c1s _ _ _ e hx h4 h5
  ·cases hq
 | _=>cases hq
theorem r1m (hs:Sim Γ st a w){v:V}{x:Value}{s:Nat}{q:Q}{ys:List V}(h:VR Γ w v x)(hq:i0g s v=some (q,ys))(hg:q.good=true)(hU:Γ.U)(k o cap:Nat)(hx:x = .slice (some ⟨k,o,none⟩) ys.length cap)(hl:0 < ys.length) :
  TrRows w (λ m=>∃ b∈m0m q v,Γ.has b∧Γ.N b m) s ys k o:=by
 have flat:q = .flat→flatOk q ys→(∃ g:Nat→Nat→Value,∀ i j:Nat,i < ys.length→j < s→w.cell? ⟨k,o+i * s+j,none⟩=some (g i j))→TrRows w (λ m=>∃ b∈m0m q v,Γ.has b∧Γ.N b m) s ys k o:=λ e hf ⟨g,hg⟩=>
  ⟨g,λ _ _ _=>False,hg,λ i x j c hx hc=>.leaf _ _ _ (hf e x (a0a hx) c (a0a hc)),λ _ _ _ _ _ h=>h.elim,λ _ _ _ h=>h.elim⟩
 cases v with
 | nil=>
  simp only [i0g,sj_,Prod.mk.injEq] at hq
  obtain ⟨rfl,rfl⟩:=hq
  simp at hl
 | sl s' f xs=>
  simp only [i0g] at hq
  split at hq
  ·rename_i hss
   subst hss
   simp only [sj_,Prod.mk.injEq] at hq
   obtain ⟨rfl,rfl⟩:=hq
   cases f with
   | false=>cases hg
   | true=>
    have hr:=h.sl_inv
    subst hx
    cases hr with
    | empty=>simp at hl
    | sl _ _ _ k o cap gg hl hcap hS hsz hf hg hr=>exact flat rfl (λ _=>hf rfl) ⟨gg,λ i j hi hj=>(hg i j hi hj).1⟩
  ·cases hq
 | own b s' q' xs=>
  simp only [i0g] at hq
  split at hq
  ·rename_i hss
   subst hss
   simp only [sj_,Prod.mk.injEq] at hq
   obtain ⟨rfl,rfl⟩:=hq
   have hu:=h.own_uq
   rcases h.own_inv with ⟨e,rfl,_⟩ | ⟨e,h1,h2,h3,h4,h5⟩
   ·simp at hl
   ·rw [hx] at e
    injection e with e1 e2 e3
    injection e1 with e1
    injection e1 with e1 e4 _
    subst e1; subst e4
    cases q' with
    | any=>cases hg
    | flat=>exact flat rfl h5 (let ⟨_,g,hg,_⟩:=h4; ⟨g,λ i j hi hj=>(hg i j hi hj).1⟩)
    | clean=>exact (hu rfl hU).mono (λ m hm=>⟨b,by simp [m0m,c0f],h1,hm.1⟩) (λ _ _ _=>rfl) (λ _ _ _=>rfl)
  ·cases hq
 | view b s' q' xs=>
  simp only [i0g] at hq
  split at hq
  ·rename_i hss
   subst hss
   simp only [sj_,Prod.mk.injEq] at hq
   obtain ⟨rfl,rfl⟩:=hq
   subst hx
   have hu:=h.view_uq
   rcases h.view_inv with ⟨ad,cap,e,rfl⟩ | ⟨o',cap',e,h1,hx,h3,_,h4,h5⟩
   ·simp at hl
   ·injection e with e1 e2 e3
    injection e1 with e1
    injection e1 with e1 e4 _
    subst e1; subst e4
    cases q' with
    | any=>cases hg
    | flat=>exact flat rfl h5 (let ⟨_,g,hg,_⟩:=h4; ⟨g,λ i j hi hj=>(hg i j hi hj).1⟩)
    | clean=>exact (hu rfl hU).mono (λ m hm=>⟨b,by simp [m0m,c0f],h1,hm.1⟩) (λ _ _ _=>rfl) (λ _ _ _=>rfl)
  ·cases hq
 | _=>cases hq
theorem Sim.ownNil {s:Nat}{q:Q}{esc:List Nat}{m:Bool}(hs:Sim Γ st a w)(hd:d < 1000)(hf:st.freeD d=true) :
  Sims Γ ((({ st with t:=st.t.set d (.own (base d 0) s q []) }:St).kill esc).mark m) (a.put (some d) (.slice none 0 0)) w:=by
 let Γ':Ctx:={ Γ with has:=λ b=>Γ.has b∧b / 1000 ≠ d }
 have g:=hs.good
 refine ⟨Γ',⟨rfl,rfl,rfl,rfl,rfl,λ _ _=>rfl⟩,Sim.extend (p:=λ b=>b / 1000 == d) hs (λ _ _=>rfl) (λ h=>h) (λ k hk=>hk) (λ _ h=>h) (λ b hb=>?_) (λ _ h=>h) (λ _=>rfl) (u0p hf) (u0o hf) ?_ ?_ (λ h _=>hs.du h) (λ hU b b' hb hb' _ hl _ hl' hne m=>hs.nd hU b b' hb.1 hb'.1 hl hl' hne m) ?_⟩
 ·have hb:b / 1000 ≠ d:=by simpa using hb
  exact ⟨⟨λ h=>h.1,λ h=>⟨h,hb⟩⟩,λ _=>⟨rfl,rfl,rfl,rfl,rfl,λ _ h=>h⟩⟩
 ·exact ⟨g.os,g.tape,g.output,g.size,g.old,g.new,g.slt,λ b hb=>g.base b hb.1,λ b b' hb hb'=>g.baseInj b b' hb.1 hb'.1,g.box,g.boxInj,λ b k hb hk=>g.baseBox b k hb.1 hk,g.sr,g.gl,λ b hb=>g.bz b hb.1,g.zf,λ b hb=>g.ns b hb.1,λ h=>g.h9 h.1⟩
 ·intro b hb _ hdd
  exact hs.nds b hb.1 hdd
 ·exact .ownNil _ s q (λ h=>h.2 (f0p hd (by omega)))
theorem q0w (hA:b0l P c)(hs:Sim Γ st a w){o:Oper}{args:Array Operand}{ts:Array TypeId}{v:V}{esc:List Nat}{m:Nat}(ho:o.op = .call ⟨.builtin .append,args,ts⟩)
  (h:a0d c den (ev st.t) η d o.op=some (.fresh v esc m)) (hd:d < 1000) (hf:m=0∨st.freeD d=true) :
  ∃ x w',(execOp a.eval o).run P w = .ok (.value x) w' ∧ Sims Γ ((({ st with t:=st.t.set d v }:St).kill esc).mark (!a0i st.dead esc)) (a.put (some d) x) w':=by
 rw [ho] at h
 simp only [a0d] at h
 split at h
 ·rename_i x y t t' hx ht2
  obtain rfl:=w1i hx
  obtain rfl:=w1i ht2
  split at h
  ·rename_i e sz by_ z0 cm nz_ qz_ ht
   split at h
   ·rename_i i hi hxv
    split at h
    ·rename_i q ys hsrc
     split at h
     ·rename_i hc
      obtain ⟨rfl,hne,hb1,hb2⟩:=hc
      simp only [sj_,Out.fresh.injEq] at h
      obtain ⟨rfl,rfl,rfl⟩:=h
      have hf:st.freeD d=true:=hf.resolve_left (by omega)
      obtain ⟨tt,at_⟩:=hA _ _ ht
      obtain ⟨ti,ai⟩:=hA _ _ hi
      obtain ⟨z,hz,hz1,hz2,hz3,hz4⟩:=ai.zero
      have hzs:z.cells.size=i.size:=by rw [← ai.zsz,← hz2]; simp
      have hxr:=hs.ev x
      rw [hxv] at hxr
      have ex:=hxr.nil_inv
      rcases k1r hs.good (hs.ev y) hsrc with ⟨rfl,ad,cap,ey⟩ | ⟨k,o',cap,news,ey,hl,hn1,hn2,hn3,hn4⟩
      ·have hsim:=Sim.ownNil (s:=i.size) (q:=q.join i.qz) (esc:=m0m q (ev st.t y)) (m:=!a0i st.dead (m0m q (ev st.t y))) hs hd hf
       refine ⟨_,w,?_,hsim⟩
       have hfc:(Builtin.firstCells ti.size 0 (.slice ad 0 cap)).run P w = .ok #[] w:=by
        cases ad with
        | none=>exact run_firstCells_none _ _ _ _ _
        | some b=>exact run_firstCells_some w ti.size 0 b 0 cap [] (by simp) (λ j v h=>by simp at h)
       simp [execOp,ho,ex,ey,resolve,invoke,builtin,Builtin.append_,run_underlying (at_.slice e rfl),sizeOf,typeInfo,ai.info,hz,zeroValue,Builtin.lenOf,hfc]
      ·have hadd:∀ n,(⟨k,o',none⟩:Addr).add n=⟨k,o' + n,none⟩:=by intro n; simp [Addr.add]
       have hr:=run_append_nil (P:=P) w t' o.type e ti z (at_.slice e rfl) ai.info hz ⟨k,o',none⟩ ys.length cap news (by rw [ai.size]; exact hn1) (λ j v hv=>by rw [hadd]; exact (hn2 j v hv).1) hl (by omega) (by rw [ai.bytes]; omega)
       have hge:=grownCap_ge w ys.length 0 e
       have hle:=grownCap_le_maxLen w ys.length 0 e (by unfold maxLen; omega)
       have hsz:(news.toArray++Builtin.zeroCells z.cells (grownCap w ys.length 0 e - ys.length)).size=grownCap w ys.length 0 e * i.size:=by
        rw [Array.size_append,size_zeroCells,List.size_toArray,hn1,← hzs,← Nat.add_mul]
        congr 1
        omega
       have hrows:NewRows Γ w.drew (g0x Γ (m0m q (ev st.t y))) i.size q ys (news.toArray++Builtin.zeroCells z.cells (grownCap w ys.length 0 e - ys.length)):=by
        refine ⟨hn3,λ ii x jj u hx hu=>?_⟩
        obtain ⟨zz,h1,h2,h3,h4,h5⟩:=hn4 ii x jj u hx hu
        have hlt:=(gs_ h1).1
        have hrm:∀ {S1 S2:Nat→Prop} {u:V} {v:Value},(∀ k,S1 k→S2 k)→Rd w S1 u v→Rd w.drew S2 u v:=λ hS h=>Rd.mono (w:=w) (w':=w.drew) hS (λ _ _ _=>rfl) h
        refine ⟨zz,?_,h2,hrm (λ _ h=>.inl h) h3,λ hg=>hrm (λ _ h=>⟨.inl h.1,h.2⟩) (h4 hg),h5⟩
        rw [Array.getElem?_append_left (by simpa using hlt)]
        simpa using h1
       have htr:(q.join i.qz).good=true→Γ.U→a0i st.dead (m0m q (ev st.t y))=true→NewTr Γ w.drew (m0m q (ev st.t y)) i.size ys (news.toArray++Builtin.zeroCells z.cells (grownCap w ys.length 0 e - ys.length)):=λ hq hU _=>by
        obtain ⟨gg,T,t1,t2,t3,t4⟩:=r1m hs (hs.ev y) hsrc (b0d hq).1 hU k o' cap ey hl
        refine NewTr.drew ⟨T,λ ii x jj u v hx hu hv=>?_,t3,λ ii jj m hm=>(let ⟨b,b1,b2,b3⟩:=t4 ii jj m hm; ⟨b,b1,b2,.inr b3⟩)⟩
        obtain ⟨zz,h1,_⟩:=hn4 ii x jj u hx hu
        have hlt:=(gs_ h1).1
        rw [Array.getElem?_append_left (by simpa using hlt)] at hv
        have e5:v=zz:=by
         rw [List.getElem?_toArray,h1] at hv
         injection hv with hv
         exact hv.symm
        have hi:=(gs_ hx).1
        have hj:jj < i.size:=by rw [← hn3 x (a0a hx)]; exact (gs_ hu).1
        have c1:=t1 ii jj hi hj
        rw [Nat.add_assoc,(hn2 _ zz h1).1] at c1
        injection c1 with c1
        rw [e5,c1]
        exact t2 ii x jj u hx hu
       have hsim:=Sim.newOwn (q:=q.join i.qz) (e:=e) (n:=grownCap w ys.length 0 e) hs.drew hd hf hge (Nat.le_of_eq hsz.symm) hle (NewRows.join (p:=i.qz) hrows) htr
       refine ⟨_,_,?_,hsim⟩
       simp [execOp,ho,ex,ey,resolve,invoke,builtin,hr]
     ·cases h
    ·cases h
   ·cases h
  ·cases h
 ·cases h
end
end Go.Am
end
section
set_option linter.unusedVariables false
set_option linter.unusedSimpArgs false
namespace Go.Am
open Go Go.RowKit
section
variable {P:Program}{c:Cfg}{Γ Γ':Ctx}{st:St}{a:Act}{w w':World}{den:Nat→List V→Option V}{η:Nat→Option V}{d:Nat}
theorem a0e (f:V→Option V):∀ (l:List V) (i:Nat),(V.mapBs f l)[i]? = (l[i]?).map (V.mapB f):=by
 intro l
 induction l with
 | nil=>intro i; rfl
 | cons v l ih=>
  intro i
  rw [V.mapBs]
  cases i with
  | zero=>rfl
  | succ i=>simpa using ih i
theorem a0f (f:V→Option V):∀ (l:List V),(V.mapBs f l).length=l.length:=by
 intro l
 induction l with
 | nil=>rfl
 | cons v l ih=>rw [V.mapBs,List.length_cons,ih,List.length_cons]
theorem j0d (f:V→Option V):∀ (l:List (Option V)) (i:Nat),(d0c f l)[i]? = (l[i]?).map (Option.map (V.mapB f)):=by
 intro l
 induction l with
 | nil=>intro i; rfl
 | cons v l ih=>
  intro i
  cases v <;> cases i <;> simp [d0c,ih]
theorem d0a (f:V→Option V)(hf:∀ v u,f v=some u→u.cells=[u])(v:V):(v.mapB f).cells=V.mapBs f v.cells:=by
 have leaf:∀ u:V,u.cells=[u]→((f u).getD u).cells=[(f u).getD u]:=by
  intro u hu
  cases h:f u with
  | none=>exact hu
  | some z=>exact hf u z h
 cases v <;> first | rfl | (simp only [V.cells,V.mapB,V.mapBs]; exact leaf _ rfl)
def s0a (Γ Γ':Ctx)(w w':World)(f:V→Option V):Prop:=∀ v x,(match v with
 | .agg _=>False
 | .tup _=>False
 | .clo _ _=>False
 | _=>True)→VR Γ w v x→VR Γ' w' ((f v).getD v) x
theorem VR.sweep {f:V→Option V}(hl:s0a Γ Γ' w w' f)(v:V):∀ x,VR Γ w v x→VR Γ' w' (v.mapB f) x:=by
 refine V.rec (motive_1:=λ v=>∀ x,VR Γ w v x→VR Γ' w' (v.mapB f) x) (motive_2:=λ l=>∀ (i:Nat) (u:V) (x:Value),l[i]? = some u→VR Γ w u x→VR Γ' w' (u.mapB f) x)
  ?_ ?_ ?_ ?_ ?_ ?_ ?_ ?_ ?_ ?_ ?_ ?_ ?_ ?_ ?_ ?_ ?_ v
 ·intro x h; exact hl _ _ trivial h
 ·intro _ x h; exact hl _ _ trivial h
 ·intro _ _ x h; exact hl _ _ trivial h
 ·intro _ x h; exact hl _ _ trivial h
 ·intro x h; exact hl _ _ trivial h
 ·intro _ _ _ _ x h; exact hl _ _ trivial h
 ·intro _ _ _ _ _ x h; exact hl _ _ trivial h
 ·intro _ _ _ _ _ x h; exact hl _ _ trivial h
 ·intro _ _ x h; exact hl _ _ trivial h
 ·intro _ _ _ _ _ _ _ x h; exact hl _ _ trivial h
 ·intro _ _ _ _ x h; exact hl _ _ trivial h
 ·intro _ _ _ x h; exact hl _ _ trivial h
 ·intro cs ih x h
  obtain ⟨vs,rfl,h1,h2⟩:=h.agg_inv
  refine .agg _ vs (by rw [a0f]; exact h1) (λ i c v e1 e2=>?_)
  rw [a0e] at e1
  cases hc:cs[i]? with
  | none=>rw [hc] at e1; cases e1
  | some u=>
   rw [hc] at e1
   simp only [Option.map_some,sj_] at e1
   subst e1
   exact ih i u v hc (h2 i u v hc e2)
 ·intro cs ih x h
  obtain ⟨vs,rfl,h1,h2⟩:=h.tup_inv
  refine .tup _ vs (by rw [a0f]; exact h1) (λ i c v e1 e2=>?_)
  rw [a0e] at e1
  cases hc:cs[i]? with
  | none=>rw [hc] at e1; cases e1
  | some u=>
   rw [hc] at e1
   simp only [Option.map_some,sj_] at e1
   subst e1
   exact ih i u v hc (h2 i u v hc e2)
 ·intro g cs ih x h
  obtain ⟨vs,rfl,h1,h2⟩:=h.clo_inv
  refine .clo _ _ vs (by rw [a0f]; exact h1) (λ i c v e1 e2=>?_)
  rw [a0e] at e1
  cases hc:cs[i]? with
  | none=>rw [hc] at e1; cases e1
  | some u=>
   rw [hc] at e1
   simp only [Option.map_some,sj_] at e1
   subst e1
   exact ih i u v hc (h2 i u v hc e2)
 ·intro i u x h; simp at h
 ·intro v l hv hl i u x h hx
  cases i with
  | zero=>
   simp only [List.getElem?_cons_zero,sj_] at h
   subst h
   exact hv x hx
  | succ i=>exact hl i u x (by simpa using h) hx
theorem Sim.sweep {f:V→Option V}{dead:Nat→Bool}{dup:Bool}(hs:Sim Γ st a w)(hl:s0a Γ Γ' w w' f)(hf:∀ v u,f v=some u→u.cells=[u])(hg:Good Γ' w')(hlb:∀ k,Γ.lb k→Γ'.lb k)(hbox:∀ k,Γ'.box k=Γ.box k)
  (hw:∀ k,Γ.lb k→w'.heap[Γ.box k]? = w.heap[Γ.box k]?) (hn:∀ b,Γ'.has b→dead b=false → ¬ Γ'.S (Γ'.blk b))
  (hdu:dup=false→Γ'.U) (hnd:Γ'.U → ∀ b b',Γ'.has b→Γ'.has b' → dead b=false→dead b' = false→b ≠ b' → ∀ m,Γ'.N b m→Γ'.N b' m→False) (hnt:Γ'.nt=Γ.nt:=by rfl):Sim Γ' { st.sweep f with dead:=dead,dup:=dup } a w':=by
 refine ⟨hg,hs.dz,?_,λ i v h=>?_,λ k v h=>?_,hn,hdu,hnd,by rw [hnt,← hs.nt]; exact a0f f st.t⟩
 ·show _=(V.mapBs f st.t).length
  rw [a0f]; exact hs.len
 ·change (V.mapBs f st.t)[i]? = some v at h
  rw [a0e] at h
  cases hc:st.t[i]? with
  | none=>rw [hc] at h; cases h
  | some u=>
   rw [hc] at h
   simp only [Option.map_some,sj_] at h
   subst h
   obtain ⟨x,h1,h2⟩:=hs.tm i u hc
   exact ⟨x,h1,VR.sweep hl u x h2⟩
 ·change (d0c f st.h)[k]? = some (some v) at h
  rw [j0d] at h
  cases hc:st.h[k]? with
  | none=>rw [hc] at h; cases h
  | some uo=>
   cases uo with
   | none=>rw [hc] at h; cases h
   | some u=>
    rw [hc] at h
    simp only [Option.map_some,sj_] at h
    subst h
    obtain ⟨h1,cur,e,h2,h3,h4⟩:=hs.bx k u hc
    refine ⟨hlb k h1,cur,e,by rw [hbox,hw k h1]; exact h2,?_,λ j z hz=>?_⟩
    ·rw [d0a f hf,a0f]; exact h3
    ·rw [d0a f hf,a0e] at hz
     cases hu:u.cells[j]? with
     | none=>rw [hu] at hz; cases hz
     | some y=>
      rw [hu] at hz
      simp only [Option.map_some,sj_] at hz
      subst hz
      obtain ⟨x,e1,e2⟩:=h4 j y hu
      exact ⟨x,e1,VR.sweep hl y x e2⟩
theorem k0p:∀ {cs:List V},d0m cs=true → ∀ c∈cs,c.isCell=true:=by
 intro cs
 induction cs with
 | nil=>intro _ c hc; cases hc
 | cons v vs ih=>
  intro h c hc
  rw [d0m,Bool.and_eq_true] at h
  rcases List.mem_cons.1 hc with rfl | hc
  ·exact h.1
  ·exact ih h.2 c hc
theorem s0x {v:V}{x:Value}(h:VR Γ w v x)(hc:v.isCell=true):x.oneCell' = true:=by
 cases h with
 | rd _ _ h=>cases h <;> first | rfl | cases hc
 | agg=>cases hc
 | tup=>cases hc
 | _=>rfl
theorem x0e {v:V}(hc:v.isCell=true):v.cells=[v]:=by cases v <;> first | rfl | cases hc
theorem h0f {v:V}(hc:d0m v.cells=true):v.isDef=true:=by cases v <;> first | rfl | cases hc
theorem j0h (P:Program)(w:World)(g o:Nat)(t:TypeId)(ty:TypeId)(ti:TypeInfo)(cur:Array Value)(x:Value)(hg:w.heap[g]? = some (.cells cur t (0,0)))(hi:P.info? ty=some ti)
  (hs:x.cells.size=ti.size) (hfit:o+x.cells.size≤cur.size) (h1:∀ v∈x.cells.toList,v.oneCell' = true) :
  (Instr.storeAt ty (.pointer (some ⟨g,o,none⟩)) x).run P w = .ok () (w.setRow g (cur.toList.take o++x.cells.toList++cur.toList.drop (o+x.cells.size)).toArray):=by
 have:=run_storeCells_at P g o t x.cells.toList 0 cur w hg (by simpa using hfit) h1
 simp only [Nat.add_zero,Array.length_toList] at this
 rw [hs] at this
 simp [Instr.storeAt,Instr.sureAddr,storeVar,sizeOf,typeInfo,hi,hs,this]
theorem a1s {α:Type}(l new:List α)(o j:Nat)(h:o+new.length≤l.length):(l.take o++new++l.drop (o+new.length))[j]? = if o≤j∧j < o+new.length then new[j - o]? else l[j]?:=by
 rcases Nat.lt_or_ge j o with h1 | h1
 ·rw [List.append_assoc,List.getElem?_append_left (by rw [List.length_take]; omega),List.getElem?_take_of_lt h1,if_neg (by omega)]
 ·rcases Nat.lt_or_ge j (o+new.length) with h2 | h2
  ·rw [List.append_assoc,List.getElem?_append_right (by rw [List.length_take]; omega),List.getElem?_append_left (by rw [List.length_take]; omega),if_pos ⟨h1,h2⟩,List.length_take,Nat.min_eq_left (by omega)]
  ·rw [List.getElem?_append_right (by rw [List.length_append,List.length_take]; omega),List.getElem?_drop,List.length_append,List.length_take,if_neg (by omega)]
   congr 1
   omega
theorem a1u {α:Type}(l new:List α)(o:Nat)(h:o+new.length≤l.length):(l.take o++new++l.drop (o+new.length)).length=l.length:=by
 simp only [List.length_append,List.length_take,List.length_drop]
 omega
theorem VR.setRow {v:V}{x:Value}{g:Nat}{cs:Array Value}{p:Nat→Bool}(h:VR Γ w v x)(hS:¬ Γ.S g)(hb:∀ b,p b=false→Γ.has b→Γ.blk b ≠ g)(hp:v.anyB p=false):VR Γ (w.setRow g cs) v x:=by
 refine VR.mono (Γ:=Γ) (Γ':=Γ) (w:=w) (w':=w.setRow g cs) (p:=p) (r:=λ _=>false) (λ h=>h) (λ _ h=>h) (λ _ h=>h) (λ k hk=>cell?_of_heap (setRow_other w g k cs (λ e=>hS (e ▸ hk))))
  (λ b hb'=>⟨Iff.rfl,λ hh=>⟨rfl,rfl,rfl,rfl,rfl,λ _ h=>h,cell?_of_heap (setRow_other w g _ cs (hb b hb' hh))⟩⟩) (λ _ _=>⟨λ h=>h,rfl⟩) h hp (a0z _)
theorem h0v {r:V}{cs:List V}(hl:cs.length=r.cells.length)(hc:∀ c∈cs,c.isCell=true∨c∈r.cells):(h0u r cs).cells=cs:=by
 cases r with
 | agg _=>rfl
 | _=>
  cases cs with
  | nil=>simp [V.cells] at hl
  | cons u us=>
   obtain rfl:us=[]:=by cases us with
    | nil=>rfl
    | cons _ _=>simp [V.cells] at hl
   show u.cells=[u]
   rcases hc u (by simp) with h | h
   ·exact x0e h
   ·simp only [V.cells,List.mem_singleton] at h
    subst h
    rfl
theorem Sim.putBox {b o:Nat}{r v:V}{x:Value}{cs:List V}(hs:Sim Γ st a w)(hb:st.h.getD b none=some r)(ho:o0v r.cells o v.cells=some cs)(hv:VR Γ w v x)(hc:d0m v.cells=true) :
  ∃ cur e,w.heap[Γ.box b]? = some (.cells cur e (0,0))∧o+x.cells.size≤cur.size ∧
   Sim Γ { st with h:=st.h.set b (some (h0u r cs)) } a (w.setRow (Γ.box b) (cur.toList.take o++x.cells.toList++cur.toList.drop (o+x.cells.size)).toArray):=by
 have hb':st.h[b]? = some (some r):=by
  rw [List.getD_eq_getElem?_getD] at hb
  cases h:st.h[b]? with
  | none=>rw [h] at hb; cases hb
  | some y=>rw [h] at hb; exact congrArg _ hb
 obtain ⟨h1,cur,e,h2,h3,h4⟩:=hs.bx b r hb'
 have hlen:=hv.cellLen (h0f hc)
 have hcl:=hv.cells hlen
 obtain ⟨l1,l2⟩:=v0d ho
 have hfit:o+x.cells.size≤cur.size:=by omega
 refine ⟨cur,e,h2,hfit,?_⟩
 have hfit':o+x.cells.toList.length≤cur.toList.length:=by simpa using hfit
 have hS:=(hs.good.box b h1).2.1
 have hmono:∀ {u:V} {y:Value} (cs':Array Value),VR Γ w u y→VR Γ (w.setRow (Γ.box b) cs') u y:=λ cs' h=>h.setRow (p:=λ _=>false) hS (λ b' _ hh=>hs.good.baseBox b' b hh h1) (b0r _)
 have g:=hs.good
 have hoth:∀ (k:Nat) (cs':Array Value),k ≠ Γ.box b→(w.setRow (Γ.box b) cs').heap[k]? = w.heap[k]?:=λ k cs' hk=>setRow_other w _ k cs' hk
 have hcs:∀ c∈cs,c.isCell=true∨c∈r.cells:=by
  intro u hu
  obtain ⟨j,hj⟩:=List.getElem?_of_mem hu
  rw [g0t ho j] at hj
  split at hj
  ·exact .inl (k0p hc u (a0a hj))
  ·exact .inr (a0a hj)
 refine ⟨⟨g.os,g.tape,g.output,by rw [setRow_size]; exact g.size,λ k hk hF=>?_,g.new,λ k hk=>by rw [setRow_size]; exact g.slt k hk,λ b' hb1=>?_,g.baseInj,λ k hk=>?_,g.boxInj,g.baseBox,g.sr,g.gl,g.bz,λ k hk=>?zf,g.ns,g.h9⟩,hs.dz,hs.len,λ i u hu=>?_,λ k u hu=>?_,hs.nds,hs.du,hs.nd,hs.nt⟩
 case zf=>
  obtain ⟨z1,z2,cur',e',h'⟩:=g.zf k hk
  refine ⟨z1,by rw [setRow_size]; exact z2,?_⟩
  by_cases hbb:k=Γ.box b
  ·subst hbb
   exact ⟨_,e,setRow_heap w _ cur _ e _ h2⟩
  ·exact ⟨cur',e',(hoth k _ hbb).trans h'⟩
 ·exact (hoth k _ (λ e=>hF (e ▸ (g.box b h1).1))).trans (g.old k hk hF)
 ·obtain ⟨e1,e2,e3,cur',e',e4,e5⟩:=g.base b' hb1
  exact ⟨e1,by rw [setRow_size]; exact e2,e3,cur',e',(hoth _ _ (g.baseBox b' b hb1 h1)).trans e4,e5⟩
 ·obtain ⟨e1,e2,e3⟩:=g.box k hk
  exact ⟨e1,e2,by rw [setRow_size]; exact e3⟩
 ·obtain ⟨y,e1,e2⟩:=hs.tm i u hu
  exact ⟨y,e1,hmono _ e2⟩
 ·simp only at hu
  rw [List.getElem?_set] at hu
  split at hu
  ·rename_i hkb
   subst hkb
   split at hu
   ·simp only [sj_] at hu
    subst hu
    refine ⟨h1,_,e,setRow_heap w _ cur _ e _ h2,?_,λ j z hz=>?_⟩
    ·rw [h0v l1 hcs]
     have:=a1u cur.toList x.cells.toList o hfit'
     simp only [Array.length_toList] at this
     rw [l1,h3]
     exact this.symm
    ·rw [h0v l1 hcs,g0t ho] at hz
     have hget:=a1s cur.toList x.cells.toList o j hfit'
     simp only [Array.length_toList] at hget
     rw [List.getElem?_toArray,hget]
     rw [hlen] at hz
     split at hz
     ·rename_i hjj
      rw [if_pos hjj]
      obtain ⟨y,e1,e2⟩:=hcl _ z hz
      exact ⟨y,by simpa using e1,hmono _ e2⟩
     ·rename_i hjj
      rw [if_neg hjj]
      obtain ⟨y,e1,e2⟩:=h4 j z hz
      exact ⟨y,by simpa using e1,hmono _ e2⟩
   ·cases hu
  ·rename_i hkb
   obtain ⟨e0,cur',e',e1,e2,e3⟩:=hs.bx k u hu
   refine ⟨e0,cur',e',(hoth _ _ (λ e=>hkb (g.boxInj k b e0 h1 e).symm)).trans e1,e2,λ j z hz=>?_⟩
   obtain ⟨y,e4,e5⟩:=e3 j z hz
   exact ⟨y,e4,hmono _ e5⟩
theorem r0t (hA:b0l P c)(hs:Sim Γ st a w){o:Oper}{t:TypeId}{ad x:Operand}{i:TyInfo}{b off:Nat}{r:V}{cs:List V}(ho:o.op = .store t ad x)(hi:c.ty t=some i)
  (hl:(ev st.t x).cells.length=i.size) (hc:d0m (ev st.t x).cells=true) (hd:o.dst=none) (had:ev st.t ad = .ptr b off) (hb:st.h.getD b none=some r) (hov:o0v r.cells off (ev st.t x).cells=some cs) :
  ∃ w',(execOp a.eval o).run P w = .ok .skip w' ∧ Sims Γ { st with h:=st.h.set b (some (h0u r cs)) } (a.put o.dst undef) w':=by
 obtain ⟨ti,ai⟩:=hA _ _ hi
 have hv:=hs.ev x
 have hp:=hs.ev ad
 rw [had] at hp
 obtain ⟨e1,hlb⟩:=hp.ptr_inv
 obtain ⟨cur,e,h1,h2,h3⟩:=hs.putBox hb hov hv hc
 have hlen:=hv.cellLen (h0f hc)
 have hone:∀ v∈(a.eval x).cells.toList,v.oneCell' = true:=by
  intro v hv'
  obtain ⟨j,hj⟩:=List.getElem?_of_mem hv'
  obtain ⟨u,hu⟩:∃ u,(ev st.t x).cells[j]? = some u:=⟨_,List.getElem?_eq_getElem (by rw [hlen]; simpa using (gs_ hj).1)⟩
  obtain ⟨y,e1,e2⟩:=hv.cells hlen j u hu
  have:y=v:=by simpa [e1] using hj
  subst this
  exact s0x e2 (k0p hc u (a0a hu))
 have hr:=j0h P w (Γ.box b) off e t ti cur (a.eval x) h1 ai.info (by rw [ai.size,← hl,hlen]) h2 hone
 refine ⟨_,?_,Γ,⟨rfl,rfl,rfl,rfl,rfl,λ _ _=>rfl⟩,by rw [hd]; exact h3⟩
 simp [execOp,ho,e1,hr]
end
end Go.Am
end

/-
  Names: what an operation's result hangs on.
-/
import Derived.Test.YthcnbncpgloonaaGreatuAmIo3
section
set_option linter.unusedVariables false
set_option linter.unusedSimpArgs false
namespace Go.Am
open Go Go.RowKit
section
variable {P:Program}{c:Cfg}{Γ Γ':Ctx}{st:St}{a:Act}{w w':World}{den:Nat→List V→Option V}{η:Nat→Option V}{d:Nat}
def y0t (st:St):Prop:=∀ d,d < 1000→V.anyBs (λ b=>b / 1000 == d) st.t=false∧k0r (λ b=>b / 1000 == d) st.h=false
theorem e0a {f:V→Option V}(hf:f .undef=none)(l:List V)(i:Nat)(h:l.getD i .undef = .undef):(V.mapBs f l).getD i .undef = .undef:=by
 rw [List.getD_eq_getElem?_getD] at h ⊢
 rw [a0e]
 cases hl:l[i]? with
 | none=>rfl
 | some v=>
  rw [hl] at h
  simp only [Option.getD_some] at h
  subst h
  show (V.undef.mapB f) = .undef
  show (f .undef).getD .undef = .undef
  rw [hf]
  rfl
theorem e1n (st:St)(i n e:Nat)(h:st.t.getD e .undef = .undef):(st.own1 i n).t.getD e .undef = .undef:=by
 have put:∀ (l:List V) (D:Nat) (v:V),l.getD e .undef = .undef→(D=e→v = .undef)→(l.set D v).getD e .undef = .undef:=λ l D v hl hv=>by
  rw [List.getD_eq_getElem?_getD] at hl ⊢
  rw [List.getElem?_set]
  split
  ·split
   ·exact hv (by assumption)
   ·rfl
  ·exact hl
 unfold St.own1 St.take1
 split
 ·split
  ·split
   ·rename_i b s q xs hc
    refine put _ _ _ (e0a rfl st.t e h) (λ hD=>?_)
    rw [hD,h] at hc
    cases hc
   ·exact h
  ·split
   ·split
    ·exact e0a rfl st.t e h
    ·exact h
   ·exact h
 ·split
  ·refine put _ _ _ h (λ hD=>?_)
   rw [hD,h]
   rfl
  ·split
   ·exact h
   ·exact h
theorem e1o:∀ (ns:List Nat) (i:Nat) (st:St) (e:Nat),st.t.getD e .undef = .undef→(St.owns ns i st).t.getD e .undef = .undef:=by
 intro ns
 induction ns with
 | nil=>intro i st e h; exact h
 | cons n ns ih=>
  intro i st e h
  rw [St.owns]
  refine ih _ _ _ ?_
  split
  ·exact e1n st i n e h
  ·exact h
theorem d1v (st:St)(ds l:List Nat)(e:Nat)(he:e∈ds):(st.head (ds,l)).t.getD e .undef = .undef:=by
 have h0:∀ t:List V,(g0b ds 0 t).getD e .undef = .undef:=λ t=>by
  rw [List.getD_eq_getElem?_getD,s0p]
  cases t[e]? with
  | none=>rfl
  | some v=>simp [he]
 unfold St.head St.head0
 simp only
 have h4:∀ s:St,(St.canon ((({ ({ s with t:=g0b ds 0 s.t }:St).sweep (f0z l) with h:=u0j l 0 (({ s with t:=g0b ds 0 s.t }:St).sweep (f0z l)).h }:St)).sweep (b0s s.dead))).t.getD e .undef = .undef:=λ s=>
  e0a rfl _ e (e0a rfl _ e (e0a rfl _ e (h0 s.t)))
 split
 ·exact h4 _
 ·exact e0a rfl _ e (e1o _ _ _ _ (h4 _))
def o0y (P:Program)(c:Cfg)(den:Nat→List V→Option V):Prop:=(∀ (id:Nat) (ops:Array Oper) (B:List Nat) (Γ:Ctx) (st st':St) (a:Act) (w:World) (Q:Exit→Act→World→Prop),Sim Γ st a w→y0t st →
 m0d ops B=true→b0t ops B st=true→b0x c den ops ops.toList st=some st' → (∀ a' w',Sims Γ st' a' w' → Q .normal a' w')→(Code.region id ops true).wp P Q a w) ∧
 ∀ (id:Nat) (ops:Array Oper) (Γ:Ctx) (st st':St) (a:Act) (w:World) (Q:Exit→Act→World→Prop),Sim Γ st a w→y0t st →
 m0e c.io ops=true→b0t ops [] st=true→h0q c.io ops st=true→(∀ e,e∈n0o ops→st.t.getD e .undef = .undef)→b0g c den ops ops.toList st=some st' → (∀ a' w',Sims Γ st' a' w' → Q .normal a' w')→(Code.region id ops true).wp P Q a w
theorem s0f (d:Nat)(hd:d < 1000)(l:List Nat)(v:V):(v.mapB (e0d l)).anyB (λ b=>b / 1000 == d)=false:=by
 have hc:∀ i,(a0v i / 1000 == d)=false:=by intro i; simp [a0v]; omega
 refine V.rec (motive_1:=λ v=>(v.mapB (e0d l)).anyB (λ b=>b / 1000 == d)=false) (motive_2:=λ vs=>V.anyBs (λ b=>b / 1000 == d) (V.mapBs (e0d l) vs)=false)
  rfl (λ _=>rfl) (λ _ _=>rfl) (λ _=>rfl) rfl (λ _ _ _ _=>rfl) (λ b _ _ _ _=>hc _) (λ b _ _ _ _=>hc _) (λ _ _=>rfl) (λ b _ _ _ _ _ _=>hc _) (λ b _ _ _=>hc _) (λ _ _ _=>rfl)
  (λ _ h=>h) (λ _ h=>h) (λ _ _ h=>h) rfl (λ _ _ h1 h2=>by rw [V.mapBs,V.anyBs,h1,h2]; rfl) v
theorem p0j (d:Nat)(hd:d < 1000)(l:List Nat)(vs:List V):V.anyBs (λ b=>b / 1000 == d) (V.mapBs (e0d l) vs)=false:=s0f d hd l (.agg vs)
theorem p0i (d:Nat)(hd:d < 1000)(l:List Nat):∀ (hs:List (Option V)),k0r (λ b=>b / 1000 == d) (d0c (e0d l) hs)=false:=by
 intro hs
 induction hs with
 | nil=>rfl
 | cons x hs ih=>
  cases x with
  | none=>exact ih
  | some v=>rw [d0c,k0r,s0f d hd,ih]; rfl
theorem m0v (st:St)(fs:List Nat × List Nat):y0t (st.head fs):=by
 intro d hd
 unfold St.head St.head0
 simp only
 split
 ·exact ⟨p0j d hd _ _,p0i d hd _ _⟩
 ·exact ⟨p0j d hd _ _,p0i d hd _ _⟩
def Ex.to:Ex→Exit
 | .normal=>.normal
 | .exit i=>.exit i
 | .ret=>.ret
theorem l0x {p:Nat→Prop}(h:∃ n,p n):∃ n,p n ∧ ∀ m,p m→n≤m:=by
 obtain ⟨n,hn⟩:=h
 induction n using Nat.strongRecOn with
 | _ n ih=>
  by_cases h:∃ m,m < n∧p m
  ·obtain ⟨m,h1,h2⟩:=h
   exact ih m h1 h2
  ·refine ⟨n,hn,λ m hm=>?_⟩
   rcases Nat.lt_or_ge m n with h1 | h1
   ·exact absurd ⟨m,h1,hm⟩ h
   ·exact h1
open Classical in
theorem v1i {body:Code}{f:St→Option (Ex × St)}{hd:St→St}{Γ:Ctx}{st:St}{a:Act}{w:World}{ex:Ex}{st':St}{k:Nat}{Q:Exit→Act→World→Prop}(hs:Sims Γ st a w)(h:g0n f hd k st=some (ex,st'))
  (hb:∀ (Γ':Ctx) (s:St) (a:Act) (w:World) (ex:Ex) (s':St) (Q:Exit→Act→World→Prop),Sim Γ' s a w→f s=some (ex,s')→(∀ a' w',Sims Γ' s' a' w' → Q ex.to a' w')→body.wp P Q a w)
  (hhd:∀ (Γ':Ctx) (s:St) (a:Act) (w:World),Sim Γ' s a w→Sims Γ' (hd s) a w) (hQ:∀ a' w',Sims Γ st' a' w' → Q ex.to a' w'):(Code.loop body).wp P Q a w:=by
 let I:Nat→Act→World→Prop:=λ j a w=>∃ s,Sims Γ s a w∧g0n f hd j s=some (ex,st')
 refine wp_loop (λ a w=>∃ j,I j a w) (λ a w=>if h:∃ j,I j a w then (l0x h).choose else 0) ⟨k,st,hs,h⟩ (λ a w hI=>?_)
 obtain ⟨s,hs1,hi⟩:=(l0x hI).choose_spec.1
 cases hj:(l0x hI).choose with
 | zero=>rw [hj,g0n] at hi; cases hi
 | succ j=>
  rw [hj,g0n] at hi
  obtain ⟨Γ1,hsame,hs2⟩:=hs1
  obtain ⟨Γ2,hsame2,hs3⟩:=hhd Γ1 s a w hs2
  cases hf:f (hd s) with
  | none=>rw [hf] at hi; cases hi
  | some z=>
   obtain ⟨e,s'⟩:=z
   rw [hf] at hi
   refine hb Γ2 (hd s) a w e s' _ hs3 hf (λ a' w' h'=>?_)
   have h'':Sims Γ s' a' w':=Sims.of hsame (Sims.of hsame2 h')
   cases e with
   | normal=>
    have hI':I j a' w':=⟨s',h'',hi⟩
    refine ⟨⟨j,hI'⟩,?_⟩
    have hex:∃ j,I j a' w':=⟨j,hI'⟩
    show (if h:∃ j,I j a' w' then (l0x h).choose else 0) < (if h:∃ j,I j a w then (l0x h).choose else 0)
    rw [dif_pos hex,dif_pos hI,hj]
    exact Nat.lt_succ_of_le ((l0x hex).choose_spec.2 j hI')
   | exit i=>
    simp only [sj_,Prod.mk.injEq] at hi
    obtain ⟨rfl,rfl⟩:=hi
    exact hQ _ _ h''
   | ret=>
    simp only [sj_,Prod.mk.injEq] at hi
    obtain ⟨rfl,rfl⟩:=hi
    exact hQ _ _ h''
theorem n0g (hA:b0l P c)(hW:g1y P c)(hD:a0r P den)(hI:b0w P c den)(hdraw:o0y P c den){k:Nat}{g:s1l}:∀ (code:Code) (Γ:Ctx) (st:St) (a:Act) (w:World) (ex:Ex) (st':St) (Q:Exit→Act→World→Prop),Sim Γ st a w→d0f c.io g code=true →
  d0p c den (λ b hd st=>g0n b hd k st) g code st=some (ex,st')→(∀ a' w',Sims Γ st' a' w' → Q ex.to a' w')→code.wp P Q a w:=by
 intro code
 induction code with
 | skip=>
  intro Γ st a w ex st' Q hs hdr h hQ
  simp only [d0p,sj_,Prod.mk.injEq] at h
  obtain ⟨rfl,rfl⟩:=h
  exact wp_skip (hQ a w ⟨Γ,Same.rfl',hs⟩)
 | region id ops draw=>
  intro Γ st a w ex st' Q hs hdr h hQ
  simp only [d0p] at h
  cases draw with
  | true=>
   simp only [if_true] at h
   cases hio:z0t c.io ops with
   | true=>
    simp only [hio] at h
    split at h
    ·rename_i hc
     rw [Bool.and_eq_true] at hc
     cases hr:b0g c den ops ops.toList (st.head (n0o ops,(g (2000+id)).2.1)) with
     | none=>rw [hr] at h; cases h
     | some s=>
      rw [hr] at h
      simp only [Option.map_some,sj_,Prod.mk.injEq] at h
      obtain ⟨rfl,rfl⟩:=h
      obtain ⟨Γ',hsame,hs'⟩:=hs.head (n0o ops,(g (2000+id)).2.1)
      exact hdraw.2 id ops Γ' _ s a w Q hs' (m0v _ _) (by simpa [d0f,hio] using hdr) hc.1 hc.2 (λ e he=>d1v st _ _ e he) hr (λ a2 w2 h2=>hQ _ _ (Sims.of hsame h2))
    ·cases h
   | false=>
    simp only [hio] at h
    split at h
    ·rename_i hc
     cases hr:b0x c den ops ops.toList (st.head ([],(g (2000+id)).2.1)) with
     | none=>rw [hr] at h; cases h
     | some s=>
      rw [hr] at h
      simp only [Option.map_some,sj_,Prod.mk.injEq] at h
      obtain ⟨rfl,rfl⟩:=h
      obtain ⟨Γ',hsame,hs'⟩:=hs.head ([],(g (2000+id)).2.1)
      exact hdraw.1 id ops (g id).2.2 Γ' _ s a w Q hs' (m0v _ _) (by simpa [d0f,hio] using hdr) hc hr (λ a2 w2 h2=>hQ _ _ (Sims.of hsame h2))
    ·cases h
  | false=>
   simp only [Bool.false_eq_true,if_false] at h
   cases hr:b0n c den ops ops.toList (st.headW (g (2000+id)).2.1) with
   | none=>rw [hr] at h; cases h
   | some s=>
    rw [hr] at h
    simp only [Option.map_some,sj_,Prod.mk.injEq] at h
    obtain ⟨rfl,rfl⟩:=h
    obtain ⟨Γ',hsame,hs'⟩:Sims Γ (st.headW (g (2000+id)).2.1) a w:=by
     unfold St.headW
     split
     ·exact ⟨Γ,Same.rfl',hs⟩
     ·exact hs.head _
    exact wp_region_list (f1i hA hW hD hI _ Γ' _ a w s hs' hr (λ a2 w2 h2=>hQ _ _ (Sims.of hsame h2)))
 | seq x y ihx ihy=>
  intro Γ st a w ex st' Q hs hdr h hQ
  simp only [d0p] at h
  cases hx:d0p c den (λ b hd st=>g0n b hd k st) g x st with
  | none=>rw [hx] at h; cases h
  | some z=>
   obtain ⟨e,s⟩:=z
   rw [hx] at h
   rw [d0f,Bool.and_eq_true] at hdr
   refine wp_seq (ihx Γ st a w e s _ hs hdr.1 hx (λ a' w' h'=>?_))
   cases e with
   | normal=>
    obtain ⟨Γ',hsame,hs'⟩:=h'
    exact ihy Γ' s a' w' ex st' Q hs' hdr.2 h (λ a2 w2 h2=>hQ _ _ (Sims.of hsame h2))
   | exit i=>
    simp only [sj_,Prod.mk.injEq] at h
    obtain ⟨rfl,rfl⟩:=h
    exact hQ _ _ h'
   | ret=>
    simp only [sj_,Prod.mk.injEq] at h
    obtain ⟨rfl,rfl⟩:=h
    exact hQ _ _ h'
 | cond x y z ihy ihz=>
  intro Γ st a w ex st' Q hs hdr h hQ
  simp only [d0p] at h
  have hv:=hs.ev x
  rw [d0f,Bool.and_eq_true] at hdr
  split at h
  ·rename_i hx
   rw [hx] at hv
   exact wp_cond_true hv.bool_inv (ihy Γ st a w ex st' Q hs hdr.1 h hQ)
  ·rename_i hx
   rw [hx] at hv
   exact wp_cond_false hv.bool_inv (ihz Γ st a w ex st' Q hs hdr.2 h hQ)
  ·cases h
 | block id y ih=>
  intro Γ st a w ex st' Q hs hdr h hQ
  simp only [d0p] at h
  cases hx:d0p c den (λ b hd st=>g0n b hd k st) g y st with
  | none=>rw [hx] at h; cases h
  | some z=>
   obtain ⟨e,s⟩:=z
   rw [hx] at h
   refine wp_block (ih Γ st a w e s _ hs hdr hx (λ a' w' h'=>?_))
   cases e with
   | normal=>
    simp only [sj_,Prod.mk.injEq] at h
    obtain ⟨rfl,rfl⟩:=h
    exact hQ _ _ h'
   | exit i=>
    simp only at h
    show (if i=id then _ else _)
    split at h
    ·rename_i hi
     rw [if_pos hi]
     simp only [sj_,Prod.mk.injEq] at h
     obtain ⟨rfl,rfl⟩:=h
     exact hQ _ _ h'
    ·rename_i hi
     rw [if_neg hi]
     simp only [sj_,Prod.mk.injEq] at h
     obtain ⟨rfl,rfl⟩:=h
     exact hQ _ _ h'
   | ret=>
    simp only [sj_,Prod.mk.injEq] at h
    obtain ⟨rfl,rfl⟩:=h
    exact hQ _ _ h'
 | loop y ih=>
  intro Γ st a w ex st' Q hs hdr h hQ
  simp only [d0p] at h
  cases hi:g0n (d0p c den (λ b hd st=>g0n b hd k st) g y) (λ s=>s.head ((g (a0g y)).1,(g (a0g y)).2.1)) k st with
  | none=>rw [hi] at h; cases h
  | some z=>
   rw [hi] at h
   simp only [Option.map_some,sj_,Prod.mk.injEq] at h
   obtain ⟨rfl,rfl⟩:=h
   exact v1i (ex:=z.1) (st':=z.2) ⟨Γ,Same.rfl',hs⟩ hi (λ Γ' s a w ex s' Q hs h hQ=>ih Γ' s a w ex s' Q hs hdr h hQ) (λ Γ' s a w hs=>hs.head _)
    (λ a' w' h'=>hQ a' w' (let ⟨_,h1,h2⟩:=h'; Sims.of h1 (h2.head _)))
 | exit i=>
  intro Γ st a w ex st' Q hs hdr h hQ
  simp only [d0p,sj_,Prod.mk.injEq] at h
  obtain ⟨rfl,rfl⟩:=h
  exact wp_exit (hQ a w ⟨Γ,Same.rfl',hs⟩)
 | ret=>
  intro Γ st a w ex st' Q hs hdr h hQ
  simp only [d0p,sj_,Prod.mk.injEq] at h
  obtain ⟨rfl,rfl⟩:=h
  exact wp_ret (hQ a w ⟨Γ,Same.rfl',hs⟩)
 | _=>
  intro Γ st a w ex st' Q hs hdr h hQ
  simp only [d0p] at h
  cases h
theorem w0x (hA:b0l P c)(hs:Sim Γ st a w)(hF:∀ k,Γ.F k→Γ.w0.heap.size≤k)(hY:∀ k,¬ Γ.Y k){fn:Func}{zs:List V}{r:V}(h:w0w c zs st fn.results.toList=some r) :
  ∃ x,(results fn a.tmps).run P w = .ok x w∧Answer Γ.R Γ.w0 r x w:=by
 unfold w0w at h
 split at h
 ·rename_i vs hvs
  simp only at h
  split at h
  ·rename_i hok
   obtain ⟨ys,hys,hl,hr⟩:=x0s hA hs _ vs hvs
   let v1:=V.mapBs (b0s st.dead) (V.mapBs (coarse st.dup) vs)
   let l:=(cellsOf v1).map c0f
   let Γ1:=(Γ.coarse st.dup).settled st.dead
   have g:Good (Γ.coarse st.dup) w:=hs.good.coarse
   have hg1:Good Γ1 w:=g.settled
   have key:∀ (i:Nat) (v:V) (y:Value),(V.mapBs (r0p l) v1)[i]? = some v→ys[i]? = some y→VR (Γ1.placed l) w v y:=by
    intro i v y hv hy
    rw [a0e] at hv
    cases hv1:v1[i]? with
    | none=>rw [hv1] at hv; cases hv
    | some u=>
     rw [hv1] at hv
     simp only [Option.map_some,sj_] at hv
     subst hv
     have hu1:=hv1
     simp only [v1] at hv1
     rw [a0e,a0e] at hv1
     cases hv0:vs[i]? with
     | none=>rw [hv0] at hv1; cases hv1
     | some z=>
      rw [hv0] at hv1
      simp only [Option.map_some,sj_] at hv1
      have hz:VR Γ1 w u y:=by
       rw [← hv1]
       exact VR.sweep (h0p g) _ y (VR.sweep (h0o hs.du) z y (hr i z y hv0 hy))
      refine VR.sweepC (λ v=>∀ u∈v.cells,f0j u=true ∧ ∀ b∈c0f u,[b]∈l) (λ cs h u hu=>?_) (λ cs h=>?_) (λ _ cs h=>?_) s0y u y (λ z hz=>⟨m0c hok z (e0p (a0a hu1) hz),λ b hb=>?_⟩) hz
      ·have:=h u hu
       have huc:u.cells=[u]:=by cases u <;> first | rfl | (exact absurd this.1 (by simp [f0j]))
       rw [huc]
       intro u' hu'
       rw [List.mem_singleton.1 hu']
       exact this
      ·exact absurd (h _ (List.mem_singleton.2 rfl)).1 (by simp [f0j])
      ·exact absurd (h _ (List.mem_singleton.2 rfl)).1 (by simp [f0j])
      ·have:c0f z=[b]:=by cases z <;> simp [c0f] at hb ⊢ <;> exact hb.symm
       rw [← this]
       exact List.mem_map.2 ⟨z,e0p (a0a hu1) hz,rfl⟩
   have key:∀ (i:Nat) (v:V) (y:Value),(f0l 0 zs (V.mapBs (r0p l) v1))[i]? = some v→ys[i]? = some y→VR (Γ1.placed l) w v y:=by
    intro i v y hv hy
    obtain ⟨u,j',zs',h1,rfl,h3⟩:=k0z _ _ _ _ _ hv
    refine x0r (key i u y h1 hy) (λ k hk=>?_)
    have h4:=h3 k .nil hk
    rw [n0m] at h4
    have h5:=c1j h4
    rintro ⟨b,hb,_⟩
    have h6:l[j' + k]? = some []:=by
     show ((cellsOf v1).map c0f)[j' + k]? = some []
     rw [List.getElem?_map,h5]
     rfl
    rw [Nat.zero_add,h6] at hb
    cases hb
   have hlen:(f0l 0 zs (V.mapBs (r0p l) v1)).length=ys.length:=by rw [q0q,a0f,a0f,a0f,hl]
   have hval:∃ x,(results fn a.tmps).run P w = .ok x w∧VR (Γ1.placed l) w r x:=by
    have hrun:(results fn a.tmps).run P w = .ok (if h:ys.toArray.size=1 then ys.toArray[0] else .tuple ys.toArray) w:=by
     unfold results
     rw [Array.mapM_eq_mapM_toList]
     simp only [Sem.run_bind,Sem.run_map,Sem.run_pure]
     exact congrArg (λ q:Result (List Value)=>(q.andThen λ a w'=>Result.ok a.toArray w').andThen λ a w'=>Result.ok (if h:a.size=1 then a[0] else Value.tuple a) w') hys
    refine ⟨_,hrun,?_⟩
    change (match f0l 0 zs (V.mapBs (r0p l) v1) with
     | [w]=>some w
     | ws=>some (V.tup ws))=some r at h
    cases hm:f0l 0 zs (V.mapBs (r0p l) v1) with
    | nil=>
     rw [hm] at h hlen
     simp only [sj_] at h
     subst h
     have:ys=[]:=List.eq_nil_of_length_eq_zero (by simpa using hlen.symm)
     subst this
     exact .tup [] #[] rfl (λ i c v h=>by simp at h)
    | cons u us=>
     cases us with
     | nil=>
      rw [hm] at h hlen
      simp only [sj_] at h
      subst h
      cases ys with
      | nil=>simp at hlen
      | cons y ys=>
       have:ys=[]:=List.eq_nil_of_length_eq_zero (by simpa using hlen.symm)
       subst this
       exact key 0 u y (by rw [hm]; rfl) rfl
     | cons u2 us=>
      rw [hm] at h hlen
      simp only [sj_] at h
      subst h
      have h1:¬ ys.toArray.size=1:=by simp at hlen; simp; omega
      rw [dif_neg h1]
      refine .tup _ _ (by simpa using hlen) (λ i z y hz hy=>key i z y (by rw [hm]; exact hz) (by simpa using hy))
   obtain ⟨x,hx1,hx2⟩:=hval
   refine ⟨x,hx1,⟨g.os,g.tape,g.output,g.size,λ k hk=>g.old k hk (λ hF'=>by have:=hF k hF'; omega),Γ1.placed l,hx2,hF,λ k hk=>⟨?_,hg1.slt k hk⟩,?_,?_,?bz,λ k hk=>?zf,trivial,?ns,?nd⟩⟩
   case ns=>
    rintro j ⟨b,h1,_,h3⟩ m hm
    change Γ1.N _ m at hm
    rw [a0o h1] at hm
    exact hg1.ns b h3 m hm
   case nd=>
    rintro j j' ⟨b,h1,h2,h3⟩ ⟨b',h1',h2',h3'⟩ hne m hm hm'
    change Γ1.N _ m at hm hm'
    rw [a0o h1] at hm
    rw [a0o h1'] at hm'
    exact hs.nd (hs.du hm.1) b b' h3.1 h3'.1 h3.2 h3'.2 (λ e=>hne (by rw [← h2,← h2',e])) m hm.2 hm'.2
   case bz=>
    rintro j ⟨b,h1,_,h3⟩
    show Γ1.Z (Γ.blk _)
    rw [a0o h1]
    exact hg1.bz b h3
   case zf=>
    obtain ⟨z1,z2,z3⟩:=hg1.zf k hk
    exact ⟨hF k (z1.resolve_right (hY k)),z2,z3⟩
   ·rcases hg1.sr k hk with h | h
    ·exact .inl h
    ·exact .inr (hF k h)
   ·rintro j ⟨b,h1,_,h3⟩
    show _≤Γ.blk _∧Γ.blk _ < _ ∧ ¬ Γ1.S (Γ.blk _)∧Γ.cap _≤_ ∧ ∃ cur e,w.heap[Γ.blk _]? = _∧Γ.off _+Γ.cap _ * Γ.sz _≤_
    rw [a0o h1]
    obtain ⟨b1,b2,b3,b4⟩:=hg1.base b h3
    refine ⟨hF _ b1,b2,?_,b3,b4⟩
    rintro (h | ⟨b',hb',hdd,h⟩)
    ·exact hs.nds b h3.1 h3.2 h
    ·have:=g.baseInj b b' h3.1 hb' h
     subst this
     rw [h3.2] at hdd
     cases hdd
   ·rintro j j' ⟨b,h1,h2,h3⟩ ⟨b',h1',h2',h3'⟩ he
    change Γ.blk _=Γ.blk _ at he
    rw [a0o h1,a0o h1'] at he
    have:=g.baseInj b b' h3.1 h3'.1 he
    subst this
    rw [← h2,← h2']
  ·cases h
 ·cases h
theorem p1e (hA:b0l P c)(hW:g1y P c)(hD:a0r P den)(hI:b0w P c den)(hdraw:o0y P c den){k f:Nat}{fn:Func}{args:List V}{r:V}(hf:P.funcs[f]? = some fn)(h:o0j c den (λ b hd st=>g0n b hd k st) f fn args=some r)
  {R:Nat→Prop} {w:World} {vals:Array Value} (hg:g0c w) (hR:∀ k,R k→k < w.heap.size) (hl:args.length=vals.size) (hv:∀ (i:Nat) (c:V) (v:Value),args[i]? = some c→vals[i]? = some v→Rd w R c v) :
  Calls P f vals w λ
   | .returned x,w'=>Answer R w r x w'
   | _,_=>False:=by
 unfold o0j at h
 split at h
 ·cases h
 ·rename_i code hcode
  split at h
  ·cases h
  rename_i hdr
  have hdr:d0f c.io (c.fg f) code=true:=by simpa using hdr
  refine calls_of_wp hf hcode ?_
  let Γ:Ctx:={ w0:=w,F:=λ k=>w.heap.size≤k,S:=R,has:=λ _=>False,blk:=λ _=>0,off:=λ _=>0,cap:=λ _=>0,sz:=λ _=>0,ln:=λ _=>0,lb:=λ _=>False,box:=λ _=>0,R:=R,Z:=λ _=>False,N:=λ _ _=>False,U:=True,nt:=(args++List.replicate (fn.ntmps - args.length) V.undef).length }
  have hgood:Good Γ w:=⟨rfl,rfl,rfl,Nat.le_refl _,λ _ _ _=>rfl,λ _ h=>h,hR,λ _ h=>h.elim,λ _ _ h=>h.elim,λ _ h=>h.elim,λ _ _ h=>h.elim,λ _ _ h=>h.elim,λ _ h=>.inl h,⟨hg,λ k h=>Nat.le_trans hg.2 h⟩,λ _ h=>h.elim,λ _ h=>h.elim,λ _ h=>h.elim,λ h=>h⟩
  have hs:Sim Γ ⟨args++List.replicate (fn.ntmps - args.length) .undef,List.replicate fn.ntmps none,λ _=>false,false⟩ { tmps:=vals++Array.replicate (fn.ntmps - vals.size) undef,defers:=[] } w:=by
   refine ⟨hgood,rfl,by simp [hl],λ i v hi=>?_,λ k v hk=>?_,λ _ h=>h.elim,λ _=>trivial,λ _ _ _ h=>h.elim,rfl⟩
   ·simp only at hi ⊢
    rcases Nat.lt_or_ge i args.length with h1 | h1
    ·rw [List.getElem?_append_left h1] at hi
     have h2:i < vals.size:=by omega
     refine ⟨vals[i],by rw [Array.getElem?_append_left h2]; simp [h2],.rd _ _ (hv i v vals[i] hi (by simp [h2]))⟩
    ·rw [List.getElem?_append_right h1,List.getElem?_replicate] at hi
     split at hi
     ·rename_i h3
      simp only [sj_] at hi
      subst hi
      refine ⟨undef,?_,VR.undef_ _⟩
      rw [Array.getElem?_append_right (by omega),Array.getElem?_replicate,if_pos (by omega)]
     ·cases hi
   ·simp only [List.getElem?_replicate] at hk
    split at hk <;> cases hk
  split at h
  ·rename_i s hx
   refine n0g hA hW hD hI hdraw code Γ _ _ w _ s _ hs hdr hx (λ a' w' ⟨Γ',hsame,hs'⟩=>?_)
   obtain ⟨x,h1,h2⟩:=w0x hA hs' (by rw [hsame.2.1,hsame.1]; exact λ _ h=>h) (by rw [hsame.2.2.2.1]; exact λ _ h=>h) h
   rw [hsame.2.2.1,hsame.1] at h2
   exact ⟨hs'.dz,x,h1,h2⟩
  ·rename_i s hx
   refine n0g hA hW hD hI hdraw code Γ _ _ w _ s _ hs hdr hx (λ a' w' ⟨Γ',hsame,hs'⟩=>?_)
   obtain ⟨x,h1,h2⟩:=w0x hA hs' (by rw [hsame.2.1,hsame.1]; exact λ _ h=>h) (by rw [hsame.2.2.2.1]; exact λ _ h=>h) h
   rw [hsame.2.2.1,hsame.1] at h2
   exact ⟨hs'.dz,x,h1,h2⟩
  ·cases h
theorem i1w:∀ {l:List (Option V)} {bs:List V},d1z l=some bs → ∀ (k:Nat) (b:V),bs[k]? = some b→l[k]? = some (some b):=by
 intro l
 induction l with
 | nil=>intro bs h k b hk; simp only [d1z,sj_] at h; subst h; simp at hk
 | cons v l ih=>
  intro bs h k b hk
  cases v with
  | none=>cases h
  | some v=>
   simp only [d1z] at h
   cases hl:d1z l with
   | none=>rw [hl] at h; cases h
   | some bs0=>
    rw [hl] at h
    simp only [Option.map_some,sj_] at h
    subst h
    cases k with
    | zero=>simpa using hk
    | succ k=>simpa using ih hl k b (by simpa using hk)
theorem BoxAt.sweep {f:V→Option V}{B:Nat}{v:V}(hl:s0a Γ Γ' w w f)(hf:∀ v u,f v=some u→u.cells=[u])(h:BoxAt Γ w B v):BoxAt Γ' w B (v.mapB f):=by
 obtain ⟨cur,e,b1,b2,b3⟩:=h
 have hc:=d0a f hf v
 refine ⟨cur,e,b1,by rw [hc,a0f]; exact b2,λ j z hz=>?_⟩
 rw [hc,a0e] at hz
 cases hz0:v.cells[j]? with
 | none=>rw [hz0] at hz; cases hz
 | some z0=>
  rw [hz0] at hz
  simp only [Option.map_some,sj_] at hz
  subst hz
  obtain ⟨y,y1,y2⟩:=b3 j z0 hz0
  exact ⟨y,y1,VR.sweep hl z0 y y2⟩
theorem z0j (hA:b0l P c){Γ0:Ctx}{w0:World}{s:Io}(hsame:Same Γ0 Γ)(hw0:Γ0.w0=w0)(hnt0:Γ0.nt=s.nt)(hs:Sim Γ st a w){fn:Func}{zs:List V}{r:V}(h:h0m c zs st s fn.results.toList=some r) :
  ∃ outs,r = .tup outs ∧ ∃ x,(results fn a.tmps).run P w = .ok x w∧Home Γ0 w0 s outs x w:=by
 unfold h0m at h
 split at h
 ·rename_i vs hvs
  split at h
  ·rename_i vs' bs hres hout
   split at h
   ·rename_i hc
    obtain ⟨hbl,hok⟩:=hc
    simp only [sj_] at h
    refine ⟨_,h.symm,?_⟩
    obtain ⟨ys,hys,hl,hr⟩:=x0s hA hs _ vs hvs
    have g:Good (Γ.coarse st.dup) w:=hs.good.coarse
    let Γ1:=(Γ.coarse st.dup).settled st.dead
    have hg1:Good Γ1 w:=g.settled
    let V1:=V.mapBs (b0s st.dead) (V.mapBs (coarse st.dup) (vs' ++ bs))
    have hswept:∀ (v:V) (y:Value),VR Γ w v y→VR Γ1 w ((v.mapB (coarse st.dup)).mapB (b0s st.dead)) y:=λ v y h=>VR.sweep (h0p g) _ y (VR.sweep (h0o hs.du) v y h)
    have hboxed:∀ (B:Nat) (v:V),BoxAt Γ w B v→BoxAt Γ1 w B ((v.mapB (coarse st.dup)).mapB (b0s st.dead)):=λ B v h=>BoxAt.sweep (h0p g) (n0f _) (BoxAt.sweep (h0o hs.du) (m0u _) h)
    have hV1:∀ (i:Nat) (v:V),V1[i]? = some v → ∃ u,(vs' ++ bs)[i]? = some u∧v=(u.mapB (coarse st.dup)).mapB (b0s st.dead):=by
     intro i v hv
     simp only [V1] at hv
     rw [a0e,a0e] at hv
     cases hc:(vs' ++ bs)[i]? with
     | none=>rw [hc] at hv; cases hv
     | some u=>
      rw [hc] at hv
      simp only [Option.map_some,sj_] at hv
      exact ⟨u,rfl,hv.symm⟩
    have hV1l:V1.length=vs'.length+bs.length:=by simp only [V1]; rw [a0f,a0f,List.length_append]
    have hokV:∀ (i:Nat) (v:V),V1[i]? = some v → ∀ u∈v.cells,f0j u=true:=λ i v hv u hu=>m0c hok u (e0p (a0a hv) hu)
    -- the boxes
    have hbx:∀ (k:Nat) (b:V),bs[k]? = some b→Γ.lb (s.nt+k)∧BoxAt Γ w (Γ0.box (s.nt+k)) b:=by
     intro k b hk
     have h1:=i1w hout k b hk
     rw [List.getElem?_drop] at h1
     obtain ⟨b1,cur,e,b2,b3,b4⟩:=hs.bx _ b h1
     rw [hsame.2.2.2.2.2 (s.nt+k) (by rw [hnt0]; exact Nat.le_add_right _ _)] at b2
     exact ⟨b1,cur,e,b2,b3,b4⟩
    have hV1b:∀ (k:Nat) (b:V),bs[k]? = some b→V1[vs'.length+k]? = some ((b.mapB (coarse st.dup)).mapB (b0s st.dead)):=by
     intro k b hk
     simp only [V1]
     rw [a0e,a0e,List.getElem?_append_right (Nat.le_add_right _ _),Nat.add_sub_cancel_left,hk]
     rfl
    obtain ⟨Xs,xl,xget⟩:=q0c (R:=λ k b X=>VR Γ1 w ((b.mapB (coarse st.dup)).mapB (b0s st.dead)) X ∧ ∃ cur e,w.heap[Γ0.box (s.nt+k)]? = some (.cells cur e (0,0))∧X.cells=cur∧((b.mapB (coarse st.dup)).mapB (b0s st.dead)).cells.length=cur.size) bs (λ k b hk=>by
     obtain ⟨cur,e,b1,b2,b3⟩:=hboxed _ b (hbx k b hk).2
     obtain ⟨X,e1,e2⟩:=y0z (hokV _ _ (hV1b k b hk)) b2 b3
     exact ⟨X,e1,cur,e,b1,e2,b2⟩)
    have hrun:(results fn a.tmps).run P w = .ok (if h:ys.toArray.size=1 then ys.toArray[0] else .tuple ys.toArray) w:=by
     unfold results
     rw [Array.mapM_eq_mapM_toList]
     simp only [Sem.run_bind,Sem.run_map,Sem.run_pure]
     exact congrArg (λ q:Result (List Value)=>(q.andThen λ a w'=>Result.ok a.toArray w').andThen λ a w'=>Result.ok (if h:a.size=1 then a[0] else Value.tuple a) w') hys
    -- the results, or the box that is handed back
    have hcase:(s.rb=false∧vs' = vs)∨(s.rb=true ∧ ∃ e r0,vs=[.ptr e 0]∧e < s.nt∧st.h[e]? = some (some r0)∧vs' = [r0]):=by
     unfold z1g at hres
     split at hres
     ·rename_i _ hrb
      simp only [sj_] at hres
      exact .inl ⟨hrb,hres.symm⟩
     ·rename_i e hrb
      split at hres
      ·rename_i hlt
       cases hh:st.h.getD e none with
       | none=>rw [hh] at hres; cases hres
       | some r0=>
        rw [hh] at hres
        simp only [Option.map_some,sj_] at hres
        refine .inr ⟨hrb,e,r0,rfl,hlt,?_,hres.symm⟩
        rw [List.getD_eq_getElem?_getD] at hh
        cases h2:st.h[e]? with
        | none=>rw [h2] at hh; cases hh
        | some y=>rw [h2] at hh; exact congrArg _ hh
      ·cases hres
     ·cases hres
    have hYs:∃ Ys:List Value,Ys.length=vs'.length∧(∀ (i:Nat) (v:V) (y:Value),V1[i]? = some v→Ys[i]? = some y→VR Γ1 w v y)∧(s.rb=false→Ys=ys) ∧
      (s.rb=true → ∃ e r0 cur ty X,ys=[.pointer (some ⟨Γ.box e,0,none⟩)]∧e < s.nt∧Γ.lb e∧vs' = [r0]∧w.heap[Γ.box e]? = some (.cells cur ty (0,0))∧Ys=[X]∧X.cells=cur∧((r0.mapB (coarse st.dup)).mapB (b0s st.dead)).cells.length=cur.size):=by
     rcases hcase with ⟨hrb,e0⟩ | ⟨hrb,e,r0,e1,e2,e3,e4⟩
     ·refine ⟨ys,by rw [hl,e0],λ i v y hv hy=>?_,λ _=>rfl,λ h=>by rw [hrb] at h; cases h⟩
      obtain ⟨u,u1,rfl⟩:=hV1 i v hv
      have hi:i < vs'.length:=by rw [e0,← hl]; exact (gs_ hy).1
      rw [List.getElem?_append_left hi,e0] at u1
      exact hswept u y (hr i u y u1 hy)
     ·obtain ⟨b1,cur,ty,b2,b3,b4⟩:=hs.bx e r0 e3
      have hB:BoxAt Γ w (Γ.box e) r0:=⟨cur,ty,b2,b3,b4⟩
      obtain ⟨cur',ty',c1,c2,c3⟩:=hboxed _ r0 hB
      have h0:V1[0]? = some ((r0.mapB (coarse st.dup)).mapB (b0s st.dead)):=by
       simp only [V1]
       rw [a0e,a0e,e4]
       rfl
      obtain ⟨X,x1,x2⟩:=y0z (hokV 0 _ h0) c2 c3
      refine ⟨[X],by rw [e4]; rfl,λ i v y hv hy=>?_,(λ h=>by rw [hrb] at h; cases h),λ _=>⟨e,r0,cur',ty',X,?_,e2,b1,e4,c1,rfl,x2,c2⟩⟩
      ·cases i with
       | zero=>
        simp only [List.getElem?_cons_zero,sj_] at hy
        subst hy
        rw [h0] at hv
        injection hv with hv
        subst hv
        exact x1
       | succ i=>simp at hy
      ·rw [e1] at hl hr
       cases ys with
       | nil=>simp at hl
       | cons y ys=>
        have:ys=[]:=List.eq_nil_of_length_eq_zero (by simpa using hl)
        subst this
        rw [(hr 0 _ y rfl rfl).ptr_inv.1]
    obtain ⟨Ys,hYl,hYr,hY0,hY1⟩:=hYs
    have hplace:∀ (i:Nat) (v:V) (y:Value),(e0n zs V1)[i]? = some v→(Ys++Xs)[i]? = some y→VR (Γ1.placed (q0k V1)) w v y:=by
     refine c1q hok (λ i v y hv hy=>?_)
     rcases Nat.lt_or_ge i Ys.length with hi | hi
     ·rw [List.getElem?_append_left hi] at hy
      exact hYr i v y hv hy
     ·rw [List.getElem?_append_right hi] at hy
      obtain ⟨u,u1,rfl⟩:=hV1 i v hv
      rw [List.getElem?_append_right (by rw [← hYl]; exact hi),← hYl] at u1
      obtain ⟨X,x1,x2,_⟩:=xget _ u u1
      rw [x1] at hy
      injection hy with hy
      subst hy
      exact x2
    have hol:(e0n zs V1).length=vs'.length+bs.length:=by rw [s0v,hV1l]
    have hon:(e0n zs V1).length - s.nb=vs'.length:=by rw [hol,hbl]; omega
    refine ⟨_,hrun,⟨?_,?_,?_,?_,λ k hk hF=>?_,?_,Γ1.placed (q0k V1),λ hrb=>⟨ys,?_,λ i v y hv hy=>?_,rfl⟩,λ hrb=>?_,λ k v hv=>?_,λ k hk=>⟨?_,hg1.slt k hk⟩,?_,?_,?_,?_,?bz,λ k hk=>?zf,trivial,?ns,?nd⟩⟩
    case ns=>
     rintro j ⟨b,h1,_,h3⟩ m hm
     change Γ1.N _ m at hm
     rw [a0o h1] at hm
     exact hg1.ns b h3 m hm
    case nd=>
     rintro j j' ⟨b,h1,h2,h3⟩ ⟨b',h1',h2',h3'⟩ hne m hm hm'
     change Γ1.N _ m at hm hm'
     rw [a0o h1] at hm
     rw [a0o h1'] at hm'
     exact hs.nd (hs.du hm.1) b b' h3.1 h3'.1 h3.2 h3'.2 (λ e=>hne (by rw [← h2,← h2',e])) m hm.2 hm'.2
    case bz=>
     rintro j ⟨b,h1,_,h3⟩
     show Γ1.Z (Γ.blk _)
     rw [a0o h1]
     exact hg1.bz b h3
    case zf=>
     obtain ⟨z1,z2,z3⟩:=hg1.zf k hk
     refine ⟨?_,z2,z3⟩
     rw [← hsame.2.1,← hsame.2.2.2.1]
     exact z1
    ·rw [← hw0,← hsame.1]; exact hs.good.os
    ·rw [← hw0,← hsame.1]; exact hs.good.tape
    ·rw [← hw0,← hsame.1]; exact hs.good.output
    ·rw [← hw0,← hsame.1]; exact hs.good.size
    ·rw [← hw0,← hsame.1]
     refine hs.good.old k ?_ ?_
     ·rw [hsame.1,hw0]; exact hk
     ·rw [hsame.2.1]; exact hF
    ·rw [hol,hbl]; omega
    ·rw [hon,← hYl,hY0 hrb]
    ·refine hplace i v y hv ?_
     rw [hY0 hrb,List.getElem?_append_left (gs_ hy).1]
     exact hy
    ·obtain ⟨e,r0,cur,ty,X,y1,y2,y3,y4,y5,y6,y7,y8⟩:=hY1 hrb
     have hv1:vs'.length=1:=by rw [y4]; rfl
     have h0lt:0 < (e0n zs V1).length:=by rw [hol]; omega
     have h0:(e0n zs V1)[0]? = some (e0n zs V1)[0]:=List.getElem?_eq_getElem h0lt
     have hV0:V1[0]? = some ((r0.mapB (coarse st.dup)).mapB (b0s st.dead)):=by
      simp only [V1]
      rw [a0e,a0e,y4]
      rfl
     have hz:VR (Γ1.placed (q0k V1)) w (e0n zs V1)[0] X:=hplace 0 _ X h0 (by rw [y6]; rfl)
     have hzl:(e0n zs V1)[0].cells.length=cur.size:=(i0y hok 0 _ _ h0 hV0).trans y8
     refine ⟨Γ.box e,(e0n zs V1)[0],?_,?_,⟨cur,ty,y5,hzl,?_⟩,?_,(hs.good.box e y3).2.2,?_,?_,λ k hk he=>?_⟩
     ·rw [hon,hv1]
      refine List.ext_getElem? (λ i=>?_)
      cases i with
      | zero=>rw [List.getElem?_take,if_pos (by omega),h0]; rfl
      | succ i=>rw [List.getElem?_take,if_neg (by omega)]; rfl
     ·rw [y1]; rfl
     ·rw [← y7]
      exact hz.cells (by rw [hzl,y7])
     ·rw [← hsame.2.1]; exact (hs.good.box e y3).1
     ·exact (hg1.box e y3).2.1
     ·rintro j ⟨b,h1,_,h3⟩
      show Γ.blk _ ≠ _
      rw [a0o h1]
      exact hs.good.baseBox b e h3.1 y3
     ·have hklt:k < bs.length:=by rw [hbl]; exact hk
      have hlb:=(hbx k _ (List.getElem?_eq_getElem hklt)).1
      rw [← hsame.2.2.2.2.2 (s.nt+k) (by rw [hnt0]; exact Nat.le_add_right _ _)] at he
      have:=hs.good.boxInj _ _ hlb y3 he
      omega
    ·rw [List.getElem?_drop,hon] at hv
     have hklt:k < bs.length:=by
      have:=(gs_ hv).1
      rw [hol] at this
      omega
     have hbk:bs[k]? = some bs[k]:=List.getElem?_eq_getElem hklt
     obtain ⟨X,x1,x2,cur,e,x3,x4,x5⟩:=xget k _ hbk
     have hz:VR (Γ1.placed (q0k V1)) w v X:=by
      refine hplace _ v X hv ?_
      rw [List.getElem?_append_right (by rw [hYl]; exact Nat.le_add_right _ _),hYl,Nat.add_sub_cancel_left]
      exact x1
     have hzl:v.cells.length=cur.size:=(i0y hok _ v _ hv (hV1b k _ hbk)).trans x5
     refine ⟨cur,e,x3,hzl,?_⟩
     rw [← x4]
     exact hz.cells (by rw [hzl,x4])
    ·rw [← hsame.2.2.1,← hsame.2.1]
     exact hg1.sr k hk
    ·rintro j ⟨b,h1,_,h3⟩
     show Γ0.F (Γ.blk _)∧Γ.blk _ < _ ∧ ¬ Γ1.S (Γ.blk _)∧Γ.cap _≤_ ∧ ∃ cur e,w.heap[Γ.blk _]? = _∧Γ.off _+Γ.cap _ * Γ.sz _≤_
     rw [a0o h1]
     obtain ⟨b1,b2,b3,b4⟩:=hg1.base b h3
     refine ⟨by rw [← hsame.2.1]; exact b1,b2,?_,b3,b4⟩
     rintro (h | ⟨b',hb',hdd,h⟩)
     ·exact hs.nds b h3.1 h3.2 h
     ·have:=g.baseInj b b' h3.1 hb' h
      subst this
      rw [h3.2] at hdd
      cases hdd
    ·rintro j j' ⟨b,h1,h2,h3⟩ ⟨b',h1',h2',h3'⟩ he
     change Γ.blk _=Γ.blk _ at he
     rw [a0o h1,a0o h1'] at he
     have:=g.baseInj b b' h3.1 h3'.1 he
     subst this
     rw [← h2,← h2']
    ·rintro j k ⟨b,h1,_,h3⟩ hk he
     change Γ.blk _=_ at he
     rw [a0o h1] at he
     have hklt:k < bs.length:=by rw [hbl]; exact hk
     have hlb:=(hbx k _ (List.getElem?_eq_getElem hklt)).1
     rw [← hsame.2.2.2.2.2 (s.nt+k) (by rw [hnt0]; exact Nat.le_add_right _ _)] at he
     exact hs.good.baseBox b _ h3.1 hlb he
    ·intro k hk
     have hklt:k < bs.length:=by rw [hbl]; exact hk
     have hlb:=(hbx k _ (List.getElem?_eq_getElem hklt)).1
     rw [← hsame.2.2.2.2.2 (s.nt+k) (by rw [hnt0]; exact Nat.le_add_right _ _)]
     exact (hg1.box _ hlb).2.1
   ·cases h
  ·cases h
 ·cases h
theorem t0p (hA:b0l P c)(hW:g1y P c)(hD:a0r P den)(hI:b0w P c den)(hdraw:o0y P c den){k f:Nat}{fn:Func}{s:Io}{args:List V}{r:V}(hf:P.funcs[f]? = some fn)(hnm:(fn.name == "runtime.NumGoroutine")=false)
  (h:g0a c den (λ b hd st=>g0n b hd k st) f s fn args=some r):e2j P f s args r:=by
 unfold g0a at h
 split at h
 ·cases h
 ·rename_i code hcode
  split at h
  ·cases h
  rename_i hdr
  have hdr:d0f c.io (c.fg (1000000+f)) code=true:=by simpa using hdr
  split at h
  ·rename_i hnt
   have key:∀ (ex:Ex) (st':St),d0p c den (λ b hd st=>g0n b hd k st) (c.fg (1000000+f)) code (n1b s args)=some (ex,st')→h0m c (c.rz (1000000+f)) st' s fn.results.toList=some r→(ex.to = .normal∨ex.to = .ret)→e2j P f s args r:=by
    intro ex st' hx hfin hex
    have hform:∃ outs,r = .tup outs:=by
     unfold h0m at hfin
     split at hfin
     ·split at hfin
      ·split at hfin
       ·simp only [sj_] at hfin; exact ⟨_,hfin.symm⟩
       ·cases hfin
      ·cases hfin
     ·cases hfin
    obtain ⟨outs,rfl⟩:=hform
    refine ⟨⟨fn,hf,by rw [hcode]; rfl,hnm⟩,outs,rfl,λ Γ w vals hw0 hnt0 hvs hle hs=>?_⟩
    refine calls_of_wp hf hcode ?_
    rw [hnt]
    refine n0g hA hW hD hI hdraw code Γ _ _ w ex st' _ hs hdr hx (λ a' w' ⟨Γ',hsame,hs'⟩=>?_)
    obtain ⟨outs',e,x,h1,h2⟩:=z0j hA hsame hw0 hnt0 hs' hfin
    injection e with e
    subst e
    rcases hex with hex | hex <;> rw [hex] <;> exact ⟨hs'.dz,x,h1,h2⟩
   split at h
   ·rename_i st' hx
    exact key _ st' hx h (.inr rfl)
   ·rename_i st' hx
    exact key _ st' hx h (.inl rfl)
   ·cases h
  ·cases h
theorem a1w (hA:b0l P c)(hW:g1y P c)(hdraw:∀ den,a0r P den→b0w P c den→o0y P c den){ext:Nat→List V→Option V}(hext:a0r P ext):∀ k,a0r P (j0y P c ext k)∧b0w P c (j0y P c ext k):=by
 intro k
 induction k with
 | zero=>exact ⟨λ f args r h=>(by cases h),λ f s args r _ h=>(by cases h)⟩
 | succ k ih=>
  obtain ⟨ihD,ihI⟩:=ih
  constructor
  ·intro f args r h
   rw [j0y] at h
   cases hia:g0r args with
   | some as=>
    rw [hia] at h
    have hargs:args=h0e :: as:=by
     unfold g0r at hia
     split at hia
     ·simp only [sj_] at hia; subst hia; rfl
     ·cases hia
    simp only at h
    cases hc:c.io f with
    | none=>rw [hc] at h; cases h
    | some s=>
     rw [hc] at h
     cases hf:P.funcs[f]? with
     | none=>rw [hf] at h; cases h
     | some fn=>
      rw [hf] at h
      simp only at h
      split at h
      ·cases h
      ·rename_i hn
       have:=t0p hA hW ihD ihI (hdraw _ ihD ihI) hf (by simpa using hn) h
       refine ⟨by rw [← hf]; exact this.1,λ R w vals _ _ hl hv=>?_⟩
       exfalso
       subst hargs
       have h0:0 < vals.size:=by rw [← hl]; simp
       have:=hv 0 h0e vals[0] rfl (by simp [h0])
       cases this
   | none=>
    rw [hia] at h
    simp only at h
    cases he:ext f args with
    | some x=>
     rw [he] at h
     simp only [sj_] at h
     subst h
     exact hext f args x he
    | none=>
     rw [he] at h
     simp only at h
     cases hf:P.funcs[f]? with
     | none=>rw [hf] at h; cases h
     | some fn=>
      rw [hf] at h
      simp only at h
      split at h
      ·cases h
      ·rename_i hn
       refine ⟨⟨fn,rfl,?_,by simpa using hn⟩,λ R w vals hg hR hl hv=>p1e hA hW ihD ihI (hdraw _ ihD ihI) hf h hg hR hl hv⟩
       unfold o0j at h
       cases hb:fn.body with
       | none=>rw [hb] at h; cases h
       | some _=>rfl
  ·intro f s args r hcs h
   rw [j0y] at h
   have hia:g0r (h0e :: args)=some args:=rfl
   rw [hia,hcs] at h
   simp only at h
   cases hf:P.funcs[f]? with
   | none=>rw [hf] at h; cases h
   | some fn=>
    rw [hf] at h
    simp only at h
    split at h
    ·cases h
    ·rename_i hn
     exact t0p hA hW ihD ihI (hdraw _ ihD ihI) hf (by simpa using hn) h
theorem f1h (hA:b0l P c)(hW:g1y P c)(hdraw:∀ den,a0r P den→b0w P c den→o0y P c den){ext:Nat→List V→Option V}(hext:a0r P ext):∀ k,a0r P (j0y P c ext k):=λ k=>(a1w hA hW hdraw hext k).1
theorem y0c (hA:b0l P c)(hW:g1y P c)(hdraw:∀ den,a0r P den→b0w P c den→o0y P c den){ext:Nat→List V→Option V}(hext:a0r P ext):a0r P (Go.Am.den P c ext):=by
 intro f args r h
 obtain ⟨k,hk⟩:=u0i h
 exact f1h hA hW hdraw hext k f args r hk
end
end Go.Am
end
section
set_option linter.unusedVariables false
set_option linter.unusedSimpArgs false
namespace Go.Am
open Go Go.RowKit
section
variable {P:Program}{c:Cfg}{Γ Γ':Ctx}{st:St}{a:Act}{w w':World}{den:Nat→List V→Option V}{η:Nat→Option V}{d:Nat}{p q:Nat→Bool}
def b1n (st:St):Prop:=∃ Γ a w,Sim Γ st a w
theorem l1h {o:Oper}{next:Act→World→Prop}(h:o.wp P a w next (λ _ _ _=>False)):∃ a' w',next a' w':=by
 unfold Oper.wp at h
 generalize (execOp a.eval o).run P w=r at h
 cases r with
 | ok n w'=>
  cases n with
  | value v=>exact ⟨_,_,h⟩
  | skip=>exact ⟨_,_,h⟩
  | defer d=>exact ⟨_,_,h⟩
  | enter f args=>
   obtain ⟨e,w'',fr,hR,_⟩:=h []
   cases e with
   | returned v=>exact ⟨_,_,hR⟩
   | panicked _=>exact hR.elim
   | outgrown=>obtain ⟨_,_,hq⟩:=hR; exact hq.elim
  | row row args=>
   obtain ⟨v,w'',hR,_⟩:=h default []
   exact ⟨_,_,hR⟩
  | _=>exact h.elim
 | halt x w'=>cases x <;> exact h.elim
theorem x0q (hA:b0l P c)(hD:a0r P den){o:Oper}{st':St}(hs:b1n st)(h:step c den st o=some st'):b1n st':=by
 obtain ⟨Γ,a,w,hs⟩:=hs
 obtain ⟨a',w',Γ',_,h'⟩:=l1h (j0x hA hD hs h (λ a' w'=>Sims Γ st' a' w') (λ _ _ _=>False) (λ _ _ h=>h))
 exact ⟨Γ',a',w',h'⟩
def Av (p q:Nat→Bool)(v:V):Prop:=v.anyB p=false∧v.anyP q=false
def AvO (p q:Nat→Bool):Out→Prop
 | .val v=>Av p q v
 | .box r=>Av p q r
 | .fresh v _ _=>Av p q v
theorem j0k {p:Nat→Bool}:∀ {cs:List V},(∀ c∈cs,c.anyB p=false)→V.anyBs p cs=false:=by
 intro cs
 induction cs with
 | nil=>intro _; rfl
 | cons v vs ih=>intro h; rw [V.anyBs,h v (by simp),ih (λ c hc=>h c (by simp [hc]))]; rfl
theorem l0l {p:Nat→Bool}:∀ {cs:List V},(∀ c∈cs,c.anyP p=false)→V.anyPs p cs=false:=by
 intro cs
 induction cs with
 | nil=>intro _; rfl
 | cons v vs ih=>intro h; rw [V.anyPs,h v (by simp),ih (λ c hc=>h c (by simp [hc]))]; rfl
theorem Av.agg {cs:List V}(h:∀ c∈cs,Av p q c):Av p q (.agg cs):=⟨j0k λ c hc=>(h c hc).1,l0l λ c hc=>(h c hc).2⟩
theorem Av.tup {cs:List V}(h:∀ c∈cs,Av p q c):Av p q (.tup cs):=⟨j0k λ c hc=>(h c hc).1,l0l λ c hc=>(h c hc).2⟩
theorem Av.clo {f:Nat}{cs:List V}(h:∀ c∈cs,Av p q c):Av p q (.clo f cs):=⟨j0k λ c hc=>(h c hc).1,l0l λ c hc=>(h c hc).2⟩
theorem Av.agg_inv {cs:List V}(h:Av p q (.agg cs)):∀ c∈cs,Av p q c:=λ c hc=>⟨a0u h.1 c hc,c0o h.2 c hc⟩
theorem Av.tup_inv {cs:List V}(h:Av p q (.tup cs)):∀ c∈cs,Av p q c:=λ c hc=>⟨a0u h.1 c hc,c0o h.2 c hc⟩
theorem Av.clo_inv {f:Nat}{cs:List V}(h:Av p q (.clo f cs)):∀ c∈cs,Av p q c:=λ c hc=>⟨a0u h.1 c hc,c0o h.2 c hc⟩
theorem Av.cells {v:V}(h:Av p q v):∀ c∈v.cells,Av p q c:=by
 cases v with
 | agg cs=>exact h.agg_inv
 | _=>intro c hc; simp only [V.cells,List.mem_singleton] at hc; subst hc; exact h
theorem Rd.av {S:Nat→Prop}{v:V}{x:Value}(h:Rd w S v x):Av p q v:=by
 induction h with
 | agg cs vs hl hr ih=>
  refine .agg λ c hc=>?_
  obtain ⟨i,hi⟩:=List.getElem?_of_mem hc
  exact ih i c vs[i]! hi (by have:=(gs_ hi).1; rw [hl] at this; simp [this])
 | tup cs vs hl hr ih=>
  refine .tup λ c hc=>?_
  obtain ⟨i,hi⟩:=List.getElem?_of_mem hc
  exact ih i c vs[i]! hi (by have:=(gs_ hi).1; rw [hl] at this; simp [this])
 | clo f cs vs hl hr ih=>
  refine .clo λ c hc=>?_
  obtain ⟨i,hi⟩:=List.getElem?_of_mem hc
  exact ih i c vs[i]! hi (by have:=(gs_ hi).1; rw [hl] at this; simp [this])
 | _=>exact ⟨rfl,rfl⟩
theorem b1j (hA:b0l P c){t:Nat}{i:TyInfo}(h:c.ty t=some i):Av p q i.zero:=by
 obtain ⟨ti,ai⟩:=hA _ _ h
 obtain ⟨z,_,hz,_⟩:=ai.zero
 exact (hz (default:World) (λ _=>True)).av
theorem d1k (hs:Sim Γ st a w){v:V}{x:Value}{cs:List V}(hv:VR Γ w v x)(hη:∀ b r,η b=some r→Av p q r)(h:c0i η v=some cs):∀ u∈cs,Av p q u:=by
 cases v with
 | ptr d o=>
  simp only [c0i] at h
  cases hr:η d with
  | none=>rw [hr] at h; cases h
  | some r=>
   rw [hr] at h
   simp only [Option.map_some,sj_] at h
   subst h
   exact λ u hu=>(hη d r hr).cells u (List.mem_of_mem_drop hu)
 | iptr z o=>
  simp only [c0i,sj_] at h
  subst h
  obtain ⟨k,o',g,_,_,_,h3⟩:=hv.iptr_inv
  intro u hu
  obtain ⟨j,hj⟩:=List.getElem?_of_mem (List.mem_of_mem_drop hu)
  exact (h3 j u hj).av
 | vptr b z o=>
  simp only [c0i,sj_] at h
  subst h
  obtain ⟨o',g,_,_,_,h3⟩:=hv.vptr_inv
  intro u hu
  obtain ⟨j,hj⟩:=List.getElem?_of_mem (List.mem_of_mem_drop hu)
  exact (h3 j u hj).av
 | eptr b s k xs i o=>
  simp only [c0i] at h
  cases hr:xs[i]? with
  | none=>rw [hr] at h; cases h
  | some r=>
   rw [hr] at h
   simp only [Option.map_some,sj_] at h
   subst h
   obtain ⟨_,_,_,_,_,⟨r1,g,r2,r3⟩,_⟩:=hv.eptr_inv
   intro u hu
   obtain ⟨j,hj⟩:=List.getElem?_of_mem (List.mem_of_mem_drop hu)
   exact (r3 i r j u hr hj).av
 | _=>cases h
theorem c1n {ag:Bool}{n:Nat}{cs:List V}{v:V}(h:f0s ag n cs=some v)(hc:∀ u∈cs,Av p q u):Av p q v:=by
 unfold f0s at h
 split at h
 ·cases h
 ·split at h
  ·simp only [sj_] at h
   subst h
   exact .agg λ u hu=>hc u (List.mem_of_mem_take hu)
  ·split at h
   ·exact hc v (List.mem_of_mem_head? h)
   ·cases h
theorem j1z {cs new cs':List V}{o:Nat}(h:o0v cs o new=some cs')(hc:∀ u∈cs,Av p q u)(hn:∀ u∈new,Av p q u):∀ u∈cs',Av p q u:=by
 intro u hu
 obtain ⟨j,hj⟩:=List.getElem?_of_mem hu
 rw [g0t h j] at hj
 split at hj
 ·exact hn u (a0a hj)
 ·exact hc u (a0a hj)
theorem n1u {place:Nat→Option (Nat × Nat)}:∀ (ps:List (Nat × V)) (cs cs':List V),w0v place cs ps=some cs' → (∀ u∈cs,Av p q u)→(∀ x∈ps,Av p q x.2) → ∀ u∈cs',Av p q u:=by
 intro ps
 induction ps with
 | nil=>
  intro cs cs' h hc _
  simp only [w0v,sj_] at h
  subst h
  exact hc
 | cons x ps ih=>
  intro cs cs' h hc hx
  obtain ⟨i,v⟩:=x
  simp only [w0v] at h
  repeat' split at h
  all_goals first | (cases h; done) | skip
  rename_i _ _ _ _ _ hov
  exact ih _ _ h (j1z hov hc ((hx (i,v) (by simp)).cells)) (λ y hy=>hx y (by simp [hy]))
end
end Go.Am
end
section
set_option linter.unusedVariables false
set_option linter.unusedSimpArgs false
namespace Go.Am
open Go Go.RowKit
section
variable {P:Program}{c:Cfg}{Γ Γ':Ctx}{st:St}{a:Act}{w w':World}{den:Nat→List V→Option V}{η:Nat→Option V}{d:Nat}{p q:Nat→Bool}
theorem b1e (hp:∀ j,j < 1000→p (base d j)=false)(r:V):r.anyB (λ b=>decide (999≤b))=false→Av p q (r.mapB (d0t d)):=by
 refine V.rec (motive_1:=λ r=>r.anyB (λ b=>decide (999≤b))=false→Av p q (r.mapB (d0t d))) (motive_2:=λ rs=>V.anyBs (λ b=>decide (999≤b)) rs=false → ∀ u∈V.mapBs (d0t d) rs,Av p q u)
  (λ _=>⟨rfl,rfl⟩) (λ _ _=>⟨rfl,rfl⟩) (λ _ _ _=>⟨rfl,rfl⟩) (λ _ _=>⟨rfl,rfl⟩) (λ _=>⟨rfl,rfl⟩) (λ _ _ _ _ _=>⟨rfl,rfl⟩) (λ b _ _ _ _ h=>⟨hp b (Nat.lt_of_lt_of_le (by simpa [V.anyB] using h) (by decide:999≤1000)),rfl⟩) (λ b _ _ _ _ h=>⟨hp b (Nat.lt_of_lt_of_le (by simpa [V.anyB] using h) (by decide:999≤1000)),rfl⟩)
  (λ _ _ _=>⟨rfl,rfl⟩) (λ _ _ _ _ _ _ _ _=>⟨rfl,rfl⟩) (λ _ _ _ _ _=>⟨rfl,rfl⟩) (λ _ _ _ _=>⟨rfl,rfl⟩)
  (λ _ ih h=>.agg (ih h)) (λ _ ih h=>.tup (ih h)) (λ _ _ ih h=>.clo (ih h)) (λ _ u hu=>(by cases hu)) ?_ r
 intro v vs hv hvs h u hu
 rw [V.anyBs,Bool.or_eq_false_iff] at h
 rw [V.mapBs] at hu
 rcases List.mem_cons.1 hu with rfl | hu
 ·exact hv h.1
 ·exact hvs h.2 u hu
theorem y1p {n:Nat}{v u:V}{lo hi:Option V}(h:cut n v lo hi=some u)(hv:Av p q v):Av p q u:=by
 unfold cut at h
 repeat' split at h
 all_goals first | (cases h; done) | (simp only [sj_] at h; subst h; exact hv)
theorem h1a {s:Nat}{v u:V}{i:Int}(h:n0k s v i=some u)(hv:Av p q v):Av p q u:=by
 unfold n0k at h
 repeat' split at h
 all_goals first
  | (cases h; done)
  | (simp only [sj_] at h; subst h; exact hv)
  | skip
 ·rename_i xs hs
  cases hx:xs[i.toNat]? with
  | none=>rw [hx] at h; cases h
  | some z=>rw [hx] at h; simp only [Option.map_some,sj_] at h; subst h; exact ⟨rfl,rfl⟩
 ·rename_i b s' k xs hs
  cases hx:xs[i.toNat]? with
  | none=>rw [hx] at h; cases h
  | some z=>rw [hx] at h; simp only [Option.map_some,sj_] at h; subst h; exact hv
theorem w0l {v u:V}{n:Nat}(h:f0f v n=some u)(hv:Av p q v):Av p q u:=by
 unfold f0f at h
 repeat' split at h
 all_goals first | (cases h; done) | (simp only [sj_] at h; subst h; exact hv)
theorem j1l {k:IntKind}{o:Option Int}{v:V}(h:(o.map λ n=>V.int k (k.wrap n))=some v):Av p q v:=by
 cases o with
 | none=>cases h
 | some n=>simp only [Option.map_some,sj_] at h; subst h; exact ⟨rfl,rfl⟩
theorem q1t {x:V}{cs:List V}(hx:Av p q x)(he:x = .agg cs){ag:Bool}{n o:Nat}{v:V}(h:f0s ag n (cs.drop o)=some v):Av p q v:=by
 subst he
 exact c1n h (λ u hu=>hx.agg_inv u (List.mem_of_mem_drop hu))
theorem b2y {x v:V}{vs:List V}(hx:Av p q x)(he:x = .tup vs){i:Nat}(h:vs[i]? = some v):Av p q v:=by
 subst he
 exact hx.tup_inv _ (a0a h)
theorem c1h (hA:b0l P c)(hs:Sim Γ st a w)(hη:∀ b r,η b=some r→Av p q r)(hp:∀ j,j < 1000→p (base d j)=false){op:Op}(H:∀ x∈op.operands.toList,Av p q (ev st.t x)){out:Out}
  (h:a0d c den (ev st.t) η d op=some out):AvO p q out:=by
 cases op with
 | move x=>
  simp only [a0d,plain,sj_] at h
  subst h
  exact H x (by simp [Op.operands])
 | assign x=>
  simp only [a0d,plain,sj_] at h
  subst h
  exact H x (by simp [Op.operands])
 | pick x y z=>
  simp only [a0d,plain] at h
  repeat' split at h
  ·simp only [sj_] at h; subst h; exact H y (by simp [Op.operands])
  ·simp only [sj_] at h; subst h; exact H z (by simp [Op.operands])
  ·cases h
 | alloc e=>
  simp only [a0d] at h
  split at h
  ·rename_i i hi
   simp only [sj_] at h; subst h
   exact b1j hA hi
  ·cases h
 | box e x=>
  simp only [a0d] at h
  repeat' split at h
  all_goals first | (cases h; done) | (simp only [sj_] at h; subst h; exact H x (by simp [Op.operands]))
 | build t ps=>
  simp only [a0d,plain] at h
  repeat' split at h
  all_goals first | (cases h; done) | skip
  rename_i hcs
  simp only [sj_] at h; subst h
  refine Av.agg (n1u _ _ _ hcs (b1j hA (by assumption)).cells (λ x hx=>?_))
  obtain ⟨y,hy,rfl⟩:=List.mem_map.1 hx
  exact H y.2 (by simp only [Op.operands]; exact List.mem_map.2 ⟨y,hy,rfl⟩)
 | buildSlice t n ps=>
  simp only [a0d] at h
  repeat' split at h
  all_goals first | (cases h; done) | skip
  simp only [sj_] at h; subst h
  exact ⟨hp 0 (by omega),rfl⟩
 | load t x=>
  simp only [a0d,plain,i0f] at h
  repeat' split at h
  all_goals first | (cases h; done) | skip
  rename_i hl
  simp only [sj_] at h; subst h
  split at hl
  ·rename_i cs hc
   exact c1n hl (d1k hs (hs.ev x) hη hc)
  ·cases hl
 | nilCheck x=>
  have hx:=H x (by simp [Op.operands])
  simp only [a0d,plain] at h
  repeat' split at h
  all_goals first | (cases h; done) | skip
  all_goals
   rename_i he
   simp only [sj_] at h; subst h
   rw [he] at hx
   exact hx
 | binOp o t x y t'=>
  simp only [a0d,plain] at h
  repeat' split at h
  all_goals first | (cases h; done) | skip
  rename_i i hi v hv
  simp only [sj_] at h; subst h
  unfold w0u at hv
  repeat' split at hv
  all_goals first
   | (cases hv; done)
   | (simp only [sj_] at hv; subst hv; exact ⟨rfl,rfl⟩)
   | skip
  ·unfold z0n at hv
   repeat' split at hv
   all_goals first
    | (cases hv; done)
    | (simp only [sj_] at hv; subst hv; exact ⟨rfl,rfl⟩)
    | skip
   exact j1l hv
  ·unfold f1j at hv
   repeat' split at hv
   all_goals first
    | (cases hv; done)
    | (simp only [sj_] at hv; subst hv; exact ⟨rfl,rfl⟩)
 | unOp u t x=>
  cases u <;> simp only [a0d,plain] at h <;> first
   | (cases h; done)
   | skip
  all_goals
   repeat' split at h
   all_goals first | (cases h; done) | (simp only [sj_] at h; subst h; exact ⟨rfl,rfl⟩)
 | convert s t x=>
  have hx:=H x (by simp [Op.operands])
  simp only [a0d,plain] at h
  cases hc:p0q c s t (ev st.t x) with
  | some v=>
   rw [hc] at h
   simp only [sj_] at h; subst h
   have hv:=hc
   unfold p0q at hv
   repeat' split at hv
   all_goals first
    | (cases hv; done)
    | (simp only [sj_] at hv; subst hv; first | exact hx | exact ⟨rfl,rfl⟩)
    | skip
  | none=>
   rw [hc] at h
   simp only at h
   cases hb:p0p c s t (ev st.t x) with
   | some v=>
    rw [hb] at h
    simp only [sj_] at h; subst h
    have hv:=hb
    unfold p0p at hv
    split at hv
    ·rename_i xs _
     cases hy:e0f xs with
     | none=>rw [hy] at hv; cases hv
     | some l=>rw [hy] at hv; simp only [Option.map_some,sj_] at hv; subst hv; exact ⟨rfl,rfl⟩
    ·cases hv
   | none=>
    rw [hb] at h
    cases hf:e0e c s t (ev st.t x) with
    | none=>rw [hf] at h; cases h
    | some v=>
     rw [hf] at h
     simp only [Option.map_some,sj_] at h; subst h
     have hv:=hf
     unfold e0e at hv
     repeat' split at hv
     all_goals first
      | (cases hv; done)
      | (simp only [sj_] at hv; subst hv; exact ⟨rfl,rfl⟩)
      | skip
 | makeFunc fn first cap=>
  cases fn with
  | func f=>
   simp only [a0d,plain] at h
   split at h
   ·simp only [sj_] at h; subst h
    refine Av.clo λ u hu=>?_
    obtain ⟨y,hy,rfl⟩:=List.mem_map.1 hu
    exact H y (by simp only [Op.operands,Array.toList_append,List.mem_append]; exact .inr hy)
   ·cases h
  | _=>simp only [a0d] at h; cases h
 | makeSlice t l k=>
  simp only [a0d] at h
  repeat' split at h
  all_goals first | (cases h; done) | skip
  simp only [sj_] at h; subst h
  exact ⟨hp 0 (by omega),rfl⟩
 | slice t x lo hi mx=>
  have hx:=H x (by simp [Op.operands])
  cases mx with
  | some _=>simp only [a0d] at h; cases h
  | none=>
   simp only [a0d,plain] at h
   repeat' split at h
   all_goals first | (cases h; done) | skip
   ·simp only [sj_] at h; subst h; exact ⟨rfl,rfl⟩
   ·rename_i v hv
    simp only [sj_] at h; subst h
    exact y1p hv hx
 | fieldAddr t x f=>
  have hx:=H x (by simp [Op.operands])
  simp only [a0d,plain] at h
  repeat' split at h
  all_goals first | (cases h; done) | skip
  rename_i v hv
  simp only [sj_] at h; subst h
  exact w0l hv hx
 | field t x f=>
  have hx:=H x (by simp [Op.operands])
  simp only [a0d,plain] at h
  repeat' split at h
  all_goals first | (cases h; done) | skip
  rename_i hv
  simp only [sj_] at h; subst h
  exact q1t hx (by assumption) hv
 | indexAddr t x y=>
  have hx:=H x (by simp [Op.operands])
  simp only [a0d,plain] at h
  repeat' split at h
  all_goals first | (cases h; done) | skip
  ·rename_i v hv
   simp only [sj_] at h; subst h
   exact h1a hv hx
  ·rename_i v hv
   simp only [sj_] at h; subst h
   exact w0l hv hx
 | index t x y=>
  have hx:=H x (by simp [Op.operands])
  simp only [a0d,plain] at h
  repeat' split at h
  all_goals first | (cases h; done) | skip
  ·simp only [sj_] at h; subst h; exact ⟨rfl,rfl⟩
  ·rename_i hv
   simp only [sj_] at h; subst h
   exact q1t hx (by assumption) hv
 | extract x i=>
  have hx:=H x (by simp [Op.operands])
  simp only [a0d,plain] at h
  repeat' split at h
  all_goals first | (cases h; done) | skip
  rename_i hv
  simp only [sj_] at h; subst h
  exact b2y hx (by assumption) hv
 | call cl=>
  obtain ⟨callee,args,ts⟩:=cl
  cases callee with
  | value f=>
   simp only [a0d] at h
   repeat' split at h
   all_goals first | (cases h; done) | skip
   obtain ⟨v,esc,n,rfl⟩:=l0a h
   obtain ⟨t1,rfl,_⟩:=r0a h
   exact b1e hp _ t1
  | invoke f m=>simp only [a0d] at h; cases h
  | builtin bi=>
   cases bi <;> simp only [a0d,plain] at h <;> first | (cases h; done) | skip
   all_goals
    repeat' split at h
    all_goals first
     | (cases h; done)
     | (simp only [sj_] at h; subst h; first | exact ⟨rfl,rfl⟩ | exact ⟨hp 0 (by omega),rfl⟩)
 | _=>
  simp only [a0d] at h
  cases h
end
end Go.Am
end

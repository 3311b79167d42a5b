/-
  An append to a slice of the call's own.
-/
import Derived.Test.YthcnbncpgloonaaGreatuAmEff
section
set_option linter.unusedVariables false
set_option linter.unusedSimpArgs false
namespace Go.Am
open Go Go.RowKit
section
variable {P:Program}{c:Cfg}{Γ Γ':Ctx}{st:St}{a:Act}{w w':World}{den:Nat→List V→Option V}{η:Nat→Option V}{d:Nat}
theorem a1l {S:Nat→Prop}{s:Nat}{xs:List V}{k o:Nat}(h1:∀ x∈xs,x.cells.length=s)
  (h2:∀ (i:Nat) (x:V) (j:Nat) (u:V),xs[i]? = some x→x.cells[j]? = some u → ∃ v,w.cell? ⟨k,o+i * s+j,none⟩=some v∧v.oneCell' = true∧Rd w S u v):Rows w S s xs k o:=by
 refine ⟨h1,λ i j=>(w.cell? ⟨k,o+i * s+j,none⟩).getD undef,λ i j hi hj=>?_,λ i x j u hx hu=>?_⟩
 ·obtain ⟨x,hx⟩:∃ x,xs[i]? = some x:=⟨_,List.getElem?_eq_getElem hi⟩
  obtain ⟨u,hu⟩:∃ u,x.cells[j]? = some u:=⟨_,List.getElem?_eq_getElem (by rw [h1 x (a0a hx)]; exact hj)⟩
  obtain ⟨v,e1,e2,_⟩:=h2 i x j u hx hu
  simp only [e1,Option.getD_some]
  exact ⟨trivial,e2⟩
 ·obtain ⟨v,e1,_,e3⟩:=h2 i x j u hx hu
  simp only [e1,Option.getD_some]
  exact e3
theorem Rows.at_ {S:Nat→Prop}{s:Nat}{xs:List V}{k o:Nat}(h:Rows w S s xs k o){i:Nat}{x:V}{j:Nat}{u:V}(hx:xs[i]? = some x)(hu:x.cells[j]? = some u) :
  i < xs.length∧j < s ∧ ∃ v,w.cell? ⟨k,o+i * s+j,none⟩=some v∧v.oneCell' = true∧Rd w S u v:=by
 obtain ⟨r1,g,r2,r3⟩:=h
 have hi:=(gs_ hx).1
 have hj:j < s:=by rw [← r1 x (a0a hx)]; exact (gs_ hu).1
 exact ⟨hi,hj,g i j,(r2 i j hi hj).1,(r2 i j hi hj).2,r3 i x j u hx hu⟩
theorem r0b {N:Nat→Prop}{s:Nat}{xs:List V}{k o:Nat}(h1:∀ x∈xs,x.cells.length=s)(T:Nat→Nat→Nat→Prop)
  (h2:∀ (i:Nat) (x:V) (j:Nat) (u:V),xs[i]? = some x→x.cells[j]? = some u → ∃ v,w.cell? ⟨k,o+i * s+j,none⟩=some v∧Tr w u v (T i j))
  (h3:∀ i j i' j' m,T i j m→T i' j' m→i=i' ∧ j=j') (h4:∀ i j m,T i j m→N m):TrRows w N s xs k o:=by
 refine ⟨λ i j=>(w.cell? ⟨k,o+i * s+j,none⟩).getD undef,T,λ i j hi hj=>?_,λ i x j u hx hu=>?_,h3,h4⟩
 ·obtain ⟨x,hx⟩:∃ x,xs[i]? = some x:=⟨_,List.getElem?_eq_getElem hi⟩
  obtain ⟨u,hu⟩:∃ u,x.cells[j]? = some u:=⟨_,List.getElem?_eq_getElem (by rw [h1 x (a0a hx)]; exact hj)⟩
  obtain ⟨v,e1,_⟩:=h2 i x j u hx hu
  simp only [e1,Option.getD_some]
 ·obtain ⟨v,e1,e3⟩:=h2 i x j u hx hu
  simp only [e1,Option.getD_some]
  exact e3
theorem p1k {s:Nat}{xs:List V}{k o:Nat}{g:Nat→Nat→Value}{T:Nat→Nat→Nat→Prop}(r1:∀ x∈xs,x.cells.length=s)(r2:∀ i j:Nat,i < xs.length→j < s→w.cell? ⟨k,o+i * s+j,none⟩=some (g i j))
  (r3:∀ (i:Nat) (x:V) (j:Nat) (c:V),xs[i]? = some x→x.cells[j]? = some c→Tr w c (g i j) (T i j)) {i:Nat} {x:V} {j:Nat} {u:V} (hx:xs[i]? = some x) (hu:x.cells[j]? = some u) :
  ∃ v,w.cell? ⟨k,o+i * s+j,none⟩=some v∧Tr w u v (T i j):=by
 have hi:=(gs_ hx).1
 have hj:j < s:=by rw [← r1 x (a0a hx)]; exact (gs_ hu).1
 exact ⟨g i j,r2 i j hi hj,r3 i x j u hx hu⟩
theorem o0c {i n s j:Nat}(hi:i < n)(hj:j < s):i * s+j < n * s:=by
 have:=Nat.mul_le_mul_right s (show i+1≤n from hi)
 rw [Nat.add_mul,Nat.one_mul] at this
 omega
theorem j1n {n m s:Nat}(h:n≤m):n * s≤m * s:=Nat.mul_le_mul_right s h
theorem h0i {k j:Nat}{cur:Array Value}{e:TypeId}(h:w.heap[k]? = some (.cells cur e (0,0))):w.cell? ⟨k,j,none⟩=cur[j]?:=by simp [World.cell?,h]
theorem i0n (g:Good Γ w){esc:List Nat}{k:Nat}(h:g0x Γ esc k):k < w.heap.size:=by
 rcases h with h | ⟨b,_,hb,rfl⟩
 ·exact g.slt k h
 ·exact (g.base b hb).2.1
theorem j0j (g:Good Γ w){esc:List Nat}{k:Nat}(hk:Γ.lb k):¬ g0x Γ esc (Γ.box k):=by
 rintro (h | ⟨b,_,hb,h⟩)
 ·exact (g.box k hk).2.1 h
 ·exact g.baseBox b k hb hk h.symm
theorem h0c (g:Good Γ w){esc:List Nat}{b:Nat}(hb:Γ.has b)(hS:¬ Γ.S (Γ.blk b))(he:esc.contains b=false):¬ g0x Γ esc (Γ.blk b):=by
 rintro (h | ⟨b',h1,h2,h⟩)
 ·exact hS h
 ·have:=g.baseInj b b' hb h2 h
  subst this
  simp [h1] at he
theorem Good.write {b:Nat}{cur cs:Array Value}{e:TypeId}{esc:List Nat}{N':Nat→Nat→Prop}{U':Prop}(g:Good Γ w)(hb:Γ.has b)(hcur:w.heap[Γ.blk b]? = some (.cells cur e (0,0)))(hsz:cs.size=cur.size)(hN':∀ b',Γ.has b' → ∀ m,N' b' m→g0x Γ esc m∧Γ.Z m) :
  Good { Γ with S:=g0x Γ esc,N:=N',U:=U' } (w.setRow (Γ.blk b) cs):=by
 have hoth:∀ (k:Nat),k ≠ Γ.blk b→(w.setRow (Γ.blk b) cs).heap[k]? = w.heap[k]?:=λ k hk=>setRow_other w _ k cs hk
 refine ⟨g.os,g.tape,g.output,by rw [setRow_size]; exact g.size,λ k hk hF=>?_,g.new,λ k hk=>by rw [setRow_size]; exact i0n g hk,λ b' hb1=>?_,g.baseInj,λ k hk=>?_,g.boxInj,g.baseBox,u0f g,g.gl,g.bz,λ k hk=>?_,hN',g.h9⟩
 ·exact (hoth k (λ e=>hF (e ▸ (g.base b hb).1))).trans (g.old k hk hF)
 ·obtain ⟨e1,e2,e3,cur',e',e4,e5⟩:=g.base b' hb1
  refine ⟨e1,by rw [setRow_size]; exact e2,e3,?_⟩
  by_cases hbb:Γ.blk b' = Γ.blk b
  ·refine ⟨cs,e,?_,?_⟩
   ·show (w.setRow (Γ.blk b) cs).heap[Γ.blk b']? = _
    rw [hbb]
    exact setRow_heap w _ cur cs e _ hcur
   ·rw [hbb,hcur] at e4
    simp only [sj_,Obj.cells.injEq] at e4
    show Γ.off b' + Γ.cap b' * Γ.sz b' ≤ cs.size
    rw [hsz,e4.1]
    exact e5
  ·exact ⟨cur',e',(hoth _ hbb).trans e4,e5⟩
 ·obtain ⟨e1,_,e3⟩:=g.box k hk
  exact ⟨e1,j0j g hk,by rw [setRow_size]; exact e3⟩
 ·obtain ⟨z1,z2,cur',e',h'⟩:=g.zf k hk
  refine ⟨z1,by rw [setRow_size]; exact z2,?_⟩
  by_cases hbb:k=Γ.blk b
  ·subst hbb
   exact ⟨cs,e,setRow_heap w _ cur cs e _ hcur⟩
  ·exact ⟨cur',e',(hoth _ hbb).trans h'⟩
theorem VR.write {v:V}{x:Value}{b:Nat}{cs:Array Value}{esc:List Nat}{ln:Nat→Nat}{N':Nat→Nat→Prop}{U':Prop}(g:Good Γ w)(h:VR Γ w v x)(hb:Γ.has b)(hS:¬ Γ.S (Γ.blk b))(hp:v.anyB (λ b'=>b' == b)=false)(hln:∀ b',b' ≠ b→ln b' = Γ.ln b')
  (hU:U' → Γ.U) (hN:∀ b',b' ≠ b → ∀ m,Γ.N b' m→N' b' m) :
  VR { Γ with S:=g0x Γ esc,ln:=ln,N:=N',U:=U' } (w.setRow (Γ.blk b) cs) v x:=by
 refine VR.mono (Γ:=Γ) (Γ':={ Γ with S:=g0x Γ esc,ln:=ln,N:=N',U:=U' }) (w:=w) (w':=w.setRow (Γ.blk b) cs) (p:=λ b'=>b' == b) (r:=λ _=>false) hU (λ _ h=>.inl h) (λ _ h=>h) (λ k hk=>cell?_of_heap (setRow_other w _ k cs (λ e=>hS (e ▸ hk))))
  (λ b' hb'=>⟨Iff.rfl,λ hh=>⟨rfl,rfl,rfl,rfl,hln b' (by simpa using hb'),hN b' (by simpa using hb'),cell?_of_heap (setRow_other w _ _ cs (λ e=>?_))⟩⟩) (λ _ _=>⟨λ h=>h,rfl⟩) h hp (a0z _)
 have:=g.baseInj b' b hh hb e
 subst this
 simp at hb'
theorem o0r {S':Nat→Prop}{q q':Q}{u:V}{y:Value}(h1:Rd w Γ.S u y)(h2:q.good=true→Rd w (λ k=>Γ.S k∧Γ.Z k) u y)(hS:∀ k,Γ.S k→Γ'.S k)(hF:∀ k,Γ.Z k→Γ'.Z k)(hq:q'.good=true→q.good=true)
  (hc:∀ k,Γ.S k → ∀ o,w'.cell? ⟨k,o,none⟩=w.cell? ⟨k,o,none⟩):Rd w' (Γ'.Sq q') u y:=by
 cases q' with
 | any=>exact h1.mono hS hc
 | flat=>exact (h2 (hq rfl)).mono (λ k hk=>⟨hS k hk.1,hF k hk.2⟩) (λ k hk=>hc k hk.1)
 | clean=>exact (h2 (hq rfl)).mono (λ k hk=>⟨hS k hk.1,hF k hk.2⟩) (λ k hk=>hc k hk.1)
theorem s1k {q:Q}{u:V}{y:Value}(h:Rd w (Γ.Sq q) u y):Rd w Γ.S u y∧(q.good=true→Rd w (λ k=>Γ.S k∧Γ.Z k) u y):=by
 refine ⟨h.mono (λ k hk=>p0b hk) (λ _ _ _=>rfl),λ hq=>?_⟩
 cases q with
 | any=>cases hq
 | flat=>exact h
 | clean=>exact h
theorem z0k {v u:V}(h:flat v=some u):u.isCell=true:=by
 cases v <;> simp only [flat,sj_] at h <;> first | (cases h; done) | (subst h; rfl)
theorem q0p (b:Nat)(q:Q)(ys:List V):∀ v u,c0v b q ys v=some u→u.cells=[u]:=by
 intro v u h
 cases v <;> simp only [c0v] at h <;> first
  | (cases h; done)
  | (split at h <;> first
    | (simp only [sj_] at h; subst h; first | rfl | (split <;> rfl))
    | cases h)
theorem d0k (b:Nat):∀ v u,a0h b v=some u→u.cells=[u]:=by
 intro v u h
 cases v <;> simp only [a0h] at h <;> first
  | (cases h; done)
  | (split at h <;> first
    | (simp only [sj_] at h; subst h; rfl)
    | cases h)
theorem w0p:∀ (zs cs:List V),d0m cs=true→d0m (d0e zs cs)=true:=by
 intro zs
 induction zs with
 | nil=>intro cs h; cases cs <;> exact h
 | cons z zs ih=>
  intro cs h
  cases cs with
  | nil=>rfl
  | cons v cs=>
   rw [d0m,Bool.and_eq_true] at h
   rw [d0e,d0m,Bool.and_eq_true]
   refine ⟨?_,ih cs h.2⟩
   unfold e0u
   split
   ·rfl
   ·exact h.1
theorem y0w {zs:List V}{v:V}(h:d0m v.cells=true):d0m (c0e zs v).cells=true:=by
 rw [j0e]
 exact w0p _ _ h
theorem Sim.putRow {b s:Nat}{q:Q}{xs ys:List V}{k o:Nat}{v:V}{x px:Value}{new:List V}(hs:Sim Γ st a w)(hp:VR Γ w (.eptr b s q xs k o) px)(hdead:st.dead b=false)(hv:VR Γ w v x)
  (hc:d0m v.cells=true) (hesc:(b0k v.cells).contains b=false) (hn:l0s v.cells=some new) (hst:g0v xs k o new=some ys) :
  ∃ cur e,px = .pointer (some ⟨Γ.blk b,Γ.off b+k * s+o,none⟩)∧w.heap[Γ.blk b]? = some (.cells cur e (0,0))∧Γ.off b+k * s+o+x.cells.size≤cur.size ∧
   Sims Γ (((st.sweep (c0v b (q.join (f0g v.cells)) ys)).kill (b0k v.cells)).mark (!a0i st.dead (b0k v.cells))) a (w.setRow (Γ.blk b) (cur.toList.take (Γ.off b+k * s+o)++x.cells.toList++cur.toList.drop (Γ.off b+k * s+o+x.cells.size)).toArray):=by
 obtain ⟨rfl,hb,hsz,hcap,hk,hrow,hq⟩:=hp.eptr_inv
 have g:=hs.good
 have hS:=hs.nds b hb hdead
 obtain ⟨gF,glt,gm,cur,e,hcur,hfit⟩:=g.base b hb
 have hlen:=hv.cellLen (h0f hc)
 have hcl:=hv.cells hlen
 obtain ⟨n1,n2⟩:=p0v hn
 unfold g0v at hst
 cases hxk:xs[k]? with
 | none=>rw [hxk] at hst; cases hst
 | some rx=>
  rw [hxk] at hst
  simp only at hst
  cases hov:o0v rx.cells o new with
  | none=>rw [hov] at hst; cases hst
  | some cs=>
   rw [hov] at hst
   simp only [sj_] at hst
   obtain ⟨l1,l2⟩:=v0d hov
   have hrl:=hrow.1 rx (a0a hxk)
   have hks:=j1n (s:=s) (show k+1≤xs.length from hk)
   rw [Nat.add_mul,Nat.one_mul] at hks
   have hxc:=j1n (s:=s) hcap.1
   have hfit1:Γ.off b+k * s+o+x.cells.size≤cur.size:=by rw [← hsz] at hfit; omega
   refine ⟨cur,e,rfl,hcur,hfit1,?_⟩
   have hfit2:Γ.off b+k * s+o+x.cells.toList.length≤cur.toList.length:=by simpa using hfit1
   have hget:=λ j=>a1s cur.toList x.cells.toList (Γ.off b+k * s+o) j hfit2
   have hsl:=a1u cur.toList x.cells.toList (Γ.off b+k * s+o) hfit2
   simp only [Array.length_toList] at hget hsl
   let Γ':Ctx:={ Γ with S:=g0x Γ (b0k v.cells),N:=λ b' m=>if b' = b then Γ.N b m ∨ ∃ b1∈b0k v.cells,Γ.has b1∧(m=Γ.blk b1∨Γ.N b1 m) else Γ.N b' m,U:=Γ.U∧a0i st.dead (b0k v.cells)=true }
   have hN0:∀ m,Γ'.N b m→Γ.N b m ∨ ∃ b1∈b0k v.cells,Γ.has b1∧(m=Γ.blk b1∨Γ.N b1 m):=λ m h=>by simpa [Γ'] using h
   have hN1:∀ b' m,b' ≠ b→Γ'.N b' m→Γ.N b' m:=λ b' m hb h=>by simpa [Γ',hb] using h
   have hN2:∀ b' m,b' ≠ b→Γ.N b' m→Γ'.N b' m:=λ b' m hb h=>by simpa [Γ',hb] using h
   have hNZ:∀ m,(Γ.N b m ∨ ∃ b1∈b0k v.cells,Γ.has b1∧(m=Γ.blk b1∨Γ.N b1 m))→g0x Γ (b0k v.cells) m∧Γ.Z m:=λ m h=>by
    rcases h with h | ⟨b1,h1,h2,rfl | h3⟩
    ·exact ⟨.inl (g.ns b hb m h).1,(g.ns b hb m h).2⟩
    ·exact ⟨.inr ⟨b1,h1,h2,rfl⟩,g.bz b1 h2⟩
    ·exact ⟨.inl (g.ns b1 h2 m h3).1,(g.ns b1 h2 m h3).2⟩
   have hNS:=λ m h=>(hNZ m h).1
   let cs':=(cur.toList.take (Γ.off b+k * s+o)++x.cells.toList++cur.toList.drop (Γ.off b+k * s+o+x.cells.size)).toArray
   have hcs':cs'.size=cur.size:=hsl
   have hgood:Good Γ' (w.setRow (Γ.blk b) cs'):=g.write hb hcur hcs' (λ b' hb' m hm=>by
    by_cases hbb:b' = b
    ·rw [if_pos hbb] at hm; exact hNZ m hm
    ·rw [if_neg hbb] at hm; exact ⟨.inl (g.ns b' hb' m hm).1,(g.ns b' hb' m hm).2⟩)
   have hcs:∀ c∈cs,c.isCell=true∨c∈rx.cells:=by
    intro u hu
    obtain ⟨j,hj⟩:=List.getElem?_of_mem hu
    rw [g0t hov j] at hj
    split at hj
    ·obtain ⟨z,_,hz⟩:=n2 _ _ hj
     exact .inl (z0k hz)
    ·exact .inr (a0a hj)
   have hrc:=h0v (r:=rx) l1 hcs
   have hSn:¬ g0x Γ (b0k v.cells) (Γ.blk b):=h0c g hb hS hesc
   have hsame:∀ k',g0x Γ (b0k v.cells) k' → ∀ o',(w.setRow (Γ.blk b) cs').cell? ⟨k',o',none⟩=w.cell? ⟨k',o',none⟩:=λ k' hk'=>cell?_of_heap (setRow_other w _ k' cs' (λ e=>hSn (e ▸ hk')))
   have hheap:(w.setRow (Γ.blk b) cs').heap[Γ.blk b]? = some (.cells cs' e (0,0)):=setRow_heap w _ cur cs' e _ hcur
   have hcell:∀ j,(w.setRow (Γ.blk b) cs').cell? ⟨Γ.blk b,j,none⟩=if Γ.off b+k * s+o≤j∧j < Γ.off b+k * s+o+x.cells.size then x.cells[j - (Γ.off b+k * s+o)]? else cur[j]?:=by
    intro j
    rw [h0i hheap]
    show (List.toArray _)[j]? = _
    rw [List.getElem?_toArray,hget]
    simp
   have hgq:∀ q0:Q,(q.join (f0g v.cells)).good=true→q.good=true:=λ _ h=>(b0d h).1
   -- an old cell, kept
   have hold:∀ (i:Nat) (rw_:V) (j:Nat) (u:V),xs[i]? = some rw_→rw_.cells[j]? = some u→(i ≠ k ∨ ¬ (o≤j∧j < o+x.cells.size)) →
     ∃ z,(w.setRow (Γ.blk b) cs').cell? ⟨Γ.blk b,Γ.off b+i * s+j,none⟩=some z∧z.oneCell' = true∧Rd (w.setRow (Γ.blk b) cs') (Γ'.Sq (q.join (f0g v.cells))) u z:=by
    intro i rw_ j u h1 h2 h3
    obtain ⟨hi,hj,z,e1,e2,e3⟩:=hrow.at_ h1 h2
    refine ⟨z,?_,e2,?_⟩
    ·rw [hcell,if_neg,← h0i hcur]
     ·exact e1
     ·rcases Nat.lt_trichotomy i k with h4 | h4 | h4
      ·have:=o0c (j:=j) h4 hj
       omega
      ·subst h4
       rcases h3 with h3 | h3
       ·exact absurd rfl h3
       ·omega
      ·have:=j1n (s:=s) (show k+1≤i from h4)
       rw [Nat.add_mul,Nat.one_mul] at this
       omega
    ·obtain ⟨f1,f2⟩:=s1k e3
     exact o0r (S':=Γ.S) f1 f2 (λ _ h=>.inl h) (λ _ h=>h) (hgq q) (λ k' hk'=>hsame k' (.inl hk'))
   have hrows:Rows (w.setRow (Γ.blk b) cs') (Γ'.Sq (q.join (f0g v.cells))) s ys (Γ.blk b) (Γ.off b):=by
    refine a1l (λ r hr=>?_) (λ i r j u hr hu=>?_)
    ·rw [← hst] at hr
     rcases List.mem_or_eq_of_mem_set hr with hr | rfl
     ·exact hrow.1 r hr
     ·rw [hrc,l1]; exact hrl
    ·rw [← hst,List.getElem?_set] at hr
     split at hr
     ·rename_i hik
      subst hik
      try rw [if_pos hk] at hr
      simp only [sj_] at hr
      subst hr
      rw [hrc,g0t hov] at hu
      have hnl:new.length=x.cells.size:=by omega
      rw [hnl] at hu
      split at hu
      ·rename_i hjj
       obtain ⟨z,z1,z2⟩:=n2 _ _ hu
       obtain ⟨y,y1,y2⟩:=hcl _ _ z1
       obtain ⟨f1,f2,f3,f4⟩:=p0u (S':=g0x Γ (b0k v.cells)) g y2 z2 (λ _ h=>.inl h) (λ b1 hb1 hh=>.inr ⟨b1,c0q (a0a z1) b1 hb1,hh,rfl⟩)
       refine ⟨y,?_,f2,?_⟩
       ·rw [hcell,if_pos (by omega),← y1]
        congr 1
        omega
       ·have hqq:(q.join (f0g v.cells)).good=true→Rd w (λ k=>g0x Γ (b0k v.cells) k∧Γ.Z k) u y:=λ h=>f3 (h0j (b0d h).2 z (a0a z1))
        cases hqj:q.join (f0g v.cells) with
        | any=>exact f1.mono (λ _ h=>h) hsame
        | flat=>exact (hqq (by rw [hqj]; rfl)).mono (λ _ h=>h) (λ k' hk'=>hsame k' hk'.1)
        | clean=>exact (hqq (by rw [hqj]; rfl)).mono (λ _ h=>h) (λ k' hk'=>hsame k' hk'.1)
      ·rename_i hjj
       exact hold _ rx j u hxk hu (.inr hjj)
     ·rename_i hik
      exact hold i r j u hr hu (.inl (λ e=>hik e.symm))
   have hflat:flatOk (q.join (f0g v.cells)) ys:=by
    intro hqf r hr u hu
    obtain ⟨j1,j2⟩:=d0r hqf
    rw [← hst] at hr
    rcases List.mem_or_eq_of_mem_set hr with hr | rfl
    ·exact hq j1 r hr u hu
    ·rw [hrc] at hu
     obtain ⟨j,hj⟩:=List.getElem?_of_mem hu
     rw [g0t hov j] at hj
     split at hj
     ·obtain ⟨z,z1,z2⟩:=n2 _ _ hj
      obtain ⟨y,y1,y2⟩:=hcl _ _ z1
      exact (p0u (S':=g0x Γ (b0k v.cells)) g y2 z2 (λ _ h=>.inl h) (λ b1 hb1 hh=>.inr ⟨b1,c0q (a0a z1) b1 hb1,hh,rfl⟩)).2.2.2 (f0x j2 z (a0a z1))
     ·exact hq j1 rx (a0a hxk) u (a0a hj)
   have hyl:ys.length=xs.length:=by rw [← hst,List.length_set]
   have no9:∀ b,Γ.has b→b ≠ 999:=λ b hb e=>g.h9 (e ▸ hb)
   have huq:Γ'.Uq (w.setRow (Γ.blk b) cs') (q.join (f0g v.cells)) b s ys (Γ.blk b) (Γ.off b):=by
    rintro hqc ⟨hU,hmv⟩
    have hgd:(q.join (f0g v.cells)).good=true:=by rw [hqc]; rfl
    obtain ⟨gg,T,t1,t2,t3,t4⟩:=d1h hp.eptr_uq hrow hq (b0d hgd).1 hU
    have hsame2:∀ (T0:Nat→Prop) (u:V) (z:Value),Tr w u z T0→(∀ m,T0 m→g0x Γ (b0k v.cells) m)→Tr (w.setRow (Γ.blk b) cs') u z T0:=λ T0 u z h h2=>h.mono (λ k' hk'=>hsame k' (h2 k' hk'))
    let T':Nat→Nat→Nat→Prop:=λ i j m=>if i=k∧o≤j∧j < o+x.cells.size then ∃ z,v.cells[j - o]? = some z ∧ ∃ b1∈c0f z,Γ.has b1∧(m=Γ.blk b1∨Γ.N b1 m) else T i j m
    have hT1:∀ i j,(i=k∧o≤j∧j < o+x.cells.size) → ∀ m,T' i j m → ∃ z,v.cells[j - o]? = some z ∧ ∃ b1∈c0f z,Γ.has b1∧(m=Γ.blk b1∨Γ.N b1 m):=λ i j h m hm=>by
     have e:T' i j m=_:=if_pos h
     rw [e] at hm; exact hm
    have hT2:∀ i j,¬ (i=k∧o≤j∧j < o+x.cells.size) → ∀ m,T' i j m→T i j m:=λ i j h m hm=>by
     have e:T' i j m=T i j m:=if_neg h
     rw [e] at hm; exact hm
    have hmem:∀ {i:Nat} {z:V} {b1:Nat},v.cells[i]? = some z→b1∈c0f z→b1∈b0k v.cells:=λ h1 h2=>c0q (a0a h1) _ h2
    have hne:∀ b1,b1∈b0k v.cells→b1 ≠ b:=λ b1 h1 e=>by subst e; simp [h1] at hesc
    have hcross:∀ i j i' j' m,(i=k∧o≤j∧j < o+x.cells.size) → ¬ (i' = k∧o≤j' ∧ j' < o+x.cells.size)→T' i j m→T' i' j' m→False:=λ i j i' j' m c1 c2 m1 m2=>by
     obtain ⟨z,z1,b1,z2,z3,z4⟩:=hT1 i j c1 m m1
     have:=(t4 i' j' m (hT2 i' j' c2 m m2)).1
     exact hs.apart hU z3 hb (b0v hmv b1 (hmem z1 z2) (no9 b1 z3)) hdead (hne b1 (hmem z1 z2)) z4 (.inr this)
    refine r0b hrows.1 T' (λ i r j u hr hu=>?_) (λ i j i' j' m m1 m2=>?_) (λ i j m hm=>?_)
    ·have hold2:∀ rw_,xs[i]? = some rw_→rw_.cells[j]? = some u → ¬ (i=k∧o≤j∧j < o+x.cells.size) → ∃ z,(w.setRow (Γ.blk b) cs').cell? ⟨Γ.blk b,Γ.off b+i * s+j,none⟩=some z∧Tr (w.setRow (Γ.blk b) cs') u z (T' i j):=λ rw_ e1 e2 c=>by
      obtain ⟨z,z1,_,_⟩:=hold i rw_ j u e1 e2 (by
       by_cases hik:i=k
       ·exact .inr (λ h=>c ⟨hik,h⟩)
       ·exact .inl hik)
      obtain ⟨hi,hj,z',z2,_,_⟩:=hrow.at_ e1 e2
      obtain ⟨z'',z3,z4⟩:=p1k hrow.1 t1 t2 e1 e2
      rw [z2] at z3
      injection z3 with z3
      subst z3
      have hpos:¬ (Γ.off b+k * s+o≤Γ.off b+i * s+j∧Γ.off b+i * s+j < Γ.off b+k * s+o+x.cells.size):=by
       rcases Nat.lt_trichotomy i k with h4 | h4 | h4
       ·have:=o0c (j:=j) h4 hj
        omega
       ·subst h4
        intro h
        exact c ⟨rfl,by omega,by omega⟩
       ·have:=j1n (s:=s) (show k+1≤i from h4)
        rw [Nat.add_mul,Nat.one_mul] at this
        omega
      refine ⟨z',?_,?_⟩
      ·rw [hcell,if_neg hpos,← h0i hcur]
       exact z2
      ·rw [show T' i j=T i j from funext λ m=>if_neg c]
       exact hsame2 _ _ _ z4 (λ m hm=>.inl (t4 i j m hm).2)
     rw [← hst,List.getElem?_set] at hr
     split at hr
     ·rename_i hik
      subst hik
      try rw [if_pos hk] at hr
      simp only [sj_] at hr
      subst hr
      rw [hrc,g0t hov] at hu
      have hnl:new.length=x.cells.size:=by omega
      rw [hnl] at hu
      split at hu
      ·rename_i hjj
       obtain ⟨z,z1,z2⟩:=n2 _ _ hu
       obtain ⟨y,y1,y2⟩:=hcl _ _ z1
       refine ⟨y,?_,?_⟩
       ·rw [hcell,if_pos (by omega),← y1]
        congr 1
        omega
       ·rw [show T' k j=_ from funext λ m=>if_pos ⟨rfl,hjj⟩]
        refine hsame2 _ _ _ ((z0l y2 z2 (h0j (b0d hgd).2 z (a0a z1)) hU (λ b1 hb1 hh=>hs.nds b1 hh (b0v hmv b1 (hmem z1 hb1) (no9 b1 hh)))).weaken (λ m hm=>⟨z,z1,hm⟩)) (λ m ⟨z',q1,b1,q2,q3,q4⟩=>hNS m (.inr ⟨b1,hmem q1 q2,q3,q4⟩))
      ·rename_i hjj
       exact hold2 rx hxk hu (λ h=>hjj h.2)
     ·rename_i hik
      exact hold2 r hr hu (λ h=>hik h.1.symm)
    ·by_cases c1:i=k∧o≤j∧j < o+x.cells.size
     ·by_cases c2:i' = k∧o≤j' ∧ j' < o+x.cells.size
      ·obtain ⟨z,z1,b1,z2,z3,z4⟩:=hT1 i j c1 m m1
       obtain ⟨z',z1',b1',z2',z3',z4'⟩:=hT1 i' j' c2 m m2
       have hbb:b1=b1':=Classical.byContradiction λ hne=>hs.apart hU z3 z3' (b0v hmv b1 (hmem z1 z2) (no9 b1 z3)) (b0v hmv b1' (hmem z1' z2') (no9 b1' z3')) hne z4 z4'
       subst hbb
       have:=p0k hmv _ _ z z' b1 z1 z1' z2 z2' (no9 b1 z3)
       exact ⟨c1.1.trans c2.1.symm,by omega⟩
      ·exact (hcross i j i' j' m c1 c2 m1 m2).elim
     ·by_cases c2:i' = k∧o≤j' ∧ j' < o+x.cells.size
      ·exact (hcross i' j' i j m c2 c1 m2 m1).elim
      ·exact t3 i j i' j' m (hT2 i j c1 m m1) (hT2 i' j' c2 m m2)
    ·by_cases c1:i=k∧o≤j∧j < o+x.cells.size
     ·obtain ⟨z,z1,b1,z2,z3,z4⟩:=hT1 i j c1 m hm
      have:Γ.N b m ∨ ∃ b1∈b0k v.cells,Γ.has b1∧(m=Γ.blk b1∨Γ.N b1 m):=.inr ⟨b1,hmem z1 z2,z3,z4⟩
      exact ⟨by simpa [Γ'] using this,hNS m this⟩
     ·have h4:=t4 i j m (hT2 i j c1 m hm)
      have:Γ.N b m ∨ ∃ b1∈b0k v.cells,Γ.has b1∧(m=Γ.blk b1∨Γ.N b1 m):=.inl h4.1
      exact ⟨by simpa [Γ'] using this,hNS m this⟩
   refine ⟨Γ',⟨rfl,rfl,rfl,rfl,rfl,λ _ _=>rfl⟩,?_⟩
   refine Sim.sweep (f:=c0v b (q.join (f0g v.cells)) ys) (dead:=λ b'=>(b0k v.cells).contains b' || st.dead b') (dup:=!a0i st.dead (b0k v.cells) || st.dup) hs ?_ (q0p b _ ys) hgood (λ _ h=>h) (λ _=>rfl) (λ k' hk'=>setRow_other w _ _ cs' (λ e=>g.baseBox b k' hb hk' e.symm)) ?_ (λ h=>?_) ?_
   ·intro u y hleaf hu
    have keep:u.anyB (λ b'=>b' == b)=false→VR Γ' (w.setRow (Γ.blk b) cs') u y:=λ h=>hu.write g hb hS h (λ _ _=>rfl) (λ h=>h.1) (λ b' hb' m hm=>hN2 b' m hb' hm)
    cases u with
    | own b' s' q' zs=>
     simp only [c0v]
     split
     ·rename_i hbb
      subst hbb
      simp only [Option.getD_some]
      rcases hu.own_inv with ⟨_,_,h3⟩ | ⟨h1,_,h3,h4,_⟩
      ·exact absurd hb h3
      ·have hzl:zs.length=ys.length:=by rw [hyl,h4.2,hcap.2]
       have:=VR.own (Γ:=Γ') (w:=w.setRow (Γ.blk b') cs') b' s' (q.join (f0g v.cells)) ys hb h3 (by rw [hyl]; exact hcap) (by rw [h3,← hsz]; exact hrows) hflat (by rw [h3,← hsz]; exact huq)
       rw [h1,hzl]
       exact this
     ·rename_i hbb
      exact keep (by simpa [V.anyB] using hbb)
    | view b' s' q' zs=>
     simp only [c0v]
     split
     ·exact VR.undef_ _
     ·rename_i hbb
      exact keep (by simpa [V.anyB] using hbb)
    | eptr b' s' q' zs i' o'=>
     simp only [c0v]
     split
     ·exact VR.undef_ _
     ·rename_i hbb
      exact keep (by simpa [V.anyB] using hbb)
    | vptr b' z o'=>
     simp only [c0v]
     split
     ·exact VR.undef_ _
     ·rename_i hbb
      exact keep (by simpa [V.anyB] using hbb)
    | agg _=>cases hleaf
    | tup _=>cases hleaf
    | clo _ _=>cases hleaf
    | _=>exact keep rfl
   ·intro b' hb' hdd
    simp only [Bool.or_eq_false_iff] at hdd
    exact h0c g hb' (hs.nds b' hb' hdd.2) hdd.1
   ·simp only [Bool.or_eq_false_iff,Bool.not_eq_false'] at h
    exact ⟨hs.du h.2,h.1⟩
   ·rintro ⟨hU,hmv⟩ b1 b2 k1 k2 d1 d2 hne m m1 m2
    simp only [Bool.or_eq_false_iff] at d1 d2
    have aux:∀ b2,Γ.has b2→(b0k v.cells).contains b2=false→st.dead b2=false→b2 ≠ b→Γ'.N b m→Γ'.N b2 m→False:=λ b2 k2 c2 d2 hne m1 m2=>by
     have m2:=hN1 b2 m hne m2
     rcases hN0 m m1 with m1 | ⟨b3,j1,j2,j3⟩
     ·exact hs.nd hU b b2 hb k2 hdead d2 hne.symm m m1 m2
     ·exact hs.apart hU j2 k2 (b0v hmv b3 j1 (no9 b3 j2)) d2 (λ e=>by subst e; simp [j1] at c2) j3 (.inr m2)
    by_cases e1:b1=b
    ·subst e1
     exact aux b2 k2 d2.1 d2.2 hne.symm m1 m2
    ·by_cases e2:b2=b
     ·subst e2
      exact aux b1 k1 d1.1 d1.2 hne m2 m1
     ·exact hs.nd hU b1 b2 k1 k2 d1.2 d2.2 hne m (hN1 b1 m e1 m1) (hN1 b2 m e2 m2)
theorem y0x {v:V}{x:Value}(hv:VR Γ w v x)(hc:d0m v.cells=true):∀ u∈x.cells.toList,u.oneCell' = true:=by
 have hlen:=hv.cellLen (h0f hc)
 intro z hz
 obtain ⟨j,hj⟩:=List.getElem?_of_mem hz
 obtain ⟨u,hu⟩:∃ u,v.cells[j]? = some u:=⟨_,List.getElem?_eq_getElem (by rw [hlen]; simpa using (gs_ hj).1)⟩
 obtain ⟨y,e1,e2⟩:=hv.cells hlen j u hu
 have:y=z:=by simpa [e1] using hj
 subst this
 exact s0x e2 (k0p hc u (a0a hu))
theorem a1z (hA:b0l P c)(hs:Sim Γ st a w){o:Oper}{t:TypeId}{ad x:Operand}{st':St}(ho:o.op = .store t ad x)(h:b0b c st o.dst o.op=some st') :
  ∃ w',(execOp a.eval o).run P w = .ok .skip w' ∧ Sims Γ st' (a.put o.dst undef) w':=by
 rw [ho] at h
 simp only [b0b] at h
 split at h
 ·rename_i i hi
  split at h
  ·rename_i hc
   obtain ⟨hl,hc,hd⟩:=hc
   split at h
   ·rename_i b off had
    split at h
    ·rename_i r hb
     split at h
     ·rename_i cs hov
      simp only [sj_] at h
      subst h
      exact r0t hA hs ho hi hl hc hd had hb hov
     ·cases h
    ·cases h
   ·rename_i b s q xs k off had
    split at h
    ·rename_i hcc
     split at h
     ·rename_i new hn
      split at h
      ·rename_i ys hys
       simp only [sj_] at h
       subst h
       obtain ⟨ti,ai⟩:=hA _ _ hi
       have hv:=hs.ev x
       have hp:=hs.ev ad
       rw [had] at hp
       obtain ⟨cur,e,h1,h2,h3,h4⟩:=hs.putRow hp hcc.1 (j1r hs.good.h9 hv) (y0w hc) hcc.2 hn hys
       have hlen:=hv.cellLen (h0f hc)
       have hr:=j0h P w (Γ.blk b) (Γ.off b+k * s+off) e t ti cur (a.eval x) h2 ai.info (by rw [ai.size,← hl,hlen]) h3 (y0x hv hc)
       refine ⟨_,?_,by rw [hd]; exact h4⟩
       simp [execOp,ho,h1,hr]
      ·cases h
     ·cases h
    ·cases h
   ·cases h
  ·cases h
 ·cases h
end
end Go.Am
end
section
set_option linter.unusedVariables false
set_option linter.unusedSimpArgs false
namespace Go.Am
open Go Go.RowKit
section
variable {P:Program}{c:Cfg}{Γ Γ':Ctx}{st:St}{a:Act}{w w':World}{den:Nat→List V→Option V}{η:Nat→Option V}{d:Nat}
theorem g0f {b:Nat}(h:∀ u y,VR Γ w u y→u.anyB (λ b'=>b' == b)=false→VR Γ' w' u y):s0a Γ Γ' w w' (a0h b):=by
 intro u y hleaf hu
 have keep:=h u y hu
 cases u with
 | own b' s' q' zs=>
  simp only [a0h]
  split
  ·exact VR.undef_ _
  ·rename_i hbb
   exact keep (by simpa [V.anyB] using hbb)
 | view b' s' q' zs=>
  simp only [a0h]
  split
  ·exact VR.undef_ _
  ·rename_i hbb
   exact keep (by simpa [V.anyB] using hbb)
 | eptr b' s' q' zs i' o'=>
  simp only [a0h]
  split
  ·exact VR.undef_ _
  ·rename_i hbb
   exact keep (by simpa [V.anyB] using hbb)
 | vptr b' z o'=>
  simp only [a0h]
  split
  ·exact VR.undef_ _
  ·rename_i hbb
   exact keep (by simpa [V.anyB] using hbb)
 | agg _=>cases hleaf
 | tup _=>cases hleaf
 | clo _ _=>cases hleaf
 | _=>exact keep rfl
def g1e (Γ:Ctx)(w:World)(esc:List Nat)(b s:Nat)(ys:List V)(cell:Nat→Option Value):Prop:=
 ∃ T:Nat→Nat→Nat→Prop,(∀ (i:Nat) (x:V) (j:Nat) (u:V) (v:Value),ys[i]? = some x→x.cells[j]? = some u→cell (i * s+j)=some v→Tr w u v (T i j)) ∧
 (∀ i j i' j' m,T i j m→T i' j' m→i=i' ∧ j=j') ∧ ∀ i j m,T i j m→(Γ.has b∧Γ.N b m) ∨ ∃ b1∈esc,Γ.has b1∧Γ.N b1 m
def SrcTr (Γ:Ctx)(w:World)(esc:List Nat)(s:Nat)(ys:List V)(cell:Nat→Option Value):Prop:=
 ∃ T:Nat→Nat→Nat→Prop,(∀ (i:Nat) (x:V) (j:Nat) (u:V) (v:Value),ys[i]? = some x→x.cells[j]? = some u→cell (i * s+j)=some v→Tr w u v (T i j)) ∧
 (∀ i j i' j' m,T i j m→T i' j' m→i=i' ∧ j=j') ∧ ∀ i j m,T i j m → ∃ b1∈esc,Γ.has b1∧Γ.N b1 m
theorem SrcTr.app {esc:List Nat}{b s:Nat}{ys:List V}{cell:Nat→Option Value}(h:SrcTr Γ w esc s ys cell):g1e Γ w esc b s ys cell:=by
 obtain ⟨T,h1,h2,h3⟩:=h
 exact ⟨T,h1,h2,λ i j m hm=>.inr (h3 i j m hm)⟩
theorem Sim.joinTr (hs:Sim Γ st a w)(hU:Γ.U){b s:Nat}{esc:List Nat}{xs ys:List V}{cell1 cell2 cell:Nat→Option Value}(hb:Γ.has b)(hdead:st.dead b=false)(hmv:a0i st.dead esc=true)(hc:esc.contains b=false)
  (h1:∃ T:Nat→Nat→Nat→Prop,(∀ (i:Nat) (x:V) (j:Nat) (u:V) (v:Value),xs[i]? = some x→x.cells[j]? = some u→cell1 (i * s+j)=some v→Tr w u v (T i j)) ∧
   (∀ i j i' j' m,T i j m→T i' j' m→i=i' ∧ j=j') ∧ ∀ i j m,T i j m→Γ.N b m) (h2:SrcTr Γ w esc s ys cell2)
  (e1:∀ i j x,xs[i]? = some x→j < x.cells.length→cell (i * s+j)=cell1 (i * s+j)) (e2:∀ i j y,ys[i]? = some y→j < y.cells.length→cell ((xs.length+i) * s+j)=cell2 (i * s+j)):g1e Γ w esc b s (xs++ys) cell:=by
 obtain ⟨T1,a1,a2,a3⟩:=h1
 obtain ⟨T2,b1,b2,b3⟩:=h2
 have hcross:∀ i j i' j' m,T1 i j m→T2 i' j' m→False:=λ i j i' j' m m1 m2=>by
  obtain ⟨b',q1,q2,q3⟩:=b3 i' j' m m2
  exact hs.nd hU b b' hb q2 hdead (b0v hmv b' q1 (λ e=>hs.good.h9 (e ▸ q2))) (λ e=>by subst e; simp [q1] at hc) m (a3 i j m m1) q3
 refine ⟨λ i j m=>if i < xs.length then T1 i j m else T2 (i - xs.length) j m,λ i x j u v hx hu hv=>?_,λ i j i' j' m m1 m2=>?_,λ i j m hm=>?_⟩
 ·rcases Nat.lt_or_ge i xs.length with hi | hi
  ·rw [List.getElem?_append_left hi] at hx
   simp only [hi,if_true]
   rw [e1 i j x hx (gs_ hu).1] at hv
   exact a1 i x j u v hx hu hv
  ·rw [List.getElem?_append_right hi] at hx
   simp only [Nat.not_lt.2 hi,if_false]
   have:=e2 (i - xs.length) j x hx (gs_ hu).1
   rw [show xs.length+(i - xs.length)=i by omega] at this
   rw [this] at hv
   exact b1 _ x j u v hx hu hv
 ·by_cases c1:i < xs.length
  ·by_cases c2:i' < xs.length
   ·simp only [c1,c2,if_true] at m1 m2
    exact a2 i j i' j' m m1 m2
   ·simp only [c1,c2,if_true,if_false] at m1 m2
    exact (hcross _ _ _ _ m m1 m2).elim
  ·by_cases c2:i' < xs.length
   ·simp only [c1,c2,if_true,if_false] at m1 m2
    exact (hcross _ _ _ _ m m2 m1).elim
   ·simp only [c1,c2,if_false] at m1 m2
    obtain ⟨g1,g2⟩:=b2 _ _ _ _ m m1 m2
    exact ⟨by omega,g2⟩
 ·by_cases c1:i < xs.length
  ·simp only [c1,if_true] at hm
   exact .inl ⟨hb,a3 i j m hm⟩
  ·simp only [c1,if_false] at hm
   exact .inr (b3 _ j m hm)
theorem v0k (hs:Sim Γ st a w){v:V}{x:Value}{s:Nat}{q:Q}{ys:List V}(h:VR Γ w v x)(hq:i0g s v=some (q,ys))(hg:q.good=true)(hU:Γ.U){k o cap:Nat}{news:List Value}(hx:x = .slice (some ⟨k,o,none⟩) ys.length cap)(hl:0 < ys.length)
  (hn2:∀ (p:Nat) (u:Value),news[p]? = some u→w.cell? ⟨k,o+p,none⟩=some u∧u.oneCell' = true) (hn3:∀ y∈ys,y.cells.length=s):SrcTr Γ w (m0m q v) s ys (λ p=>news[p]?):=by
 obtain ⟨gg,T,t1,t2,t3,t4⟩:=r1m hs h hq hg hU k o cap hx hl
 refine ⟨T,λ i x j u v hx hu hv=>?_,t3,t4⟩
 obtain ⟨z,z1,z2⟩:=p1k hn3 t1 t2 hx hu
 have:=(hn2 _ v hv).1
 rw [← Nat.add_assoc,z1] at this
 injection this with this
 rw [← this]
 exact z2
theorem Sim.regrow {b s:Nat}{q:Q}{ys:List V}{cs:Array Value}{e:TypeId}{n:Nat}{esc:List Nat}(hs:Sim Γ st a w)(hdead:st.dead b=false)(h9:b ≠ 999)
    (hl:ys.length≤n) (hn:n * s≤cs.size) (hm:n≤maxLen) (hr:NewRows Γ w Γ.S s q ys cs) (hT:q.good=true→Γ.U→a0i st.dead esc=true→esc.contains b=false→g1e Γ w esc b s ys (λ p=>cs[p]?)) :
    Sims Γ ((({ st.sweep (a0h b) with t:=(st.sweep (a0h b)).t.set d (.own b s q ys) }:St).kill esc).mark (!a0i st.dead esc || esc.contains b)) (a.put (some d) (.slice (some ⟨w.heap.size,0,none⟩) ys.length n)) (w.alloc (.cells cs e)):=by
  let Γ':Ctx:={ Γ with has:=λ b'=>Γ.has b' ∨ b' = b,blk:=λ b'=>if b' = b then w.heap.size else Γ.blk b',
                       off:=λ b'=>if b' = b then 0 else Γ.off b',cap:=λ b'=>if b' = b then n else Γ.cap b',sz:=λ b'=>if b' = b then s else Γ.sz b',ln:=λ b'=>if b' = b then ys.length else Γ.ln b',Z:=λ k=>Γ.Z k∨k=w.heap.size,
                       N:=λ b' m=>if b' = b then (Γ.has b∧Γ.N b m) ∨ ∃ b1∈esc,Γ.has b1∧Γ.N b1 m else Γ.N b' m,U:=Γ.U∧a0i st.dead esc=true∧esc.contains b=false }
  have g:=hs.good
  have hN0:∀ m,Γ'.N b m→(Γ.has b∧Γ.N b m) ∨ ∃ b1∈esc,Γ.has b1∧Γ.N b1 m:=λ m h=>by simpa [Γ'] using h
  have hN1:∀ b' m,b' ≠ b→Γ'.N b' m→Γ.N b' m:=λ b' m hb h=>by simpa [Γ',hb] using h
  have hN2:∀ b' m,b' ≠ b→Γ.N b' m→Γ'.N b' m:=λ b' m hb h=>by simpa [Γ',hb] using h
  have hNZ:∀ m,((Γ.has b∧Γ.N b m) ∨ ∃ b1∈esc,Γ.has b1∧Γ.N b1 m)→Γ.S m∧Γ.Z m:=λ m h=>by
    rcases h with h | ⟨b1,_,h2,h3⟩
    · exact g.ns b h.1 m h.2
    · exact g.ns b1 h2 m h3
  have hNS:=λ m h=>(hNZ m h).1
  have hsz:=size_alloc w (.cells cs e)
  have hcell:∀ k,k < w.heap.size → ∀ o,(w.alloc (.cells cs e)).cell? ⟨k,o,none⟩=w.cell? ⟨k,o,none⟩:=λ k hk o=>cell?_of_heap (a0c w _ hk) o
  have e1:Γ'.blk b=w.heap.size:=if_pos rfl
  have e2:Γ'.off b=0:=if_pos rfl
  have e3:Γ'.cap b=n:=if_pos rfl
  have e4:Γ'.sz b=s:=if_pos rfl
  have hgood:Good Γ' (w.alloc (.cells cs e)):=by
    refine ⟨g.os,g.tape,g.output,Nat.le_trans g.size (by rw [hsz]; omega),λ k hk hF=>?_,g.new,λ k hk=>?_,λ b' hb=>?_,λ b1 b2 hb hb' he=>?_,λ k hk=>?_,g.boxInj,λ b' k hb hk=>?_,g.sr,g.gl,λ b' hb=>?bz,λ k hk=>?zf,λ b' hb m hm=>?ns,λ h=>?h9⟩
    case h9=>exact h.elim g.h9 (λ h=>h9 h.symm)
    case ns=>
      by_cases h0:b' = b
      · subst h0
        exact ⟨hNS m (hN0 m hm),.inl (hNZ m (hN0 m hm)).2⟩
      · have:=g.ns b' (hb.resolve_right h0) m (hN1 b' m h0 hm)
        exact ⟨this.1,.inl this.2⟩
    case bz=>
      show Γ.Z (if b' = b then _ else _)∨(if b' = b then _ else _)=_
      by_cases h0:b' = b
      · rw [if_pos h0]; exact .inr rfl
      · rw [if_neg h0]; exact .inl (g.bz b' (hb.resolve_right h0))
    case zf=>
      rcases hk with hk | hk
      · obtain ⟨z1,z2,cur,e',h⟩:=g.zf k hk
        exact ⟨z1,by rw [hsz]; omega,cur,e',(a0c w _ z2).trans h⟩
      · subst hk
        exact ⟨.inl (g.new _ g.size),by rw [hsz]; omega,cs,e,b0y w _⟩
    · exact (a0c w _ (Nat.lt_of_lt_of_le hk g.size)).trans (g.old k hk hF)
    · have:=g.slt k hk; rw [hsz]; omega
    · show Γ.F (if b' = b then _ else _)∧(if b' = b then _ else _) < _∧(if b' = b then _ else _)≤_ ∧ ∃ cur e',(w.alloc (.cells cs e)).heap[if b' = b then w.heap.size else Γ.blk b']? = some (.cells cur e' (0,0))∧(if b' = b then 0 else Γ.off b')+(if b' = b then n else Γ.cap b') * (if b' = b then s else Γ.sz b')≤cur.size
      by_cases h0:b' = b
      · simp only [if_pos h0]
        exact ⟨g.new _ g.size,by rw [hsz]; omega,hm,cs,e,b0y w _,by omega⟩
      · rcases hb with hb | hb
        · obtain ⟨h1,h2,h3,cur,e',h4,h5⟩:=g.base b' hb
          simp only [if_neg h0]
          exact ⟨h1,by rw [hsz]; omega,h3,cur,e',(a0c w _ h2).trans h4,h5⟩
        · exact absurd hb h0
    · change (if b1=b then w.heap.size else Γ.blk b1)=(if b2=b then w.heap.size else Γ.blk b2) at he
      by_cases h1:b1=b
      · by_cases h2:b2=b
        · rw [h1,h2]
        · rcases hb' with hb' | hb'
          · rw [if_pos h1,if_neg h2] at he
            have:=(g.base b2 hb').2.1; omega
          · exact absurd hb' h2
      · rcases hb with hb | hb
        · by_cases h2:b2=b
          · rw [if_neg h1,if_pos h2] at he
            have:=(g.base b1 hb).2.1; omega
          · rcases hb' with hb' | hb'
            · rw [if_neg h1,if_neg h2] at he
              exact g.baseInj b1 b2 hb hb' he
            · exact absurd hb' h2
        · exact absurd hb h1
    · obtain ⟨h1,h2,h3⟩:=g.box k hk
      exact ⟨h1,h2,Nat.lt_of_lt_of_le h3 (by rw [hsz]; omega)⟩
    · show (if b' = b then w.heap.size else Γ.blk b') ≠ Γ.box k
      by_cases h1:b' = b
      · rw [if_pos h1]; have:=(g.box k hk).2.2; omega
      · rcases hb with hb | hb
        · rw [if_neg h1]; exact g.baseBox b' k hb hk
        · exact absurd hb h1
  have hv:VR Γ' (w.alloc (.cells cs e)) (.own b s q ys) (.slice (some ⟨w.heap.size,0,none⟩) ys.length n):=by
    obtain ⟨r1,r2⟩:=hr
    have:=VR.own (Γ:=Γ') (w:=w.alloc (.cells cs e)) b s q ys (.inr rfl) e4.symm (by rw [e3]; exact ⟨hl,(if_pos rfl).symm⟩) ?_ (λ hqf x hx u hu=>?_) ?uq
    · rwa [e1,e2,e3] at this
    case uq=>
      rintro hqc ⟨hU,hmv,hcb⟩
      obtain ⟨T,t1,t2,t3⟩:=hT (by rw [hqc]; rfl) hU hmv hcb
      rw [e1,e2]
      refine r0b r1 T (λ i x j u hx hu=>?_) t2 (λ i j m hm=>⟨?_,hNS m (t3 i j m hm)⟩)
      · obtain ⟨v,h1,_⟩:=r2 i x j u hx hu
        refine ⟨v,?_,(t1 i x j u v hx hu h1).mono (λ k hk=>hcell k (g.slt k (hNS k (t3 i j k hk))))⟩
        rw [h0i (b0y w (.cells cs e)),Nat.zero_add]
        exact h1
      · show if b=b then _ else _
        rw [if_pos rfl]
        exact t3 i j m hm
    · rw [e1,e2]
      refine a1l r1 (λ i x j u hx hu=>?_)
      obtain ⟨v,h1,h2,h3,h4,h5⟩:=r2 i x j u hx hu
      refine ⟨v,?_,h2,o0r (S':=Γ.S) (q:=q) h3 h4 (λ _ h=>h) (λ _ h=>.inl h) (λ h=>h) (λ k hk=>hcell k (g.slt k hk))⟩
      rw [h0i (b0y w (.cells cs e)),Nat.zero_add]
      exact h1
    · obtain ⟨i,hi⟩:=List.getElem?_of_mem hx
      obtain ⟨j,hj⟩:=List.getElem?_of_mem hu
      obtain ⟨v,_,_,_,_,h5⟩:=r2 i x j u hi hj
      exact h5 hqf
  have hsim:Sim Γ' { st.sweep (a0h b) with dead:=λ b'=>esc.contains b' || st.dead b',dup:=(!a0i st.dead esc || esc.contains b) || st.dup } a (w.alloc (.cells cs e)):=by
    refine Sim.sweep (f:=a0h b) (dead:=λ b'=>esc.contains b' || st.dead b') (dup:=(!a0i st.dead esc || esc.contains b) || st.dup) hs (g0f (λ u y hu hp=>?_)) (d0k b) hgood (λ _ h=>h) (λ _=>rfl) (λ k hk=>a0c w _ (g.box k hk).2.2) (λ b' hb hdd=>?_) (λ h=>?_) ?_
    · refine VR.mono (Γ:=Γ) (Γ':=Γ') (w:=w) (w':=w.alloc (.cells cs e)) (p:=λ b'=>b' == b) (r:=λ _=>false) (λ h=>h.1) (λ _ h=>h) (λ _ h=>.inl h) (λ k hk=>hcell k (g.slt k hk)) (λ b' hb'=>?_) (λ _ _=>⟨λ h=>h,rfl⟩) hu hp (a0z _)
      have hb':b' ≠ b:=by simpa using hb'
      exact ⟨⟨λ h=>h.resolve_right hb',λ h=>.inl h⟩,λ hh=>⟨if_neg hb',if_neg hb',if_neg hb',if_neg hb',if_neg hb',λ m hm=>hN2 b' m hb' hm,hcell _ (g.base b' hh).2.1⟩⟩
    · show ¬ Γ.S (if b' = b then w.heap.size else Γ.blk b')
      by_cases h1:b' = b
      · rw [if_pos h1]
        intro h
        have:=g.slt _ h
        omega
      · rw [if_neg h1]
        simp only [Bool.or_eq_false_iff] at hdd
        exact hs.nds b' (hb.resolve_right h1) hdd.2
    · simp only [Bool.or_eq_false_iff,Bool.not_eq_false'] at h
      exact ⟨hs.du h.2,h.1.1,h.1.2⟩
    · rintro ⟨hU,hmv,hcb⟩ b1 b2 k1 k2 d1 d2 hne m m1 m2
      simp only [Bool.or_eq_false_iff] at d1 d2
      have aux:∀ b2,Γ'.has b2→esc.contains b2=false→st.dead b2=false→b2 ≠ b→Γ'.N b m→Γ'.N b2 m→False:=λ b2 k2 c2 d2 hne m1 m2=>by
        have m2:=hN1 b2 m hne m2
        have k2:=k2.resolve_right hne
        rcases hN0 m m1 with ⟨h0,m1⟩ | ⟨b3,j1,j2,j3⟩
        · exact hs.nd hU b b2 h0 k2 hdead d2 hne.symm m m1 m2
        · exact hs.nd hU b3 b2 j2 k2 (b0v hmv b3 j1 (λ e=>g.h9 (e ▸ j2))) d2 (λ e=>by subst e; simp [j1] at c2) m j3 m2
      by_cases e1:b1=b
      · subst e1
        exact aux b2 k2 d2.1 d2.2 hne.symm m1 m2
      · by_cases e2:b2=b
        · subst e2
          exact aux b1 k1 d1.1 d1.2 hne m2 m1
        · exact hs.nd hU b1 b2 (k1.resolve_right e1) (k2.resolve_right e2) d1.2 d2.2 hne m (hN1 b1 m e1 m1) (hN1 b2 m e2 m2)
  exact ⟨Γ',⟨rfl,rfl,rfl,rfl,rfl,λ _ _=>rfl⟩,hsim.put hv⟩
theorem Sim.roomy {b s:Nat}{q q':Q}{xs ys:List V}{cur:Array Value}{e:TypeId}{news:List Value}{esc:List Nat}(hs:Sim Γ st a w)(hb:Γ.has b)(hdead:st.dead b=false)(hsz:s=Γ.sz b)
  (hrow:Rows w (Γ.Sq q) s xs (Γ.blk b) (Γ.off b)) (hq:flatOk q xs) (hcur:w.heap[Γ.blk b]? = some (.cells cur e (0,0))) (hn1:news.length=ys.length * s) (hcap:xs.length+ys.length≤Γ.cap b)
  (hn2:∀ (p:Nat) (u:Value),news[p]? = some u→u.oneCell' = true) (hn3:∀ y∈ys,y.cells.length=s)
  (hn4:∀ (i:Nat) (y:V) (j:Nat) (u:V),ys[i]? = some y→y.cells[j]? = some u → ∃ z,news[i * s+j]? = some z∧z.oneCell' = true∧Rd w Γ.S u z∧(q'.good=true→Rd w (λ k=>Γ.S k∧Γ.Z k) u z)∧(q' = .flat→r0o u))
  (hu:Γ.Uq w q b s xs (Γ.blk b) (Γ.off b)) (hT:q'.good=true→Γ.U→SrcTr Γ w esc s ys (λ p=>news[p]?)) :
  Γ.off b+xs.length * s+news.length≤cur.size ∧
  Sims Γ ((({ st.sweep (a0h b) with t:=(st.sweep (a0h b)).t.set d (.own b s (q.join q') (xs++ys)) }:St).kill esc).mark (!a0i st.dead esc || esc.contains b)) (a.put (some d) (.slice (some ⟨Γ.blk b,Γ.off b,none⟩) (xs.length+ys.length) (Γ.cap b)))
   (w.setRow (Γ.blk b) (cur.toList.take (Γ.off b+xs.length * s)++news++cur.toList.drop (Γ.off b+xs.length * s+news.length)).toArray):=by
 have g:=hs.good
 have hS:=hs.nds b hb hdead
 obtain ⟨gF,glt,gm,cur',e',hcur',hfit⟩:=g.base b hb
 rw [hcur] at hcur'
 simp only [sj_,Obj.cells.injEq] at hcur'
 obtain ⟨rfl,rfl,_⟩:=hcur'
 have hmul:=j1n (s:=s) hcap
 rw [Nat.add_mul] at hmul
 have hfit1:Γ.off b+xs.length * s+news.length≤cur.size:=by rw [← hsz] at hfit; omega
 refine ⟨hfit1,?_⟩
 have hfit2:Γ.off b+xs.length * s+news.length≤cur.toList.length:=by simpa using hfit1
 have hget:=λ j=>a1s cur.toList news (Γ.off b+xs.length * s) j hfit2
 have hsl:=a1u cur.toList news (Γ.off b+xs.length * s) hfit2
 simp only [Array.length_toList] at hsl
 let Γ':Ctx:={ Γ with S:=g0x Γ [],ln:=λ b'=>if b' = b then xs.length+ys.length else Γ.ln b',N:=λ b' m=>if b' = b then Γ.N b m ∨ ∃ b1∈esc,Γ.has b1∧Γ.N b1 m else Γ.N b' m,U:=Γ.U∧a0i st.dead esc=true∧esc.contains b=false }
 have hN0:∀ m,Γ'.N b m→Γ.N b m ∨ ∃ b1∈esc,Γ.has b1∧Γ.N b1 m:=λ m h=>by simpa [Γ'] using h
 have hN1:∀ b' m,b' ≠ b→Γ'.N b' m→Γ.N b' m:=λ b' m hb h=>by simpa [Γ',hb] using h
 have hN2:∀ b' m,b' ≠ b→Γ.N b' m→Γ'.N b' m:=λ b' m hb h=>by simpa [Γ',hb] using h
 have hNZ:∀ m,(Γ.N b m ∨ ∃ b1∈esc,Γ.has b1∧Γ.N b1 m)→Γ.S m∧Γ.Z m:=λ m h=>by
  rcases h with h | ⟨b1,_,h2,h3⟩
  ·exact g.ns b hb m h
  ·exact g.ns b1 h2 m h3
 have hNS:=λ m h=>(hNZ m h).1
 let cs':=(cur.toList.take (Γ.off b+xs.length * s)++news++cur.toList.drop (Γ.off b+xs.length * s+news.length)).toArray
 have hgood:Good Γ' (w.setRow (Γ.blk b) cs'):=by
  have g':Good { Γ with S:=g0x Γ [],N:=Γ'.N,U:=Γ'.U } (w.setRow (Γ.blk b) cs'):=g.write hb hcur hsl (λ b' hb' m hm=>by
   by_cases hbb:b' = b
   ·subst hbb
    exact ⟨.inl (hNS m (hN0 m hm)),(hNZ m (hN0 m hm)).2⟩
   ·have:=g.ns b' hb' m (hN1 b' m hbb hm)
    exact ⟨.inl this.1,this.2⟩)
  exact ⟨g'.os,g'.tape,g'.output,g'.size,g'.old,g'.new,g'.slt,g'.base,g'.baseInj,g'.box,g'.boxInj,g'.baseBox,g'.sr,g'.gl,g'.bz,g'.zf,g'.ns,g'.h9⟩
 have hSn:¬ g0x Γ [] (Γ.blk b):=h0c g hb hS rfl
 have hsame:∀ k',Γ.S k' → ∀ o',(w.setRow (Γ.blk b) cs').cell? ⟨k',o',none⟩=w.cell? ⟨k',o',none⟩:=λ k' hk'=>cell?_of_heap (setRow_other w _ k' cs' (λ e=>hS (e ▸ hk')))
 have hheap:(w.setRow (Γ.blk b) cs').heap[Γ.blk b]? = some (.cells cs' e (0,0)):=setRow_heap w _ cur cs' e _ hcur
 have hcell:∀ j,(w.setRow (Γ.blk b) cs').cell? ⟨Γ.blk b,j,none⟩=if Γ.off b+xs.length * s≤j∧j < Γ.off b+xs.length * s+news.length then news[j - (Γ.off b+xs.length * s)]? else cur[j]?:=by
  intro j
  rw [h0i hheap]
  show (List.toArray _)[j]? = _
  rw [List.getElem?_toArray,hget]
  simp
 have hrows:Rows (w.setRow (Γ.blk b) cs') (Γ'.Sq (q.join q')) s (xs++ys) (Γ.blk b) (Γ.off b):=by
  refine a1l (λ r hr=>?_) (λ i r j u hr hu=>?_)
  ·rcases List.mem_append.1 hr with hr | hr
   ·exact hrow.1 r hr
   ·exact hn3 r hr
  ·rcases Nat.lt_or_ge i xs.length with hi | hi
   ·rw [List.getElem?_append_left hi] at hr
    obtain ⟨_,hj,z,e1,e2,e3⟩:=hrow.at_ hr hu
    have:=o0c hi hj
    refine ⟨z,?_,e2,?_⟩
    ·rw [hcell,if_neg (by omega),← h0i hcur]
     exact e1
    ·obtain ⟨f1,f2⟩:=s1k e3
     exact o0r (S':=Γ.S) (q:=q) f1 f2 (λ _ h=>.inl h) (λ _ h=>h) (λ h=>(b0d h).1) hsame
   ·rw [List.getElem?_append_right hi] at hr
    obtain ⟨z,z1,z2,z3,z4,z5⟩:=hn4 _ _ _ _ hr hu
    have hlt:=(gs_ z1).1
    have hidx:i * s=xs.length * s+(i - xs.length) * s:=by rw [← Nat.add_mul]; congr 1; omega
    refine ⟨z,?_,z2,o0r (S':=Γ.S) (q:=q') z3 z4 (λ _ h=>.inl h) (λ _ h=>h) (λ h=>(b0d h).2) hsame⟩
    rw [hcell,if_pos (by omega),← z1]
    congr 1
    omega
 have hflat:flatOk (q.join q') (xs++ys):=by
  intro hqf r hr u hu
  obtain ⟨j1,j2⟩:=d0r hqf
  rcases List.mem_append.1 hr with hr | hr
  ·exact hq j1 r hr u hu
  ·obtain ⟨i,hi⟩:=List.getElem?_of_mem hr
   obtain ⟨j,hj⟩:=List.getElem?_of_mem hu
   obtain ⟨z,_,_,_,_,z5⟩:=hn4 i r j u hi hj
   exact z5 j2
 have huq:Γ'.Uq (w.setRow (Γ.blk b) cs') (q.join q') b s (xs++ys) (Γ.blk b) (Γ.off b):=by
  rintro hqc ⟨hU,hmv,hcb⟩
  have hgd:(q.join q').good=true:=by rw [hqc]; rfl
  obtain ⟨gg,T1,t1,t2,t3,t4⟩:=d1h hu hrow hq (b0d hgd).1 hU
  obtain ⟨T,j1,j2,j3⟩:=hs.joinTr hU (xs:=xs) (ys:=ys) (cell1:=λ p=>w.cell? ⟨Γ.blk b,Γ.off b+p,none⟩) (cell2:=λ p=>news[p]?) (cell:=λ p=>(w.setRow (Γ.blk b) cs').cell? ⟨Γ.blk b,Γ.off b+p,none⟩) hb hdead hmv hcb
   ⟨T1,λ i x j u v hx hu hv=>by
    obtain ⟨z,z1,z2⟩:=p1k hrow.1 t1 t2 hx hu
    rw [Nat.add_assoc] at z1
    change w.cell? ⟨Γ.blk b,Γ.off b+(i * s+j),none⟩=some v at hv
    rw [z1] at hv
    injection hv with hv
    rw [← hv]
    exact z2,t3,λ i j m hm=>(t4 i j m hm).1⟩ (hT (b0d hgd).2 hU) (λ i j x hx hj=>by
    have hi:=(gs_ hx).1
    rw [hrow.1 x (a0a hx)] at hj
    have:=o0c hi hj
    show (w.setRow (Γ.blk b) cs').cell? ⟨Γ.blk b,Γ.off b+(i * s+j),none⟩=w.cell? ⟨Γ.blk b,Γ.off b+(i * s+j),none⟩
    rw [hcell,if_neg (by omega),← h0i hcur]) (λ i j y hy hj=>by
    have hi:=(gs_ hy).1
    rw [hn3 y (a0a hy)] at hj
    have:=o0c hi hj
    show (w.setRow (Γ.blk b) cs').cell? ⟨Γ.blk b,Γ.off b+((xs.length+i) * s+j),none⟩=news[i * s+j]?
    rw [Nat.add_mul]
    rw [hcell,if_pos (by omega)]
    congr 1
    omega)
  have hin:∀ i j m,T i j m→Γ.N b m ∨ ∃ b1∈esc,Γ.has b1∧Γ.N b1 m:=λ i j m hm=>(j3 i j m hm).imp (λ h=>h.2) (λ h=>h)
  refine r0b hrows.1 T (λ i x j u hx hu=>?_) j2 (λ i j m hm=>⟨?_,.inl (hNS m (hin i j m hm))⟩)
  ·obtain ⟨_,_,z,z1,_,_⟩:=hrows.at_ hx hu
   refine ⟨z,z1,(j1 i x j u z hx hu (by rw [Nat.add_assoc] at z1; exact z1)).mono (λ k' hk'=>hsame k' (hNS k' (hin i j k' hk')))⟩
  ·show if b=b then _ else _
   rw [if_pos rfl]
   exact hin i j m hm
 have hv:=VR.own (Γ:=Γ') (w:=w.setRow (Γ.blk b) cs') b s (q.join q') (xs++ys) hb hsz (by rw [List.length_append]; exact ⟨hcap,(if_pos rfl).symm⟩) hrows hflat huq
 rw [List.length_append] at hv
 have hsim:Sim Γ' { st.sweep (a0h b) with dead:=λ b'=>esc.contains b' || st.dead b',dup:=(!a0i st.dead esc || esc.contains b) || st.dup } a (w.setRow (Γ.blk b) cs'):=by
  refine Sim.sweep (f:=a0h b) (dead:=λ b'=>esc.contains b' || st.dead b') (dup:=(!a0i st.dead esc || esc.contains b) || st.dup) hs (g0f (λ u y hu hp=>hu.write g hb hS hp (λ b' hb'=>if_neg hb') (λ h=>h.1) (λ b' hb' m hm=>hN2 b' m hb' hm))) (d0k b) hgood (λ _ h=>h) (λ _=>rfl) (λ k' hk'=>setRow_other w _ _ cs' (λ e=>g.baseBox b k' hb hk' e.symm)) (λ b' hb' hdd=>?_) (λ h=>?_) ?_
  ·simp only [Bool.or_eq_false_iff] at hdd
   exact h0c g hb' (hs.nds b' hb' hdd.2) rfl
  ·simp only [Bool.or_eq_false_iff,Bool.not_eq_false'] at h
   exact ⟨hs.du h.2,h.1.1,h.1.2⟩
  ·rintro ⟨hU,hmv,hcb⟩ b1 b2 k1 k2 d1 d2 hne m m1 m2
   simp only [Bool.or_eq_false_iff] at d1 d2
   have aux:∀ b2,Γ.has b2→esc.contains b2=false→st.dead b2=false→b2 ≠ b→Γ'.N b m→Γ'.N b2 m→False:=λ b2 k2 c2 d2 hne m1 m2=>by
    have m2:=hN1 b2 m hne m2
    rcases hN0 m m1 with m1 | ⟨b3,j1,j2,j3⟩
    ·exact hs.nd hU b b2 hb k2 hdead d2 hne.symm m m1 m2
    ·exact hs.nd hU b3 b2 j2 k2 (b0v hmv b3 j1 (λ e=>g.h9 (e ▸ j2))) d2 (λ e=>by subst e; simp [j1] at c2) m j3 m2
   by_cases e1:b1=b
   ·subst e1
    exact aux b2 k2 d2.1 d2.2 hne.symm m1 m2
   ·by_cases e2:b2=b
    ·subst e2
     exact aux b1 k1 d1.1 d1.2 hne m2 m1
    ·exact hs.nd hU b1 b2 k1 k2 d1.2 d2.2 hne m (hN1 b1 m e1 m1) (hN1 b2 m e2 m2)
 exact ⟨Γ',⟨rfl,rfl,rfl,rfl,rfl,λ _ _=>rfl⟩,hsim.put hv⟩
theorem Sim.same {b s:Nat}{q:Q}{xs:List V}{x:Value}{esc:List Nat}(hs:Sim Γ st a w)(hv:VR Γ w (.own b s q xs) x) :
  Sims Γ ((({ st.sweep (a0h b) with t:=(st.sweep (a0h b)).t.set d (.own b s q xs) }:St).kill esc).mark (!a0i st.dead esc || esc.contains b)) (a.put (some d) x) w:=by
 have hsim:Sim Γ { st.sweep (a0h b) with dead:=λ b'=>esc.contains b' || st.dead b',dup:=(!a0i st.dead esc || esc.contains b) || st.dup } a w:=
  Sim.sweep (f:=a0h b) (dead:=λ b'=>esc.contains b' || st.dead b') (dup:=(!a0i st.dead esc || esc.contains b) || st.dup) hs (g0f (λ u y hu _=>hu)) (d0k b) hs.good (λ _ h=>h) (λ _=>rfl) (λ k' hk'=>rfl) (λ b' hb' hdd=>by
   simp only [Bool.or_eq_false_iff] at hdd
   exact hs.nds b' hb' hdd.2) (λ h=>by
   simp only [Bool.or_eq_false_iff] at h
   exact hs.du h.2) (λ hU b1 b2 k1 k2 d1 d2=>by
   simp only [Bool.or_eq_false_iff] at d1 d2
   exact hs.nd hU b1 b2 k1 k2 d1.2 d2.2)
 exact ⟨Γ,⟨rfl,rfl,rfl,rfl,rfl,λ _ _=>rfl⟩,hsim.put hv⟩
theorem b2p {b s:Nat}{q q':Q}{xs:List V}{x:Value}(hv:VR Γ w (.own b s q xs) x)(hq:q' = q.join q ∨ ∃ p,q' = q.join p):VR Γ w (.own b s q' xs) x:=by
  have hg:q'.good=true→q.good=true:=by
    rcases hq with rfl | ⟨p,rfl⟩
    · exact λ h=>(b0d h).1
    · exact λ h=>(b0d h).1
  have hf:q' = .flat→q = .flat:=by
    rcases hq with rfl | ⟨p,rfl⟩
    · exact λ h=>(d0r h).1
    · exact λ h=>(d0r h).1
  have hu:=hv.own_uq
  rcases hv.own_inv with ⟨rfl,rfl,h3⟩ | ⟨rfl,h1,h2,h3,h4,h5⟩
  · exact .ownNil _ _ _ h3
  · refine .own _ _ _ _ h1 h2 h3 (h4.mono (λ k hk=>?_) (λ _ _ _=>rfl) (λ _ _ _=>rfl)) (λ e=>h5 (hf e)) (λ hq hU=>d1h hu h4 h5 (hg (by rw [hq]; rfl)) hU)
    cases hq'':q' with
    | any=>exact p0b hk
    | flat=>have:=hg (by rw [hq'']; rfl)
            cases q <;> first | exact hk | cases this
    | clean=>have:=hg (by rw [hq'']; rfl)
             cases q <;> first | exact hk | cases this
theorem q0x (hA:b0l P c)(hs:Sim Γ st a w){o:Oper}{args:Array Operand}{ts:Array TypeId}{st':St}(ho:o.op = .call ⟨.builtin .append,args,ts⟩)(h:b0b c st o.dst o.op=some st') :
  ∃ x w',(execOp a.eval o).run P w = .ok (.value x) w' ∧ Sims Γ st' (a.put o.dst x) w':=by
 rw [ho] at h
 simp only [b0b] at h
 split at h
 ·rename_i x y t t' d hx ht2 hd
  obtain rfl:=w1i hx
  obtain rfl:=w1i ht2
  split at h
  ·rename_i e sz by_ z0 cm nz_ qz_ ht
   split at h
   ·rename_i i b s q xs hi hxv
    split at h
    ·rename_i q' ys hsrc
     split at h
     ·rename_i hc
      obtain ⟨rfl,rfl,hne,hdead,hb1,hb2,hb9⟩:=hc
      simp only [sj_] at h
      subst h
      obtain ⟨tt,at_⟩:=hA _ _ ht
      obtain ⟨ti,ai⟩:=hA _ _ hi
      obtain ⟨z,hz,hz1,hz2,hz3,hz4⟩:=ai.zero
      have hzs:z.cells.size=i.size:=by rw [← ai.zsz,← hz2]; simp
      have hxr:=hs.ev x
      rw [hxv] at hxr
      have hmax:xs.length+ys.length≤maxLen:=by unfold maxLen; omega
      rcases k1r hs.good (hs.ev y) hsrc with ⟨rfl,ad,cap,ey⟩ | ⟨k,o',cap,news,ey,hl,hn1,hn2,hn3,hn4⟩
      ·have hfc:(Builtin.firstCells ti.size 0 (.slice ad 0 cap)).run P w = .ok #[] w:=by
        cases ad with
        | none=>exact run_firstCells_none _ _ _ _ _
        | some b=>exact run_firstCells_some w ti.size 0 b 0 cap [] (by simp) (λ j v h=>by simp at h)
       have hsim:=hs.same (d:=d) (esc:=m0m q' (ev st.t y)) (b2p hxr (.inr ⟨q',rfl⟩))
       rw [List.append_nil]
       refine ⟨_,w,?_,by rw [hd]; exact hsim⟩
       rcases hxr.own_inv with ⟨ex,rfl,_⟩ | ⟨ex,h1,h2,h3,h4,h5⟩
       ·simp [execOp,ho,ex,ey,resolve,invoke,builtin,Builtin.append_,run_underlying (at_.slice e rfl),sizeOf,typeInfo,ai.info,hz,zeroValue,Builtin.lenOf,hfc]
       ·simp [execOp,ho,ex,ey,resolve,invoke,builtin,Builtin.append_,run_underlying (at_.slice e rfl),sizeOf,typeInfo,ai.info,hz,zeroValue,Builtin.lenOf,hfc,h3.1,storeCells]
      ·have hadd:∀ k o' n,(⟨k,o',none⟩:Addr).add n=⟨k,o' + n,none⟩:=by intro k o' n; simp [Addr.add]
       have hsl:∀ (j:Nat) (v:Value),news[j]? = some v→w.cell? ((⟨k,o',none⟩:Addr).add j)=some v:=λ j v hv=>by rw [hadd]; exact (hn2 j v hv).1
       rcases hxr.own_inv with ⟨ex,rfl,hnb⟩ | ⟨ex,h1,h2,h3,h4,h5⟩
       ·have hr:=run_append_nil (P:=P) w t' o.type e ti z (at_.slice e rfl) ai.info hz ⟨k,o',none⟩ ys.length cap news (by rw [ai.size]; exact hn1) hsl hl (by omega) (by rw [ai.bytes]; simp only [List.length_nil,Nat.zero_add] at hb1; omega)
        have hge:=grownCap_ge w ys.length 0 e
        have hle:=grownCap_le_maxLen w ys.length 0 e (by unfold maxLen; omega)
        have hsz:(news.toArray++Builtin.zeroCells z.cells (grownCap w ys.length 0 e - ys.length)).size=grownCap w ys.length 0 e * i.size:=by
         rw [Array.size_append,size_zeroCells,List.size_toArray,hn1,← hzs,← Nat.add_mul]
         congr 1
         omega
        have hrows:NewRows Γ w.drew Γ.S i.size (q.join q') ys (news.toArray++Builtin.zeroCells z.cells (grownCap w ys.length 0 e - ys.length)):=by
         refine ⟨hn3,λ ii x jj u hx hu=>?_⟩
         obtain ⟨zz,h1,h2,h3,h4,h5⟩:=hn4 ii x jj u hx hu
         have hlt:=(gs_ h1).1
         have hrm:∀ {S1:Nat→Prop} {u:V} {v:Value},Rd w S1 u v→Rd w.drew S1 u v:=λ h=>Rd.mono (w:=w) (w':=w.drew) (λ _ h=>h) (λ _ _ _=>rfl) h
         refine ⟨zz,?_,h2,hrm h3,λ hg=>hrm (h4 (b0d hg).2),λ hf=>h5 (d0r hf).2⟩
         rw [Array.getElem?_append_left (by simpa using hlt)]
         simpa using h1
        have htr:(q.join q').good=true→Γ.U→a0i st.dead (m0m q' (ev st.t y))=true→(m0m q' (ev st.t y)).contains b=false→g1e Γ w.drew (m0m q' (ev st.t y)) b i.size ys (λ p=>(news.toArray++Builtin.zeroCells z.cells (grownCap w ys.length 0 e - ys.length))[p]?):=λ hq hU _ _=>by
         obtain ⟨T,t1,t2,t3⟩:=v0k hs (hs.ev y) hsrc (b0d hq).2 hU ey hl hn2 hn3
         refine ⟨T,λ ii x jj u v hx hu hv=>?_,t2,λ i j m hm=>.inr (t3 i j m hm)⟩
         obtain ⟨zz,h1,_⟩:=hn4 ii x jj u hx hu
         have hlt:=(gs_ h1).1
         simp only at hv
         rw [Array.getElem?_append_left (by simpa using hlt),List.getElem?_toArray] at hv
         exact (t1 ii x jj u v hx hu hv).mono (λ _ _ _=>rfl)
        have hsim:=Sim.regrow (d:=d) (b:=b) (e:=e) (n:=grownCap w ys.length 0 e) (esc:=m0m q' (ev st.t y)) hs.drew hdead hb9 hge (Nat.le_of_eq hsz.symm) hle hrows htr
        refine ⟨_,_,?_,by rw [hd]; exact hsim⟩
        simp [execOp,ho,ex,ey,resolve,invoke,builtin,hr]
       ·obtain ⟨gF,glt,gm,cur,e0,hcur,hfit⟩:=hs.good.base b h1
        by_cases hroom:xs.length+ys.length≤Γ.cap b
        ·obtain ⟨r1,r2⟩:=Sim.roomy (d:=d) (q':=q') (esc:=m0m q' (ev st.t y)) hs h1 hdead h2 h4 h5 hcur hn1 hroom (λ p u hu=>(hn2 p u hu).2) hn3 hn4 hxr.own_uq (λ hg hU=>v0k hs (hs.ev y) hsrc hg hU ey hl hn2 hn3)
         refine ⟨_,_,?_,by rw [hd]; exact r2⟩
         have hf:=run_firstCells_some (P:=P) w ti.size ys.length ⟨k,o',none⟩ ys.length cap news (by rw [ai.size]; exact hn1) hsl
         have hst:=run_storeCells_at P (Γ.blk b) (Γ.off b+xs.length * i.size) e0 news 0 cur w hcur (by simpa using r1) (λ v hv=>by obtain ⟨j,hj⟩:=List.getElem?_of_mem hv; exact (hn2 j v hj).2)
         simp only [Nat.add_zero] at hst
         rw [ai.size] at hf
         simp [execOp,ho,ex,ey,resolve,invoke,builtin,Builtin.append_,run_underlying (at_.slice e rfl),sizeOf,typeInfo,ai.info,Builtin.lenOf,hroom,hf,hadd,ai.size,hst]
        ·have hr1:=h4.1
         obtain ⟨gg,hg1,hg2⟩:=h4.2
         have hol:(h0n xs.length i.size gg).length=xs.length * ti.size:=by rw [c0s,ai.size]
         have holds:∀ (j:Nat) (v:Value),(h0n xs.length i.size gg)[j]? = some v→w.cell? ((⟨Γ.blk b,Γ.off b,none⟩:Addr).add j)=some v:=by
          intro j v hv
          obtain ⟨f1,f2,rfl,f4⟩:=p0t hv
          have:=(hg1 _ _ f1 f2).1
          rw [Nat.add_assoc,← f4] at this
          rw [hadd]
          exact this
         have hr:=run_append_grow (P:=P) w t' o.type e ti z (at_.slice e rfl) ai.info hz ⟨Γ.blk b,Γ.off b,none⟩ xs.length (Γ.cap b) _ hol holds ⟨k,o',none⟩ ys.length cap news (by rw [ai.size]; exact hn1) hsl (by omega) (by omega)
          (growslice_fits (by omega) (by rw [ai.bytes]; exact hb1))
         have hge:=grownCap_ge w (xs.length+ys.length) (Γ.cap b) e
         have hle:=grownCap_le_maxLen w (xs.length+ys.length) (Γ.cap b) e hmax
         have hsz:((h0n xs.length i.size gg).toArray++news.toArray++Builtin.zeroCells z.cells (grownCap w (xs.length+ys.length) (Γ.cap b) e - (xs.length+ys.length))).size=grownCap w (xs.length+ys.length) (Γ.cap b) e * i.size:=by
          rw [Array.size_append,Array.size_append,size_zeroCells,List.size_toArray,List.size_toArray,hn1,c0s,hzs,← Nat.add_mul,← Nat.add_mul]
          congr 1
          omega
         have hrows:NewRows Γ w.drew Γ.S i.size (q.join q') (xs++ys) ((h0n xs.length i.size gg).toArray++news.toArray++Builtin.zeroCells z.cells (grownCap w (xs.length+ys.length) (Γ.cap b) e - (xs.length+ys.length))):=by
          have hrm:∀ {S1:Nat→Prop} {u:V} {v:Value},Rd w S1 u v→Rd w.drew S1 u v:=λ h=>Rd.mono (w:=w) (w':=w.drew) (λ _ h=>h) (λ _ _ _=>rfl) h
          refine ⟨λ r hr=>?_,λ ii x jj u hx hu=>?_⟩
          ·rcases List.mem_append.1 hr with hr | hr
           ·exact hr1 r hr
           ·exact hn3 r hr
          ·rcases Nat.lt_or_ge ii xs.length with hi | hi
           ·rw [List.getElem?_append_left hi] at hx
            have hj:jj < i.size:=by rw [← hr1 x (a0a hx)]; exact (gs_ hu).1
            have hpos:=o0c hi hj
            obtain ⟨f1,f2⟩:=s1k (hg2 ii x jj u hx hu)
            refine ⟨gg ii jj,?_,(hg1 ii jj hi hj).2,hrm f1,λ hg=>hrm (f2 (b0d hg).1),λ hf=>h5 (d0r hf).1 x (a0a hx) u (a0a hu)⟩
            rw [Array.append_assoc,Array.getElem?_append_left (by simpa [c0s] using hpos)]
            simpa using l0r hi hj
           ·rw [List.getElem?_append_right hi] at hx
            obtain ⟨zz,z1,z2,z3,z4,z5⟩:=hn4 _ x jj u hx hu
            have hlt:=(gs_ z1).1
            have hidx:ii * i.size=xs.length * i.size+(ii - xs.length) * i.size:=by rw [← Nat.add_mul]; congr 1; omega
            refine ⟨zz,?_,z2,hrm z3,λ hg=>hrm (z4 (b0d hg).2),λ hf=>z5 (d0r hf).2⟩
            rw [Array.append_assoc,Array.getElem?_append_right (by simp [c0s]; omega),Array.getElem?_append_left (by simp [c0s]; omega)]
            rw [List.getElem?_toArray,← z1]
            congr 1
            simp [c0s]
            omega
         have htr:(q.join q').good=true→Γ.U→a0i st.dead (m0m q' (ev st.t y))=true→(m0m q' (ev st.t y)).contains b=false→g1e Γ w.drew (m0m q' (ev st.t y)) b i.size (xs++ys) (λ p=>((h0n xs.length i.size gg).toArray++news.toArray++Builtin.zeroCells z.cells (grownCap w (xs.length+ys.length) (Γ.cap b) e - (xs.length+ys.length)))[p]?):=λ hq hU hmv hcb=>by
          obtain ⟨gg1,T1,t1,t2,t3,t4⟩:=d1h hxr.own_uq h4 h5 (b0d hq).1 hU
          obtain ⟨T,j1,j2,j3⟩:=hs.joinTr hU (xs:=xs) (ys:=ys) (cell1:=λ p=>(h0n xs.length i.size gg)[p]?) (cell2:=λ p=>news[p]?) (cell:=λ p=>((h0n xs.length i.size gg).toArray++news.toArray++Builtin.zeroCells z.cells (grownCap w (xs.length+ys.length) (Γ.cap b) e - (xs.length+ys.length)))[p]?) h1 hdead hmv hcb
           ⟨T1,λ ii x jj u v hx hu hv=>by
            have hi:=(gs_ hx).1
            have hj:jj < i.size:=by rw [← hr1 x (a0a hx)]; exact (gs_ hu).1
            obtain ⟨zz,z1,z2⟩:=p1k hr1 t1 t2 hx hu
            rw [(hg1 ii jj hi hj).1] at z1
            injection z1 with z1
            change (h0n xs.length i.size gg)[ii * i.size+jj]? = some v at hv
            rw [l0r hi hj] at hv
            injection hv with hv
            rw [← hv,z1]
            exact z2,t3,λ i j m hm=>(t4 i j m hm).1⟩ (v0k hs (hs.ev y) hsrc (b0d hq).2 hU ey hl hn2 hn3) (λ ii jj x hx hj=>by
            have hi:=(gs_ hx).1
            rw [hr1 x (a0a hx)] at hj
            have hpos:=o0c hi hj
            show ((h0n xs.length i.size gg).toArray++news.toArray++_)[ii * i.size+jj]? = (h0n xs.length i.size gg)[ii * i.size+jj]?
            rw [Array.append_assoc,Array.getElem?_append_left (by simpa [c0s] using hpos),List.getElem?_toArray]) (λ ii jj y hy hj=>by
            have hi:=(gs_ hy).1
            rw [hn3 y (a0a hy)] at hj
            have hpos:=o0c hi hj
            show ((h0n xs.length i.size gg).toArray++news.toArray++_)[(xs.length+ii) * i.size+jj]? = news[ii * i.size+jj]?
            rw [Nat.add_mul]
            rw [Array.append_assoc,Array.getElem?_append_right (by simp [c0s]; omega),Array.getElem?_append_left (by simp [c0s]; omega)]
            rw [List.getElem?_toArray]
            congr 1
            simp [c0s]
            omega)
          exact ⟨T,λ ii x jj u v hx hu hv=>(j1 ii x jj u v hx hu hv).mono (λ _ _ _=>rfl),j2,j3⟩
         have hsim:=Sim.regrow (d:=d) (b:=b) (e:=e) (n:=grownCap w (xs.length+ys.length) (Γ.cap b) e) (esc:=m0m q' (ev st.t y)) hs.drew hdead hb9 (by rw [List.length_append]; exact hge) (Nat.le_of_eq hsz.symm) hle hrows htr
         rw [List.length_append] at hsim
         refine ⟨_,_,?_,by rw [hd]; exact hsim⟩
         simp [execOp,ho,ex,ey,resolve,invoke,builtin,hr]
     ·cases h
    ·cases h
   ·cases h
  ·cases h
 ·cases h
end
end Go.Am
end

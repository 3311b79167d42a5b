/-
  Operations in another order: appends to slices that were built in the region.
-/
import Derived.Test.YthcnbncpgloonaaGreatuAmSwap5
set_option linter.unusedVariables false
set_option linter.unusedSimpArgs false
namespace Go.Am
open Go Go.RowKit
section
variable {P:Program}{c:Cfg}{Γ Γ':Ctx}{st st2 st' s1 s2:St}{a:Act}{w w':World}{den:Nat→List V→Option V}{η η':Nat→Option V}{d:Nat}{p q r:Nat→Bool}{ops:Array Oper}{o:Oper}
theorem e0c {b e:Nat}(hb:b / 1000=e)(v:V):v.anyB (λ k=>k / 1000 == e)=false→v.mapB (a0h b)=v:=by
 have ne:∀ k,(k / 1000 == e)=false → ¬ k=b:=λ k h hk=>by subst hk; simp [hb] at h
 refine V.rec (motive_1:=λ v=>v.anyB (λ k=>k / 1000 == e)=false→v.mapB (a0h b)=v) (motive_2:=λ vs=>V.anyBs (λ k=>k / 1000 == e) vs=false→V.mapBs (a0h b) vs=vs)
  (λ _=>rfl) (λ _ _=>rfl) (λ _ _ _=>rfl) (λ _ _=>rfl) (λ _=>rfl) (λ _ _ _ _ _=>rfl) (λ k _ _ _ _ h=>by simp only [V.mapB,a0h]; rw [if_neg (ne k h)]; rfl) (λ k _ _ _ _ h=>by simp only [V.mapB,a0h]; rw [if_neg (ne k h)]; rfl)
  (λ _ _ _=>rfl) (λ k _ _ _ _ _ _ h=>by simp only [V.mapB,a0h]; rw [if_neg (ne k h)]; rfl) (λ k _ _ _ h=>by simp only [V.mapB,a0h]; rw [if_neg (ne k h)]; rfl) (λ _ _ _ _=>rfl)
  (λ _ ih h=>by rw [V.mapB,ih h]) (λ _ ih h=>by rw [V.mapB,ih h]) (λ _ _ ih h=>by rw [V.mapB,ih h]) (λ _=>rfl) (λ v vs hv hvs h=>?_) v
 rw [V.anyBs,Bool.or_eq_false_iff] at h
 rw [V.mapBs,hv h.1,hvs h.2]
structure Iso (e:Nat) (T:List Nat) (st:St):Prop where
  sl:∀ z,z ∉ T→(st.t.getD z .undef).anyB (λ k=>k / 1000 == e)=false
  bx:∀ v,some v∈st.h→v.anyB (λ k=>k / 1000 == e)=false
theorem o1f {f:V→Option V}:∀ {l:List (Option V)},(∀ v,some v∈l→v.mapB f=v)→d0c f l=l:=by
 intro l
 induction l with
 | nil=>intro _; rfl
 | cons x l ih=>
  intro h
  cases x with
  | none=>rw [d0c,ih (λ v hv=>h v (by simp [hv]))]
  | some y=>rw [d0c,h y (by simp),ih (λ v hv=>h v (by simp [hv]))]
theorem Iso.heap {e b:Nat}{T:List Nat}(h:Iso e T st)(hb:b / 1000=e):d0c (a0h b) st.h=st.h:=o1f λ v hv=>e0c hb v (h.bx v hv)
theorem Iso.slot {e b z:Nat}{T:List Nat}(h:Iso e T st)(hb:b / 1000=e)(hz:z ∉ T):(V.mapBs (a0h b) st.t).getD z .undef=st.t.getD z .undef:=by
 rw [b0i rfl,e0c hb _ (h.sl z hz)]
theorem Iso.ev {e:Nat}{T:List Nat}(h:Iso e T st){x:Operand}(hx:∀ t,x = .tmp t→t ∉ T):Av (λ k=>k / 1000 == e) (λ _=>false) (ev st.t x):=by
 refine ⟨?_,a0z _⟩
 cases x with
 | tmp t=>exact h.sl t (hx t rfl)
 | const v=>
  show (v0a v).anyB _=false
  unfold v0a
  split <;> rfl
 | func f=>rfl
 | global g=>rfl
theorem Iso.getH {e:Nat}{T:List Nat}(h:Iso e T st)(b:Nat)(rr:V)(hb:st.h.getD b none=some rr):Av (λ k=>k / 1000 == e) (λ _=>false) rr:=by
 rw [List.getD_eq_getElem?_getD] at hb
 cases ht:st.h[b]? with
 | none=>rw [ht] at hb; cases hb
 | some v=>
  rw [ht] at hb
  simp only [Option.getD_some] at hb
  subst hb
  exact ⟨h.bx rr (a0a ht),a0z _⟩
def OwnOf (e:Nat)(v:V):Prop:=(∃ b s q xs,v = .own b s q xs∧b / 1000=e)∨v=d0g∨v = .undef
def St.app (st:St)(b d:Nat)(own:V)(e0:List Nat):St:=(({ st.sweep (a0h b) with t:=(st.sweep (a0h b)).t.set d own }:St).kill e0).mark (!a0i st.dead e0 || e0.contains b)
theorem u0g {sx:Nat}(hs:f0m o=some sx)(hst:¬ g0y ops st o)(h:a0m c den ops st o=some st') :
  ∃ d b s q xs q' ys e0,o.dst=some d∧st.t.getD sx .undef = .own b s q xs∧st.dead b=false∧wanted ops st.t o=some true∧st' = st.app b d (.own b s q' ys) e0 ∧
   ∀ st2:St,(∀ x∈b0h ops o,st2.t.getD x .undef=st.t.getD x .undef)→st2.dead b=false→a0m c den ops st2 o=some (st2.app b d (.own b s q' ys) e0):=by
 have h1:c0g st o.op=true:=by
  cases hi:c0g st o.op with
  | true=>rfl
  | false=>exact absurd (.inl hi) hst
 have hw:wanted ops st.t o=some true:=by
  unfold a0m at h
  cases hw:wanted ops st.t o with
  | none=>rw [hw] at h; cases h
  | some b=>
   cases b with
   | true=>rfl
   | false=>exact absurd (.inr hw) hst
 have h':b0b c st o.dst o.op=some st':=by
  unfold a0m at h
  rw [hw] at h
  simp only at h
  unfold step at h
  rw [if_pos h1] at h
  exact h
 have key:∀ st2:St,(∀ x∈b0h ops o,st2.t.getD x .undef=st.t.getD x .undef)→a0m c den ops st2 o=b0b c st2 o.dst o.op:=λ st2 hr=>by
  unfold a0m
  rw [c0a hr,hw]
  simp only
  unfold step
  rw [e0s (j0o hr),if_pos h1]
 unfold f0m at hs
 split at hs
 ·rename_i args ts hop
  split at hs
  ·rename_i x zs hargs
   injection hs with hs
   subst hs
   rw [hop] at h'
   simp only [b0b] at h'
   split at h'
   ·rename_i x' y t t' d hx' hts hdst
    rw [hargs] at hx'
    injection hx' with hx' hzs
    subst hx'
    split at h'
    ·rename_i e hty
     split at h'
     ·rename_i i b s q xs hi hev
      split at h'
      ·rename_i q' ys hsrc
       split at h'
       ·rename_i hc
        injection h' with h'
        refine ⟨d,b,s,q,xs,q.join q',xs++ys,m0m q' (ev st.t y),hdst,hev,hc.2.2.2.1,hw,h'.symm,λ st2 hr hd=>?_⟩
        rw [key st2 hr,hop,hdst]
        have e1:ev st2.t (.tmp x) = .own b s q xs:=(j0o hr (.tmp x) (by rw [hop]; simp [Op.operands,Call.operands,hargs])).trans hev
        have e2:ev st2.t y=ev st.t y:=j0o hr y (by rw [hop]; simp [Op.operands,Call.operands,hargs,hzs])
        have hargs2:args.toList=[.tmp x,y]:=by rw [hargs,hzs]
        simp only [b0b,hargs2,hts,hty,hi,e1,e2,hsrc]
        rw [if_pos ⟨hc.1,hc.2.1,hc.2.2.1,hd,hc.2.2.2.2⟩]
        rfl
       ·cases h'
      ·cases h'
     ·cases h'
    ·cases h'
   ·cases h'
  ·cases hs
 ·cases hs
theorem q0o {op:Op}(h:a1f op=true)(st:St):c0g st op=false:=by
 cases op <;> first | rfl | (cases h; done)
theorem c1m {e d:Nat}{b:Nat}{v own:V}{bx:Option V}{esc e0:List Nat}(hne:d ≠ e)(hv:v.mapB (a0h b)=v)(hb:∀ r,bx=some r→r.mapB (a0h b)=r) :
  (st.upd e v bx esc).app b d own e0=(st.app b d own e0).upd e v bx esc:=by
 unfold St.app St.upd St.sweep St.kill St.mark
 simp only [q0e,hv]
 congr 1
 ·exact List.set_comm _ _ (Ne.symm hne)
 ·cases bx with
  | none=>rfl
  | some r=>
   simp only
   have:∀ (l:List (Option V)) (k:Nat),d0c (a0h b) (l.set k (some r))=(d0c (a0h b) l).set k (some r):=by
    intro l
    induction l with
    | nil=>intro k; rfl
    | cons x l ih=>
     intro k
     cases k with
     | zero=>cases x <;> simp only [List.set_cons_zero,d0c,hb r rfl]
     | succ k=>cases x <;> simp only [List.set_cons_succ,d0c,ih]
   exact this _ _
 ·funext b'
  cases esc.contains b' <;> cases e0.contains b' <;> rfl
 ·have h:=n0v st.dead st.dup esc e0
  cases e0.contains b with
  | true=>simp
  | false=>rw [Bool.or_false,Bool.or_false]; exact h
theorem n1q {v:V}(h:v.anyB p=false):∀ b∈c0f v,p b=false:=by
 intro b hb
 cases v <;> simp only [c0f,List.not_mem_nil,List.mem_singleton] at hb
 all_goals (subst hb; exact h)
theorem h1l:∀ {cs:List V},(∀ c∈cs,c.anyB p=false) → ∀ b∈b0k cs,p b=false:=by
 intro cs
 induction cs with
 | nil=>intro _ b hb; cases hb
 | cons v vs ih=>
  intro h b hb
  rw [b0k,List.mem_append] at hb
  rcases hb with hb | hb
  ·exact n1q (h v (by simp)) b hb
  ·exact ih (λ c hc=>h c (by simp [hc])) b hb
theorem t0b (h9:p 999=false){z v:V}(h:v.anyB p=false):(e0u z v).anyB p=false:=by
 unfold e0u
 split
 ·exact h9
 ·exact h
theorem z0z (h9:p 999=false):∀ {zs cs:List V},(∀ c∈cs,c.anyB p=false) → ∀ c∈d0e zs cs,c.anyB p=false:=by
 intro zs
 induction zs with
 | nil=>intro cs h c hc; unfold d0e at hc; exact h c hc
 | cons z zs ih=>
  intro cs h c hc
  cases cs with
  | nil=>simp [d0e] at hc
  | cons v vs=>
   rw [d0e] at hc
   rcases List.mem_cons.1 hc with rfl | hc
   ·exact t0b h9 (h v (by simp))
   ·exact ih (λ c hc=>h c (by simp [hc])) c hc
theorem j1q (h9:p 999=false){zs:List V}{v:V}(h:v.anyB p=false):(c0e zs v).anyB p=false:=by
 unfold c0e
 split
 ·rename_i cs
  exact j0k (z0z h9 λ c hc=>a0u h c hc)
 ·split
  ·exact t0b h9 h
  ·exact h
theorem o1y (h9:p 999=false){zs:List V}:∀ {xs:List V},(∀ x∈xs,x.anyB p=false) → ∀ b∈n0d (e0j zs xs),p b=false:=by
 intro xs
 induction xs with
 | nil=>intro _ b hb; cases hb
 | cons v vs ih=>
  intro h b hb
  rw [e0j,n0d,List.mem_append] at hb
  rcases hb with hb | hb
  ·have h1:Av p (λ _=>false) (c0e zs v):=⟨j1q h9 (h v (by simp)),a0z _⟩
   exact h1l (λ c hc=>(h1.cells c hc).1) b hb
  ·exact ih (λ c hc=>h c (by simp [hc])) b hb
theorem k1i:∀ {vs:List (Nat × V)} {acc xs:List V},q0s acc vs=some xs→(∀ x∈acc,x.anyB p=false)→(∀ y∈vs,y.2.anyB p=false) → ∀ x∈xs,x.anyB p=false:=by
 intro vs
 induction vs with
 | nil=>intro acc xs h ha _ x hx; injection h with h; subst h; exact ha x hx
 | cons y vs ih=>
  intro acc xs h ha hv x hx
  obtain ⟨i,v⟩:=y
  rw [q0s] at h
  split at h
  ·refine ih h (λ u hu=>?_) (λ y hy=>hv y (by simp [hy])) x hx
   rcases List.mem_or_eq_of_mem_set hu with hu | rfl
   ·exact ha u hu
   ·exact hv (i,u) (by simp)
  ·cases h
theorem e1w (hA:b0l P c)(hq:a1f o.op=true)(h:a0m c den ops st o=some st')(h9:p 999=false)(H:∀ x∈o.op.operands.toList,(ev st.t x).anyB p=false):∀ b,p b=true→st'.dead b=st.dead b:=by
 intro b hb
 unfold a0m at h
 split at h
 ·cases h
 ·unfold step at h
  rw [if_neg (by rw [q0o hq]; simp)] at h
  cases hd:o.dst with
  | none=>rw [hd] at h; cases h
  | some d=>
   rw [hd] at h
   simp only at h
   cases hv:a0d c den (ev st.t) (λ b=>st.h.getD b none) d o.op with
   | none=>rw [hv] at h; cases h
   | some out=>
    rw [hv] at h
    cases out with
    | val v=>simp only [sj_] at h; subst h; rfl
    | box rr=>
     simp only at h
     split at h
     ·simp only [sj_] at h; subst h; rfl
     ·cases h
    | fresh v esc n=>
     simp only at h
     split at h
     ·simp only [sj_] at h
      subst h
      show (esc.contains b || st.dead b)=st.dead b
      have he:∀ k∈esc,p k=false:=by
       cases hop:o.op with
       | buildSlice t n ps=>
        rw [hop] at hv H
        simp only [a0d] at hv
        repeat' split at hv
        all_goals first | (cases hv; done) | skip
        simp only [sj_,Out.fresh.injEq] at hv
        obtain ⟨_,rfl,_⟩:=hv
        refine o1y h9 ?_
        refine k1i (by assumption) (λ x hx=>?_) (λ y hy=>?_)
        ·rw [List.eq_of_mem_replicate hx]
         exact (b1j (p:=p) (q:=λ _=>false) hA (by assumption)).1
        ·obtain ⟨z,hz,rfl⟩:=List.mem_map.1 hy
         exact H z.2 (by simp only [Op.operands]; exact List.mem_map.2 ⟨z,hz,rfl⟩)
       | slice t x lo hi mx=>
        exfalso
        rw [hop] at hq hv
        cases mx with
        | some z=>cases hq
        | none=>simp only [a0d,plain] at hv; (repeat' split at hv) <;> cases hv
       | _=>
        exfalso
        rw [hop] at hq hv
        first
         | (cases hq; done)
         | (simp only [a0d,plain] at hv; (repeat' split at hv) <;> cases hv)
         | skip
      cases hcc:esc.contains b with
      | false=>rfl
      | true=>
       have:=he b (List.contains_iff_mem.1 hcc)
       rw [hb] at this
       cases this
     ·cases h
 ·split at h
  ·simp only [sj_] at h; subst h; rfl
  ·simp only [sj_] at h; subst h; rfl
theorem d0l (h:a0m c den ops st o=some st')(hs:g0y ops st o)(hd:o.dst=none):wanted ops st.t o=some false∧st' = st:=by
 unfold a0m at h
 cases hw:wanted ops st.t o with
 | none=>rw [hw] at h; cases h
 | some b=>
  rw [hw] at h
  cases b with
  | false=>simp only [hd,sj_] at h; exact ⟨rfl,h.symm⟩
  | true=>
   simp only at h
   have hne:c0g st o.op=false:=by
    rcases hs with h | h
    ·exact h
    ·rw [hw] at h; cases h
   unfold step at h
   rw [if_neg (by rw [hne]; simp),hd] at h
   cases h
theorem c1p (hw:wanted ops st.t o=some false)(hd:o.dst=none):a0m c den ops st o=some st:=by
 unfold a0m
 rw [hw]
 simp only [hd]
theorem z0w (hA:b0l P c)(hs:b1n st){e d:Nat}{v:V}{bx:Option V}{esc:List Nat}(hlt:d < 1000)(hne:d ≠ e)(H:∀ x∈o.op.operands.toList,Av (λ k=>k / 1000 == e) (λ _=>false) (ev st.t x))
  (hη:∀ b rr,st.h.getD b none=some rr→Av (λ k=>k / 1000 == e) (λ _=>false) rr)
  (hinfo:((∃ out,wanted ops st.t o=some true∧a0d c den (ev st.t) (λ b=>st.h.getD b none) d o.op=some out ∧
    ((out = .val v∧bx=none)∨(∃ rr,out = .box rr∧v = .ptr d 0∧bx=some rr)∨(∃ n,out = .fresh v esc n∧bx=none)))∨(v=d0g∧bx=none))) :
  v.anyB (λ k=>k / 1000 == e)=false ∧ ∀ r,bx=some r→r.anyB (λ k=>k / 1000 == e)=false:=by
 obtain ⟨Γ,a,w,hs⟩:=hs
 rcases hinfo with ⟨out,_,hv,ho⟩ | ⟨rfl,rfl⟩
 ·have hav:=c1h (p:=λ k=>k / 1000 == e) (q:=λ _=>false) hA hs hη (λ j hj=>by rw [f0p hlt hj]; simpa using hne) H hv
  rcases ho with ⟨rfl,rfl⟩ | ⟨rr,rfl,rfl,rfl⟩ | ⟨n,rfl,rfl⟩
  ·exact ⟨hav.1,λ r hr=>by cases hr⟩
  ·exact ⟨rfl,λ r hr=>by injection hr with hr; subst hr; exact hav.1⟩
  ·exact ⟨hav.1,λ r hr=>by cases hr⟩
 ·exact ⟨rfl,λ r hr=>by cases hr⟩
theorem Iso.reads_ev {e:Nat}{T:List Nat}(h:Iso e T st)(hT:∀ z∈b0h ops o,z ∉ T):∀ x∈o.op.operands.toList,Av (λ k=>k / 1000 == e) (λ _=>false) (Go.Am.ev st.t x):=
 λ x hx=>h.ev λ t ht=>hT t (b0j (ht ▸ hx))
theorem Iso.poisoned {e b d:Nat}{T:List Nat}{own:V}(h:Iso e T st)(hb:b / 1000=e)(hT:∀ z∈b0h ops o,z ∉ T)(hd:d ∉ b0h ops o):∀ z∈b0h ops o,((V.mapBs (a0h b) st.t).set d own).getD z .undef=st.t.getD z .undef:=
 λ z hz=>by
 have h0:z ≠ d:=λ h=>hd (h ▸ hz)
 rw [b0o h0]
 exact h.slot hb (hT z hz)
theorem OwnOf.base {e b s:Nat}{q:Q}{xs:List V}(h:OwnOf e (.own b s q xs)):b / 1000=e:=by
 rcases h with ⟨b',s',q',xs',h1,h2⟩ | h | h
 ·injection h1 with h1; rw [h1]; exact h2
 ·cases h
 ·cases h
theorem r0u (hA:b0l P c)(hD:a0r P den)(hs:b1n st){x y:Oper}{sx:Nat}(ax:f0m x=some sx)(hx:a0m c den ops st x=some s1)(hy:a0m c den ops s1 y=some s2)(nx:¬ g0y ops st x)(qy:a1f y.op=true)
  {e:Nat} {T:List Nat} (he0:e ≠ 0) (hI:Iso e T st) (ho:OwnOf e (st.t.getD sx .undef)) (heT:e∈T) (ry:∀ z∈b0h ops y,z ∉ T) (dyT:∀ d,y.dst=some d→d ∉ T)
  (k1:∀ d,x.dst=some d→d ∉ b0h ops y∧y.dst ≠ some d) (k2:∀ d,y.dst=some d→d ∉ b0h ops x) (cy:∀ d,y.dst=some d→CleanAt d (l0z y.op) st) (ly:∀ d,y.dst=some d→d < 1000) :
  ∃ s,a0m c den ops st y=some s∧a0m c den ops s x=some s2:=by
 have hr1:=n0b hA hD hs hx
 obtain ⟨d,b,s,q,xs,q',ys,e0,hdx,hown,hdead,hwx,hs1,tx⟩:=u0g ax nx hx
 rw [hown] at ho
 have hb:=ho.base
 have hrd:∀ z∈b0h ops y,s1.t.getD z .undef=st.t.getD z .undef:=by
  rw [hs1]
  exact hI.poisoned hb ry (k1 d hdx).1
 have hh:s1.h=st.h:=by rw [hs1]; exact hI.heap hb
 have sy:g0y ops s1 y:=.inl (q0o qy s1)
 cases hdy:y.dst with
 | none=>
  obtain ⟨hw,rfl⟩:=d0l hy sy hdy
  refine ⟨st,c1p ?_ hdy,hx⟩
  rw [← hw]
  exact (c0a hrd).symm
 | some dy=>
  have hne:d ≠ dy:=λ h=>(k1 d hdx).2 (by rw [hdy,h])
  obtain ⟨v,bx,esc,rfl,hinfo,_,ty⟩:=j1o hy sy hdy
  obtain ⟨v1,v2⟩:=z0w (e:=e) hA hr1 (ly dy hdy) (λ h=>dyT dy hdy (h ▸ heT)) (λ z hz=>by rw [j0o hrd z hz]; exact hI.reads_ev ry z hz) (λ b rr hb=>by rw [hh] at hb; exact hI.getH b rr hb) hinfo
  have h1:a0m c den ops st y=some (st.upd dy v bx esc):=by
   refine ty (λ _=>false) st ⟨λ z hz=>(hrd z hz).symm,λ b _=>by rw [hh],λ z _=>a0z _,by rw [hh],by rw [hs1]; simp [St.app,St.kill,St.mark,St.sweep,a0f],λ e' he'=>?_⟩
   have hc:=cy e' he'
   rw [hdy] at he'
   injection he' with he'
   subst he'
   exact ⟨rfl,hc.freeD,λ hm=>by rw [hm] at hc; exact hc.freeP⟩
  have hdead2:=e1w (p:=λ k=>k / 1000 == e) hA qy h1 (by simp; omega) (λ z hz=>(hI.reads_ev ry z hz).1) b (by simp [hb])
  refine ⟨_,h1,?_⟩
  rw [tx (st.upd dy v bx esc) (λ z hz=>b0o (λ h=>k2 dy hdy (h ▸ hz))) ?_]
  ·rw [c1m hne (e0c hb v v1) (λ r hr=>e0c hb r (v2 r hr)),← hs1]
  ·rw [hdead2,hdead]
theorem r0v (hA:b0l P c)(hD:a0r P den)(hs:b1n st){x y:Oper}{sy:Nat}(ay:f0m y=some sy)(hx:a0m c den ops st x=some s1)(hy:a0m c den ops s1 y=some s2)(ny:¬ g0y ops s1 y)(qx:a1f x.op=true)
  {e:Nat} {T:List Nat} (hI:Iso e T st) (ho:OwnOf e (st.t.getD sy .undef)) (heT:e∈T) (rx:∀ z∈b0h ops x,z ∉ T) (dxT:∀ d,x.dst=some d→d ∉ T) (hsr:sy∈b0h ops y)
  (k1:∀ d,x.dst=some d→d ∉ b0h ops y∧y.dst ≠ some d) (k2:∀ d,y.dst=some d→d ∉ b0h ops x) (cx:∀ d,x.dst=some d→CleanAt d (l0z x.op) st) (lx:∀ d,x.dst=some d→d < 1000) (ly:∀ d,y.dst=some d→d < 1000) :
  ∃ s,a0m c den ops st y=some s∧a0m c den ops s x=some s2:=by
 have sx:g0y ops st x:=.inl (q0o qx st)
 cases hdx:x.dst with
 | none=>
  obtain ⟨hw,rfl⟩:=d0l hx sx hdx
  obtain ⟨d,b,s,q,xs,q',ys,e0,hdy,hown,hdead,hwy,hs2,ty⟩:=u0g ay ny hy
  rw [hown] at ho
  have hb:=ho.base
  refine ⟨s2,hy,c1p ?_ hdx⟩
  rw [← hw]
  refine c0a ?_
  rw [hs2]
  exact hI.poisoned hb rx (k2 d hdy)
 | some dx=>
  obtain ⟨v,bx,esc,hs1,hinfo,_,tx⟩:=j1o hx sx hdx
  obtain ⟨d,b,s,q,xs,q',ys,e0,hdy,hown,hdead,hwy,hs2,ty⟩:=u0g ay ny hy
  have hne:d ≠ dx:=λ h=>(k1 dx hdx).2 (by rw [hdy,h])
  have hrd:∀ z∈b0h ops y,st.t.getD z .undef=s1.t.getD z .undef:=λ z hz=>by
   rw [hs1]
   have h0:z ≠ dx:=λ h=>(k1 dx hdx).1 (h ▸ hz)
   exact (b0o h0).symm
  rw [hrd sy hsr,hown] at ho
  have hb:=ho.base
  have hdead1:st.dead b=false:=by
   rw [hs1] at hdead
   have:(esc.contains b || st.dead b)=false:=hdead
   rw [Bool.or_eq_false_iff] at this
   exact this.2
  have h1:=ty st hrd hdead1
  refine ⟨_,h1,?_⟩
  obtain ⟨v1,v2⟩:=z0w (e:=e) hA hs (lx dx hdx) (λ h=>dxT dx hdx (h ▸ heT)) (hI.reads_ev rx) (λ b rr hb=>hI.getH b rr hb) hinfo
  have hc':=k0t hA hs h1 (d:=dx) (bx:=l0z x.op) (λ e' he'=>by rw [hdy] at he'; injection he' with he'; subst he'; exact ⟨hne,ly d hdy⟩) (cx dx hdx)
  rw [tx (λ _=>false) _ ⟨hI.poisoned hb rx (k2 d hdy),λ b' _=>by show (d0c _ st.h).getD _ _=_; rw [hI.heap hb],λ z _=>a0z _,by show (d0c _ st.h).length=_; rw [hI.heap hb],by simp [St.app,St.kill,St.mark,St.sweep,a0f],λ e' he'=>?_⟩]
  ·rw [hs2,hs1,c1m hne (e0c hb v v1) (λ r hr=>e0c hb r (v2 r hr))]
  ·rw [hdx] at he'
   injection he' with he'
   subst he'
   exact ⟨rfl,hc'.freeD,λ hm=>by rw [hm] at hc'; exact hc'.freeP⟩
theorem mem_contains {T:List Nat}{z:Nat}:T.contains z=false↔z ∉ T:=by
 constructor
 ·intro h hz
  rw [List.contains_iff_mem.2 hz] at h
  cases h
 ·intro h
  cases hc:T.contains z with
  | false=>rfl
  | true=>exact absurd (List.contains_iff_mem.1 hc) h
theorem i0p {l T:List Nat}(h:l.any T.contains=false):∀ z∈l,z ∉ T:=by
 intro z hz
 rw [List.any_eq_false] at h
 exact mem_contains.1 (by simpa using h z hz)
theorem n1s {j:Nat}(hj:ops[j]? = some o)(h:¬ (j1d ops=true∧j+1=ops.size)):o∈h1q ops:=by
 have hl:ops.toList[j]? = some o:=by simpa using hj
 unfold h1q
 split
 ·rename_i hla
  have hlt:j < ops.size:=(Array.getElem?_eq_some_iff.1 hj).1
  have hne:j+1 ≠ ops.size:=λ e=>h ⟨hla,e⟩
  refine List.mem_of_getElem? (i:=j) ?_
  rw [List.getElem?_dropLast,if_pos (by rw [Array.length_toList]; omega)]
  exact hl
 ·exact List.mem_of_getElem? hl
theorem o1c (hA:b0l P c)(hs:b1n st){e:Nat}{T:List Nat}(hc:k0u ops e T=true)(ho:o∈h1q ops)(hlt:∀ d,o.dst=some d→d < 1000)(h:a0m c den ops st o=some st')(hI:Iso e T st):Iso e T st':=by
 unfold k0u at hc
 simp only [Bool.and_eq_true,List.all_eq_true] at hc
 obtain ⟨⟨heT,_⟩,hall⟩:=hc
 have heT:e∈T:=List.contains_iff_mem.1 heT
 obtain ⟨hst,hop⟩:=hall o ho
 by_cases hS:g0y ops st o
 ·cases hd:o.dst with
  | none=>obtain ⟨_,rfl⟩:=d0l h hS hd; exact hI
  | some d=>
   obtain ⟨v,bx,esc,rfl,hinfo,hbx,_⟩:=j1o h hS hd
   rw [hd] at hop
   simp only at hop
   cases hdT:T.contains d with
   | true=>
    rw [if_pos hdT] at hop
    have hb0:bx=none:=by
     cases bx with
     | none=>rfl
     | some r=>
      have:=hbx rfl
      rw [this] at hop
      cases hop
    subst hb0
    exact ⟨λ z hz=>by rw [show (st.upd d v none esc).t.getD z .undef=st.t.getD z .undef from b0o (λ h=>hz (h ▸ List.contains_iff_mem.1 hdT))]; exact hI.sl z hz,λ u hu=>hI.bx u hu⟩
   | false=>
    rw [if_neg (by rw [hdT]; simp),Bool.not_eq_true'] at hop
    have hr:=i0p hop
    obtain ⟨v1,v2⟩:=z0w (e:=e) hA hs (hlt d hd) (λ h=>mem_contains.1 hdT (h ▸ heT)) (hI.reads_ev hr) (λ b rr hb=>hI.getH b rr hb) hinfo
    refine ⟨λ z hz=>?_,λ u hu=>?_⟩
    ·by_cases hzd:z=d
     ·subst hzd
      show ((st.t.set z v).getD z .undef).anyB _=false
      rw [List.getD_eq_getElem?_getD,List.getElem?_set]
      simp only [if_true]
      split
      ·exact v1
      ·rfl
     ·rw [show (st.upd d v bx esc).t.getD z .undef=st.t.getD z .undef from b0o hzd]
      exact hI.sl z hz
    ·rcases l1d (z:=u) (.inr hu) with hu' | hu' | hu' | hu'
     ·unfold St.upd at hu
      simp only at hu
      split at hu
      ·rename_i r
       rcases List.mem_or_eq_of_mem_set hu with h2 | h2
       ·exact hI.bx u h2
       ·injection h2 with h2; subst h2; exact v2 _ rfl
      ·exact hI.bx u hu
     ·exact hI.bx u hu'
     ·subst hu'; exact v1
     ·exact v2 u hu'
 ·have h1:c0g st o.op=true:=by
   cases hi:c0g st o.op with
   | true=>rfl
   | false=>exact absurd (.inl hi) hS
  unfold a0m at h
  cases hw:wanted ops st.t o with
  | none=>rw [hw] at h; cases h
  | some bb=>
   rw [hw] at h
   cases bb with
   | false=>exact absurd (.inr hw) hS
   | true=>
    simp only at h
    unfold step at h
    rw [if_pos h1] at h
    cases hopk:o.op with
    | store t a x=>rw [hopk] at hst; cases hst
    | call cl=>
     obtain ⟨callee,args,ts⟩:=cl
     rw [hopk] at h
     cases callee with
     | builtin bi=>
      cases bi with
      | append=>
       simp only [b0b] at h
       split at h
       ·rename_i x y t t' d hx ht hd
        split at h
        ·split at h
         ·rename_i i b s q xs hi hev
          split at h
          ·split at h
           ·simp only [sj_] at h
            subst h
            rw [hd] at hop
            simp only at hop
            refine ⟨λ z hz=>?_,λ u hu=>?_⟩
            ·by_cases hzd:z=d
             ·subst hzd
              rw [if_neg (by rw [mem_contains.2 hz]; simp),Bool.not_eq_true'] at hop
              have hr:=i0p hop
              have hax:=(hI.reads_ev hr x (by rw [hopk]; simp [Op.operands,Call.operands,hx])).1
              rw [hev] at hax
              show (((V.mapBs (a0h b) st.t).set z (.own b s _ _)).getD z .undef).anyB _=false
              rw [List.getD_eq_getElem?_getD,List.getElem?_set]
              simp only [if_true]
              split
              ·exact hax
              ·rfl
             ·show (((V.mapBs (a0h b) st.t).set d _).getD z .undef).anyB _=false
              rw [b0o hzd,b0i rfl]
              exact (Av.map (p:=λ k=>k / 1000 == e) (q:=λ _=>false) (q0m b) _ ⟨hI.sl z hz,a0z _⟩).1
            ·obtain ⟨u',hu',rfl⟩:=x0i hu
             exact (Av.map (p:=λ k=>k / 1000 == e) (q:=λ _=>false) (q0m b) _ ⟨hI.bx u' hu',a0z _⟩).1
           ·cases h
          ·cases h
         ·cases h
        ·cases h
       ·cases h
      | _=>simp only [b0b] at h; cases h
     | _=>simp only [b0b] at h; cases h
    | _=>rw [hopk] at h; simp only [b0b] at h; cases h
theorem OwnOf.map {e:Nat}{v:V}{f:V→Option V}(h:OwnOf e v)(h1:f .undef=none)(h2:∀ b s q xs z,f (.own b s q xs)=some z→z = .undef ∨ ∃ q' ys,z = .own b s q' ys):OwnOf e (v.mapB f):=by
 rcases h with ⟨b,s,q,xs,rfl,hb⟩ | rfl | rfl
 ·show OwnOf e ((f (.own b s q xs)).getD _)
  cases hf:f (.own b s q xs) with
  | none=>exact .inl ⟨b,s,q,xs,rfl,hb⟩
  | some z=>
   rcases h2 b s q xs z hf with rfl | ⟨q',ys,rfl⟩
   ·exact .inr (.inr rfl)
   ·exact .inl ⟨b,s,q',ys,rfl,hb⟩
 ·exact .inr (.inl rfl)
 ·refine .inr (.inr ?_)
  show (f .undef).getD .undef = .undef
  rw [h1]
  rfl
theorem t1g {dst:Option Nat}{op:Op}(h:b0b c st dst op=some st'){e z:Nat}(hz:dst ≠ some z)(ho:OwnOf e (st.t.getD z .undef)):OwnOf e (st'.t.getD z .undef):=by
 cases op with
 | store t ad x=>
  simp only [b0b] at h
  repeat' split at h
  all_goals first | (cases h; done) | skip
  ·simp only [sj_] at h
   subst h
   exact ho
  ·simp only [sj_] at h
   subst h
   show OwnOf e ((V.mapBs (c0v _ _ _) st.t).getD z .undef)
   rw [b0i rfl]
   refine ho.map rfl (λ b s q xs z hz=>?_)
   simp only [c0v] at hz
   split at hz
   ·rename_i hbb
    injection hz with hz
    subst hbb
    exact .inr ⟨_,_,hz.symm⟩
   ·cases hz
 | call cl=>
  obtain ⟨callee,args,ts⟩:=cl
  cases callee with
  | builtin bi=>
   cases bi with
   | append=>
    simp only [b0b] at h
    repeat' split at h
    all_goals first | (cases h; done) | skip
    simp only [sj_] at h
    subst h
    show OwnOf e (((V.mapBs (a0h _) st.t).set _ _).getD z .undef)
    rw [b0o (λ e=>hz (by rw [e])),b0i rfl]
    refine ho.map rfl (λ b s q xs z hz=>?_)
    simp only [a0h] at hz
    split at hz
    ·injection hz with hz; exact .inl hz.symm
    ·cases hz
   | _=>simp only [b0b] at h; cases h
  | _=>simp only [b0b] at h; cases h
 | _=>simp only [b0b] at h; cases h
theorem k1s (h:a0m c den ops st o=some st'){e z:Nat}(hz:o.dst ≠ some z)(ho:OwnOf e (st.t.getD z .undef)):OwnOf e (st'.t.getD z .undef):=by
 by_cases hS:g0y ops st o
 ·cases hd:o.dst with
  | none=>obtain ⟨_,rfl⟩:=d0l h hS hd; exact ho
  | some d=>
   obtain ⟨v,bx,esc,rfl,_,_,_⟩:=j1o h hS hd
   rw [show (st.upd d v bx esc).t.getD z .undef=st.t.getD z .undef from b0o (λ e=>hz (by rw [hd,e]))]
   exact ho
 ·have h1:c0g st o.op=true:=by
   cases hi:c0g st o.op with
   | true=>rfl
   | false=>exact absurd (.inl hi) hS
  unfold a0m at h
  cases hw:wanted ops st.t o with
  | none=>rw [hw] at h; cases h
  | some bb=>
   rw [hw] at h
   cases bb with
   | false=>exact absurd (.inr hw) hS
   | true=>
    simp only at h
    unfold step at h
    rw [if_pos h1] at h
    exact t1g h hz ho
theorem r0d {x i:Nat}(h:d1b ops x=some i):∃ o,ops[i]? = some o∧o.dst=some x:=by
 unfold d1b at h
 have:=List.find?_some h
 cases ho:ops[i]? with
 | none=>rw [ho] at this; cases this
 | some o=>
  rw [ho] at this
  exact ⟨o,rfl,by simpa using this⟩
theorem u0r {l:List V}{d e:Nat}{v:V}(h:OwnOf e v):OwnOf e ((l.set d v).getD d .undef):=by
 rw [List.getD_eq_getElem?_getD,List.getElem?_set]
 simp only [if_true]
 split
 ·exact h
 ·exact .inr (.inr rfl)
theorem e1l {k j e d:Nat}(hj:ops[j]? = some o)(hd:o.dst=some d)(hlt:d < 1000)(hor:g0i ops (k+1) j=some e)(h:a0m c den ops st o=some st')
  (hsrc:∀ x i,f0m o=some x→d1b ops x=some i→(∃ ed∈o.after.toList,Region.binds .any ed=true∧ed.on=i)→g0i ops k i=some e→OwnOf e (st.t.getD x .undef)):OwnOf e (st'.t.getD d .undef):=by
 unfold a0m at h
 cases hw:wanted ops st.t o with
 | none=>rw [hw] at h; cases h
 | some bb=>
  rw [hw] at h
  cases bb with
  | false=>
   simp only [hd,sj_] at h
   subst h
   exact u0r (.inr (.inl rfl))
  | true=>
   simp only at h
   rw [g0i,hj] at hor
   simp only at hor
   split at hor
   ·rename_i t n ps hop
    rw [hd] at hor
    injection hor with hor
    subst hor
    unfold step at h
    rw [if_neg (by rw [hop]; simp [c0g]),hd] at h
    simp only at h
    cases hv:a0d c den (ev st.t) (λ b=>st.h.getD b none) d o.op with
    | none=>rw [hv] at h; cases h
    | some out=>
     rw [hv] at h
     rw [hop] at hv
     simp only [a0d] at hv
     repeat' split at hv
     all_goals first | (cases hv; done) | skip
     simp only [sj_] at hv
     subst hv
     simp only at h
     split at h
     ·simp only [sj_] at h
      subst h
      exact u0r (.inl ⟨_,_,_,_,rfl,f0p hlt (by decide)⟩)
     ·cases h
   ·split at hor
    ·rename_i x hx
     split at hor
     ·rename_i i hi
      split at hor
      ·rename_i hany
       have ho:=hsrc x i hx hi (by
        obtain ⟨ed,h1,h2⟩:=List.any_eq_true.1 hany
        rw [Bool.and_eq_true,beq_iff_eq] at h2
        exact ⟨ed,h1,h2.1,h2.2⟩) hor
       unfold f0m at hx
       split at hx
       ·rename_i args ts hop
        split at hx
        ·rename_i x' zs hargs
         injection hx with hx
         subst hx
         have hev:ev st.t (.tmp x')=st.t.getD x' .undef:=rfl
         have hE:c0g st o.op=true:=by
          rw [hop]
          simp only [c0g,hargs]
          rw [hev]
          rcases ho with ⟨b,s,q,xs,h1,_⟩ | h1 | h1 <;> rw [h1] <;> rfl
         unfold step at h
         rw [if_pos hE,hop,hd] at h
         simp only [b0b] at h
         split at h
         ·rename_i x2 y t t' d2 hx2 ht hd2
          rw [hargs] at hx2
          injection hx2 with hx2 _
          subst hx2
          injection hd2 with hd2
          subst hd2
          split at h
          ·split at h
           ·rename_i i2 b s q xs hi2 hev2
            split at h
            ·split at h
             ·simp only [sj_] at h
              subst h
              rw [hev] at hev2
              rw [hev2] at ho
              exact u0r (.inl ⟨_,_,_,_,rfl,ho.base⟩)
             ·cases h
            ·cases h
           ·cases h
          ·cases h
         ·cases h
        ·cases hx
       ·cases hx
      ·cases hor
     ·cases hor
    ·cases hor
theorem k0j:∀ {k j e:Nat},g0i ops k j=some e → ∃ (i:Nat) (o:Oper),ops[i]? = some o∧o.dst=some e:=by
 intro k
 induction k with
 | zero=>intro j e h; cases h
 | succ k ih=>
  intro j e h
  rw [g0i] at h
  split at h
  ·rename_i o ho
   split at h
   ·exact ⟨j,o,ho,h⟩
   ·split at h
    ·split at h
     ·split at h
      ·exact ih h
      ·cases h
     ·cases h
    ·cases h
  ·cases h
end
end Go.Am

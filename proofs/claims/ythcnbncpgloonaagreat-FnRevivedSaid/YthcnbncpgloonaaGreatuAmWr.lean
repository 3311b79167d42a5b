/-
  Calls that write their argument's rows anew, in place: what is asked of such a function, and that the machine's step is what its call does.
-/
import Derived.Test.YthcnbncpgloonaaGreatuAmEff3
import Derived.Lib.ConvBytes
import Derived.Laws.BytesString
section
set_option linter.unusedVariables false
set_option linter.unusedSimpArgs false
namespace Go.Am
open Go Go.RowKit
structure Answer (R:Nat→Prop) (w:World) (r:V) (x:Value) (w':World):Prop where
  os:w'.os=w.os
  tape:w'.tape=w.tape
  output:w'.output=w.output
  size:w.heap.size≤w'.heap.size
  old:∀ k,k < w.heap.size→w'.heap[k]? = w.heap[k]?
  val:∃ Γ:Ctx,VR Γ w' r x∧(∀ k,Γ.F k→w.heap.size≤k)∧(∀ k,Γ.S k→(R k∨w.heap.size≤k)∧k < w'.heap.size) ∧
    (∀ b,Γ.has b→w.heap.size≤Γ.blk b∧Γ.blk b < w'.heap.size ∧ ¬ Γ.S (Γ.blk b)∧Γ.cap b≤maxLen ∧ ∃ cur e,w'.heap[Γ.blk b]? = some (.cells cur e (0,0))∧Γ.off b+Γ.cap b * Γ.sz b≤cur.size) ∧
    (∀ b b',Γ.has b→Γ.has b' → Γ.blk b=Γ.blk b' → b=b')∧(∀ b,Γ.has b→Γ.Z (Γ.blk b))∧(∀ k,Γ.Z k→w.heap.size≤k∧k < w'.heap.size ∧ ∃ cur e,w'.heap[k]? = some (.cells cur e (0,0))) ∧
    Γ.U∧(∀ b,Γ.has b → ∀ m,Γ.N b m→Γ.S m∧Γ.Z m) ∧ ∀ b b',Γ.has b→Γ.has b' → b ≠ b' → ∀ m,Γ.N b m→Γ.N b' m→False
def a0r (P:Program)(den:Nat→List V→Option V):Prop:=∀ f args r,den f args=some r →
 (∃ fn,P.funcs[f]? = some fn∧fn.body.isNone=false∧(fn.name == "runtime.NumGoroutine")=false) ∧
 ∀ (R:Nat→Prop) (w:World) (vals:Array Value),g0c w→(∀ k,R k→k < w.heap.size)→args.length=vals.size→(∀ (i:Nat) (c:V) (v:Value),args[i]? = some c→vals[i]? = some v→Rd w R c v) →
  Calls P f vals w λ
   | .returned x,w'=>Answer R w r x w'
   | _,_=>False
section
variable {P:Program}{c:Cfg}{Γ Γ':Ctx}{st:St}{a:Act}{w w':World}{den:Nat→List V→Option V}{η:Nat→Option V}{d:Nat}
theorem VR.sweepC {f:V→Option V}(C:V→Prop)(hagg:∀ cs,C (.agg cs) → ∀ u∈cs,C u)(htup:∀ cs,C (.tup cs) → ∀ u∈cs,C u)(hclo:∀ g cs,C (.clo g cs) → ∀ u∈cs,C u)
  (hl:∀ v x,(match v with
   | .agg _=>False
   | .tup _=>False
   | .clo _ _=>False
   | _=>True)→C v→VR Γ w v x→VR Γ' w' ((f v).getD v) x) (v:V):∀ x,C v→VR Γ w v x→VR Γ' w' (v.mapB f) x:=by
 refine V.rec (motive_1:=λ v=>∀ x,C v→VR Γ w v x→VR Γ' w' (v.mapB f) x) (motive_2:=λ l=>(∀ u∈l,C u) → ∀ (i:Nat) (u:V) (x:Value),l[i]? = some u→VR Γ w u x→VR Γ' w' (u.mapB f) x)
  ?_ ?_ ?_ ?_ ?_ ?_ ?_ ?_ ?_ ?_ ?_ ?_ ?_ ?_ ?_ ?_ ?_ v
 ·intro x hc h; exact hl _ _ trivial hc h
 ·intro _ x hc h; exact hl _ _ trivial hc h
 ·intro _ _ x hc h; exact hl _ _ trivial hc h
 ·intro _ x hc h; exact hl _ _ trivial hc h
 ·intro x hc h; exact hl _ _ trivial hc h
 ·intro _ _ _ _ x hc h; exact hl _ _ trivial hc h
 ·intro _ _ _ _ _ x hc h; exact hl _ _ trivial hc h
 ·intro _ _ _ _ _ x hc h; exact hl _ _ trivial hc h
 ·intro _ _ x hc h; exact hl _ _ trivial hc h
 ·intro _ _ _ _ _ _ _ x hc h; exact hl _ _ trivial hc h
 ·intro _ _ _ _ x hc h; exact hl _ _ trivial hc h
 ·intro _ _ _ x hc h; exact hl _ _ trivial hc h
 ·intro cs ih x hc h
  obtain ⟨vs,rfl,h1,h2⟩:=h.agg_inv
  refine .agg _ vs (by rw [a0f]; exact h1) (λ i c v e1 e2=>?_)
  rw [a0e] at e1
  cases hcc:cs[i]? with
  | none=>rw [hcc] at e1; cases e1
  | some u=>
   rw [hcc] at e1
   simp only [Option.map_some,sj_] at e1
   subst e1
   exact ih (hagg cs hc) i u v hcc (h2 i u v hcc e2)
 ·intro cs ih x hc h
  obtain ⟨vs,rfl,h1,h2⟩:=h.tup_inv
  refine .tup _ vs (by rw [a0f]; exact h1) (λ i c v e1 e2=>?_)
  rw [a0e] at e1
  cases hcc:cs[i]? with
  | none=>rw [hcc] at e1; cases e1
  | some u=>
   rw [hcc] at e1
   simp only [Option.map_some,sj_] at e1
   subst e1
   exact ih (htup cs hc) i u v hcc (h2 i u v hcc e2)
 ·intro g cs ih x hc h
  obtain ⟨vs,rfl,h1,h2⟩:=h.clo_inv
  refine .clo _ _ vs (by rw [a0f]; exact h1) (λ i c v e1 e2=>?_)
  rw [a0e] at e1
  cases hcc:cs[i]? with
  | none=>rw [hcc] at e1; cases e1
  | some u=>
   rw [hcc] at e1
   simp only [Option.map_some,sj_] at e1
   subst e1
   exact ih (hclo g cs hc) i u v hcc (h2 i u v hcc e2)
 ·intro _ i u x h; simp at h
 ·intro v l hv hl' hC i u x h hx
  cases i with
  | zero=>
   simp only [List.getElem?_cons_zero,sj_] at h
   subst h
   exact hv x (hC _ (by simp)) hx
  | succ i=>exact hl' (λ u hu=>hC u (by simp [hu])) i u x (by simpa using h) hx
theorem addB_mem {l:List Nat}{b b':Nat}:b∈n1i l b' ↔ b∈l∨b=b':=by
 unfold n1i
 split
 ·rename_i h
  have:b' ∈ l:=by simpa using h
  constructor
  ·exact .inl
  ·rintro (h | rfl)
   ·exact h
   ·exact this
 ·simp
theorem f0w (b:Nat)(v:V):∀ l,(b∈l∨v.anyB (λ b'=>b' == b)=true)→b∈V.bases l v:=by
 have e:∀ b':Nat,(b' == b)=true→b=b':=λ b' h=>(by simpa using h:b' = b).symm
 refine V.rec (motive_1:=λ v=>∀ l,(b∈l∨v.anyB (λ b'=>b' == b)=true)→b∈V.bases l v) (motive_2:=λ vs=>∀ l,(b∈l∨V.anyBs (λ b'=>b' == b) vs=true)→b∈V.basess l vs)
  ?_ ?_ ?_ ?_ ?_ ?_ ?_ ?_ ?_ ?_ ?_ ?_ ?_ ?_ ?_ ?_ ?_ v
 ·rintro l (h | h) <;> first | exact h | cases h
 ·rintro _ l (h | h) <;> first | exact h | cases h
 ·rintro _ _ l (h | h) <;> first | exact h | cases h
 ·rintro _ l (h | h) <;> first | exact h | cases h
 ·rintro l (h | h) <;> first | exact h | cases h
 ·rintro _ _ _ _ l (h | h) <;> first | exact h | cases h
 ·rintro b' _ _ _ _ l h
  exact addB_mem.2 (h.imp id (e b'))
 ·rintro b' _ _ _ _ l h
  exact addB_mem.2 (h.imp id (e b'))
 ·rintro _ _ l (h | h) <;> first | exact h | cases h
 ·rintro b' _ _ _ _ _ _ l h
  exact addB_mem.2 (h.imp id (e b'))
 ·rintro b' _ _ _ l h
  exact addB_mem.2 (h.imp id (e b'))
 ·rintro _ _ _ l (h | h) <;> first | exact h | cases h
 ·intro cs ih l h; exact ih l h
 ·intro cs ih l h; exact ih l h
 ·intro _ cs ih l h; exact ih l h
 ·rintro l (h | h) <;> first | exact h | cases h
 ·intro u vs hu hvs l h
  refine hvs _ ?_
  rcases h with h | h
  ·exact .inl (hu l (.inl h))
  ·rw [V.anyBs,Bool.or_eq_true] at h
   rcases h with h | h
   ·exact .inl (hu l (.inr h))
   ·exact .inr h
theorem Rd.sl_of {S:Nat→Prop}{s k o cap:Nat}{q:Q}{xs:List V}(hr:Rows w S s xs k o)(hq:flatOk q xs)(hl:xs.length≤cap)(hk:S k):Rd w S (.sl s q.isFlat xs) (.slice (some ⟨k,o,none⟩) xs.length cap):=by
 by_cases hx:xs=[]
 ·subst hx; exact .empty _ _ _ _
 ·obtain ⟨r1,g,r2,r3⟩:=hr
  exact .sl s _ xs k o cap g (List.length_pos_iff.2 hx) hl hk r1 (λ e=>hq (by cases q <;> first | rfl | cases e)) r2 r3
theorem p1g {R:Nat→Prop}(hs:Sim Γ st a w)(hR:∀ k,Γ.S k→R k)(v:V):∀ (u:V) (x:Value),f0a (λ b=>st.h.getD b none) v=some u→VR Γ w v x →
  (∀ b,Γ.has b→v.anyB (λ b'=>b' == b)=true→R (Γ.blk b))→(v.anyP (λ _=>true)=true→(∀ d,Γ.lb d→R (Γ.box d)) ∧ ∀ b,Γ.has b→R (Γ.blk b))→Rd w R u x:=by
 have hSq:∀ q k,Γ.Sq q k→R k:=λ q k hk=>hR k (p0b hk)
 have rm:∀ {u:V} {y:Value},Rd w Γ.S u y→Rd w R u y:=λ h=>h.mono hR (λ _ _ _=>rfl)
 have list:∀ (cs:List V) (vs:Array Value) (us:List V),c0t (λ b=>st.h.getD b none) cs=some us →
   (∀ (i:Nat) (c u:V) (y:Value),cs[i]? = some c→us[i]? = some u→vs[i]? = some y→Rd w R u y)→us.length=cs.length→cs.length=vs.size→us.length=vs.size:=λ _ _ _ _ _ h1 h2=>h1.trans h2
 refine V.rec (motive_1:=λ v=>∀ (u:V) (x:Value),f0a (λ b=>st.h.getD b none) v=some u→VR Γ w v x→(∀ b,Γ.has b→v.anyB (λ b'=>b' == b)=true→R (Γ.blk b)) →
   (v.anyP (λ _=>true)=true→(∀ d,Γ.lb d→R (Γ.box d)) ∧ ∀ b,Γ.has b→R (Γ.blk b))→Rd w R u x)
  (motive_2:=λ cs=>∀ (us:List V),c0t (λ b=>st.h.getD b none) cs=some us→us.length=cs.length ∧ ∀ (i:Nat) (c u:V) (y:Value),cs[i]? = some c→us[i]? = some u→VR Γ w c y →
   (∀ b,Γ.has b→V.anyBs (λ b'=>b' == b) cs=true→R (Γ.blk b))→(V.anyPs (λ _=>true) cs=true→(∀ d,Γ.lb d→R (Γ.box d)) ∧ ∀ b,Γ.has b→R (Γ.blk b))→Rd w R u y)
  ?_ ?_ ?_ ?_ ?_ ?_ ?_ ?_ ?_ ?_ ?_ ?_ ?_ ?_ ?_ ?_ ?_ v
 ·intro u x h; cases h
 ·intro b u x h hv _ _
  simp only [f0a,sj_] at h
  subst h; rw [hv.bool_inv]; exact .bool b
 ·intro k n u x h hv _ _
  simp only [f0a,sj_] at h
  subst h; rw [hv.int_inv]; exact .int k n
 ·intro s u x h hv _ _
  simp only [f0a,sj_] at h
  subst h
  obtain ⟨y,rfl,hy⟩:=hv.str_inv
  exact .str s y hy
 ·intro u x h hv _ _
  simp only [f0a,sj_] at h
  subst h; rw [hv.nil_inv]; exact .nil
 ·intro s f xs _ u x h hv _ _
  simp only [f0a,sj_] at h
  subst h; exact rm hv.sl_inv
 ·intro b s q xs _ u x h hv hb _
  simp only [f0a,sj_] at h
  subst h
  rcases hv.own_inv with ⟨rfl,rfl,_⟩ | ⟨rfl,h1,h2,h3,h4,h5⟩
  ·exact .empty _ _ _ _
  ·exact Rd.sl_of (h4.mono (hSq q) (λ _ _ _=>rfl) (λ _ _ _=>rfl)) h5 h3.1 (hb b h1 (by simp [V.anyB]))
 ·intro b s q xs _ u x h hv hb _
  simp only [f0a,sj_] at h
  subst h
  rcases hv.view_inv with ⟨ad,cap,rfl,rfl⟩ | ⟨o,cap,rfl,h1,hx,h3,_,h4,h5⟩
  ·exact .empty _ _ _ _
  ·exact Rd.sl_of (h4.mono (hSq q) (λ _ _ _=>rfl) (λ _ _ _=>rfl)) h5 h3 (hb b h1 (by simp [V.anyB]))
 ·intro d o u x h hv _ hp
  simp only [f0a] at h
  obtain ⟨rfl,hlb⟩:=hv.ptr_inv
  obtain ⟨p1,p2⟩:=hp rfl
  cases hr:st.h.getD d none with
  | none=>rw [hr] at h; cases h
  | some r=>
   rw [hr] at h
   simp only at h
   cases hf:l0s r.cells with
   | none=>rw [hf] at h; cases h
   | some cs=>
    rw [hf] at h
    simp only [Option.map_some,sj_] at h
    subst h
    have hr':st.h[d]? = some (some r):=by
     rw [List.getD_eq_getElem?_getD] at hr
     cases h:st.h[d]? with
     | none=>rw [h] at hr; cases hr
     | some y=>rw [h] at hr; exact congrArg _ hr
    obtain ⟨_,cur,e,h2,h3,h4⟩:=hs.bx d r hr'
    obtain ⟨f1,f2⟩:=p0v hf
    have hcell:∀ j,w.cell? ⟨Γ.box d,j,none⟩=cur[j]?:=λ j=>h0i h2
    refine Rd.iptr (.agg cs) (Γ.box d) 0 o (λ j=>cur.getD j undef) (p1 d hlb) (λ j hj=>?_) (λ j z hz=>?_) |> λ h=>by simpa using h
    ·have hj:j < cur.size:=by simp only [V.cells] at hj; omega
     simp [hcell,hj,Array.getD_eq_getD_getElem?]
    ·obtain ⟨y,y1,y2⟩:=f2 j z hz
     obtain ⟨t,t1,t2⟩:=h4 j y y1
     simp only [Array.getD_eq_getD_getElem?,t1,Option.getD_some]
     exact (p0u (S':=R) hs.good t2 y2 hR (λ b _ hb=>p2 b hb)).1
 ·intro b s q xs i o _ u x h hv hb _
  simp only [f0a] at h
  obtain ⟨rfl,h1,h2,h3,h4,⟨r1,g,r2,r3⟩,h6⟩:=hv.eptr_inv
  cases hx:xs[i]? with
  | none=>rw [hx] at h; cases h
  | some z=>
   rw [hx] at h
   simp only [sj_] at h
   subst h
   refine .iptr z _ (Γ.off b+i * s) o (g i) (hb b h1 (by simp [V.anyB])) (λ j hj=>(r2 i j h4 (by rw [← r1 z (a0a hx)]; exact hj)).1) (λ j y hy=>?_)
   exact (r3 i z j y hx hy).mono (hSq q) (λ _ _ _=>rfl)
 ·intro b z o _ u x h hv hb _
  simp only [f0a,sj_] at h
  subst h
  obtain ⟨o',g,rfl,h1,h2,h3⟩:=hv.vptr_inv
  exact .iptr z _ o' o g (hb b h1 (by simp [V.anyB])) h2 (λ j y hy=>rm (h3 j y hy))
 ·intro z o _ u x h hv _ _
  simp only [f0a,sj_] at h
  subst h
  cases hv with
  | rd _ _ h=>exact rm h
 ·intro cs ih u x h hv hb hp
  simp only [f0a] at h
  cases hc:c0t (λ b=>st.h.getD b none) cs with
  | none=>rw [hc] at h; cases h
  | some us=>
   rw [hc] at h
   simp only [Option.map_some,sj_] at h
   subst h
   obtain ⟨vs,rfl,h1,h2⟩:=hv.agg_inv
   obtain ⟨l1,l2⟩:=ih us hc
   refine .agg us vs (l1.trans h1) (λ i u y hu hy=>?_)
   obtain ⟨z,hz⟩:∃ z,cs[i]? = some z:=⟨_,List.getElem?_eq_getElem (by rw [← l1]; exact (gs_ hu).1)⟩
   exact l2 i z u y hz hu (h2 i z y hz hy) hb hp
 ·intro cs ih u x h hv hb hp
  simp only [f0a] at h
  cases hc:c0t (λ b=>st.h.getD b none) cs with
  | none=>rw [hc] at h; cases h
  | some us=>
   rw [hc] at h
   simp only [Option.map_some,sj_] at h
   subst h
   obtain ⟨vs,rfl,h1,h2⟩:=hv.tup_inv
   obtain ⟨l1,l2⟩:=ih us hc
   refine .tup us vs (l1.trans h1) (λ i u y hu hy=>?_)
   obtain ⟨z,hz⟩:∃ z,cs[i]? = some z:=⟨_,List.getElem?_eq_getElem (by rw [← l1]; exact (gs_ hu).1)⟩
   exact l2 i z u y hz hu (h2 i z y hz hy) hb hp
 ·intro f cs ih u x h hv hb hp
  simp only [f0a] at h
  cases hc:c0t (λ b=>st.h.getD b none) cs with
  | none=>rw [hc] at h; cases h
  | some us=>
   rw [hc] at h
   simp only [Option.map_some,sj_] at h
   subst h
   obtain ⟨vs,rfl,h1,h2⟩:=hv.clo_inv
   obtain ⟨l1,l2⟩:=ih us hc
   refine .clo f us vs (l1.trans h1) (λ i u y hu hy=>?_)
   obtain ⟨z,hz⟩:∃ z,cs[i]? = some z:=⟨_,List.getElem?_eq_getElem (by rw [← l1]; exact (gs_ hu).1)⟩
   exact l2 i z u y hz hu (h2 i z y hz hy) hb hp
 ·intro us h
  simp only [c0t,sj_] at h
  subst h
  exact ⟨rfl,λ i c u y hc=>by simp at hc⟩
 ·intro z cs hz hcs us h
  simp only [c0t] at h
  cases h1:f0a (λ b=>st.h.getD b none) z with
  | none=>rw [h1] at h; cases h
  | some u0=>
   cases h2:c0t (λ b=>st.h.getD b none) cs with
   | none=>rw [h1,h2] at h; cases h
   | some us0=>
    rw [h1,h2] at h
    simp only [sj_] at h
    subst h
    obtain ⟨l1,l2⟩:=hcs us0 h2
    refine ⟨by simp [l1],λ i cc u y hc hu hv hb hp=>?_⟩
    cases i with
    | zero=>
     simp only [List.getElem?_cons_zero,sj_] at hc hu
     subst hc; subst hu
     exact hz u0 y h1 hv (λ b hb1 hb2=>hb b hb1 (by rw [V.anyBs,hb2]; rfl)) (λ h=>hp (by rw [V.anyPs,h]; rfl))
    | succ i=>
     simp only [List.getElem?_cons_succ] at hc hu
     exact l2 i cc u y hc hu hv (λ b hb1 hb2=>hb b hb1 (by rw [V.anyBs,hb2,Bool.or_true])) (λ h=>hp (by rw [V.anyPs,h,Bool.or_true]))
end
end Go.Am
end
section
set_option linter.unusedVariables false
set_option linter.unusedSimpArgs false
namespace Go.Am
open Go Go.RowKit
section
variable {P:Program}{c:Cfg}{Γ Γ':Ctx}{st:St}{a:Act}{w w':World}{den:Nat→List V→Option V}{η:Nat→Option V}{d:Nat}
theorem r0a {az:List V}{r v:V}{esc:List Nat}{n:Nat}(h:y0l d az r=some (.fresh v esc n)) :
  r.anyB (λ b=>decide (999≤b))=false∧v=r.mapB (d0t d)∧n=(if r.anyB (λ _=>true) then 1 else 0)∧(r.old=true→V.anyPs (λ _=>true) az=false∧esc=V.basess [] az)∧(r.old=false→esc=[]):=by
 unfold y0l at h
 split at h
 ·cases h
 ·rename_i h1
  split at h
  ·rename_i h2
   split at h
   ·cases h
   ·rename_i h3
    simp only [sj_,Out.fresh.injEq] at h
    obtain ⟨rfl,rfl,rfl⟩:=h
    exact ⟨by simpa using h1,rfl,rfl,λ _=>⟨by simpa using h3,rfl⟩,λ e=>by rw [h2] at e; cases e⟩
  ·rename_i h2
   simp only [sj_,Out.fresh.injEq] at h
   obtain ⟨rfl,rfl,rfl⟩:=h
   exact ⟨by simpa using h1,rfl,rfl,λ e=>absurd e h2,λ _=>rfl⟩
theorem o1m:∀ {cs:List V},V.olds cs=false → ∀ u∈cs,u.old=false:=by
 intro cs
 induction cs with
 | nil=>intro _ u hu; cases hu
 | cons v vs ih=>
  intro h u hu
  rw [V.olds,Bool.or_eq_false_iff] at h
  rcases List.mem_cons.1 hu with rfl | hu
  ·exact h.1
  ·exact ih h.2 u hu
theorem f0r {cs:List V}{u:V}(hu:u∈cs)(h:u.old=true):V.olds cs=true:=by
 cases ho:V.olds cs with
 | true=>rfl
 | false=>rw [o1m ho u hu] at h; cases h
theorem c0n {p:Nat→Bool}{cs:List V}{u:V}(hu:u∈cs)(h:u.anyB p=true):V.anyBs p cs=true:=by
 cases ho:V.anyBs p cs with
 | true=>rfl
 | false=>rw [a0u ho u hu] at h; cases h
theorem Sim.home {az:List V}{r v:V}{x:Value}{esc:List Nat}{n:Nat}{R:Nat→Prop}{m:Bool}(hs:Sim Γ st a w)(hd:d < 1000)(hf:n=0∨st.freeD d=true)(ht:y0l d az r=some (.fresh v esc n))
    (hR:r.old=true → ∀ k,R k→g0x Γ esc k) (ha:Answer R w r x w'):Sims Γ ((({ st with t:=st.t.set d v }:St).kill esc).mark m) (a.put (some d) x) w':=by
  obtain ⟨t1,rfl,t3,t4,t5⟩:=r0a ht
  obtain ⟨Γr,hv,rF,rS,rb,rinj,rbz,rzf,rU,rns,rnd⟩:=ha.val
  have g:=hs.good
  let p:Nat→Bool:=λ b=>(n != 0) && (b / 1000 == d)
  let Γ':Ctx:={ Γ with S:=λ k=>g0x Γ esc k∨(w.heap.size≤k∧Γr.S k),has:=λ b=>if p b=true then Γr.has (b % 1000)∧b ≠ 999 else Γ.has b,
                       blk:=λ b=>if p b=true then Γr.blk (b % 1000) else Γ.blk b,off:=λ b=>if p b=true then Γr.off (b % 1000) else Γ.off b,
                       cap:=λ b=>if p b=true then Γr.cap (b % 1000) else Γ.cap b,sz:=λ b=>if p b=true then Γr.sz (b % 1000) else Γ.sz b,
                       ln:=λ b=>if p b=true then Γr.ln (b % 1000) else Γ.ln b,Z:=λ k=>Γ.Z k∨Γr.Z k,
                       N:=λ b=>if p b=true then Γr.N (b % 1000) else Γ.N b }
  have hne:∀ b,p b=true→st.freeD d=true∧b / 1000=d:=by
    intro b hb
    simp only [p,Bool.and_eq_true,bne_iff_ne,ne_eq,beq_iff_eq] at hb
    exact ⟨hf.resolve_left hb.1,hb.2⟩
  have hS':∀ k,Γ'.S k→k < w'.heap.size:=by
    rintro k (hk | ⟨_,hk⟩)
    · exact Nat.lt_of_lt_of_le (i0n g hk) ha.size
    · exact (rS k hk).2
  have hgood:Good Γ' w':=by
    refine ⟨ha.os.trans g.os,ha.tape.trans g.tape,ha.output.trans g.output,Nat.le_trans g.size ha.size,λ k hk hF=>?_,g.new,hS',λ b hb=>?_,λ b b' hb hb' he=>?_,λ k hk=>?_,g.boxInj,λ b k hb hk=>?_,λ k hk=>hk.elim (u0f g k) (λ h=>.inr (g.new k (Nat.le_trans g.size h.1))),g.gl,λ b hb=>?bz,λ k hk=>?zf,λ b hb m hm=>?ns,λ h=>?h9⟩
    case h9=>
      change (if p 999=true then _∧(999:Nat) ≠ 999 else Γ.has 999) at h
      split at h
      · exact h.2 rfl
      · exact g.h9 h
    case ns=>
      change (if p b=true then Γr.has (b % 1000)∧b ≠ 999 else Γ.has b) at hb
      change (if p b=true then Γr.N (b % 1000) else Γ.N b) m at hm
      by_cases hp:p b=true
      · rw [if_pos hp] at hb hm
        obtain ⟨h1,h2⟩:=rns _ hb.1 m hm
        exact ⟨.inr ⟨(rzf m h2).1,h1⟩,.inr h2⟩
      · rw [if_neg hp] at hb hm
        obtain ⟨h1,h2⟩:=g.ns b hb m hm
        exact ⟨.inl (.inl h1),.inl h2⟩
    case bz=>
      change (if p b=true then Γr.has (b % 1000)∧b ≠ 999 else Γ.has b) at hb
      show Γ.Z (if p b=true then _ else _)∨Γr.Z (if p b=true then _ else _)
      by_cases hp:p b=true
      · rw [if_pos hp] at hb ⊢
        exact .inr (rbz _ hb.1)
      · rw [if_neg hp] at hb ⊢
        exact .inl (g.bz b hb)
    case zf=>
      rcases hk with hk | hk
      · obtain ⟨z1,z2,cur,e,h⟩:=g.zf k hk
        exact ⟨z1,Nat.lt_of_lt_of_le z2 ha.size,cur,e,(ha.old _ z2).trans h⟩
      · obtain ⟨z1,z2,cur,e,h⟩:=rzf k hk
        exact ⟨.inl (g.new k (Nat.le_trans g.size z1)),z2,cur,e,h⟩
    · exact (ha.old k (Nat.lt_of_lt_of_le hk g.size)).trans (g.old k hk hF)
    · change (if p b=true then Γr.has (b % 1000)∧b ≠ 999 else Γ.has b) at hb
      show Γ.F (if p b=true then _ else _)∧(if p b=true then _ else _) < _∧(if p b=true then _ else _)≤_ ∧ ∃ cur e,w'.heap[if p b=true then Γr.blk (b % 1000) else Γ.blk b]? = some (.cells cur e (0,0)) ∧
        (if p b=true then Γr.off (b % 1000) else Γ.off b)+(if p b=true then Γr.cap (b % 1000) else Γ.cap b) * (if p b=true then Γr.sz (b % 1000) else Γ.sz b)≤cur.size
      by_cases hp:p b=true
      · simp only [if_pos hp] at hb ⊢
        obtain ⟨h1,h2,_,h4,h5⟩:=rb _ hb.1
        exact ⟨g.new _ (Nat.le_trans g.size h1),h2,h4,h5⟩
      · simp only [if_neg hp] at hb ⊢
        obtain ⟨h1,h2,h3,cur,e,h4,h5⟩:=g.base b hb
        exact ⟨h1,Nat.lt_of_lt_of_le h2 ha.size,h3,cur,e,(ha.old _ h2).trans h4,h5⟩
    · change (if p b=true then Γr.has (b % 1000)∧b ≠ 999 else Γ.has b) at hb
      change (if p b' = true then Γr.has (b' % 1000)∧b' ≠ 999 else Γ.has b') at hb'
      change (if p b=true then Γr.blk (b % 1000) else Γ.blk b)=(if p b' = true then Γr.blk (b' % 1000) else Γ.blk b') at he
      by_cases hp:p b=true
      · by_cases hp':p b' = true
        · rw [if_pos hp] at hb; rw [if_pos hp'] at hb'; rw [if_pos hp,if_pos hp'] at he
          have h1:=rinj _ _ hb.1 hb'.1 he
          have h2:=(hne b hp).2
          have h3:=(hne b' hp').2
          omega
        · rw [if_pos hp] at hb; rw [if_neg hp'] at hb'; rw [if_pos hp,if_neg hp'] at he
          have h1:=(rb _ hb.1).1
          have h2:=(g.base _ hb').2.1
          omega
      · by_cases hp':p b' = true
        · rw [if_neg hp] at hb; rw [if_pos hp'] at hb'; rw [if_neg hp,if_pos hp'] at he
          have h1:=(rb _ hb'.1).1
          have h2:=(g.base _ hb).2.1
          omega
        · rw [if_neg hp] at hb; rw [if_neg hp'] at hb'; rw [if_neg hp,if_neg hp'] at he
          exact g.baseInj b b' hb hb' he
    · obtain ⟨h1,h2,h3⟩:=g.box k hk
      refine ⟨h1,?_,Nat.lt_of_lt_of_le h3 ha.size⟩
      rintro (h | ⟨h,_⟩)
      · exact j0j g hk h
      · exact absurd h (by show ¬ w.heap.size≤Γ.box k; omega)
    · change (if p b=true then Γr.has (b % 1000)∧b ≠ 999 else Γ.has b) at hb
      show (if p b=true then Γr.blk (b % 1000) else Γ.blk b) ≠ Γ.box k
      have h3:=(g.box k hk).2.2
      by_cases hp:p b=true
      · rw [if_pos hp] at hb ⊢
        have:=(rb _ hb.1).1
        omega
      · rw [if_neg hp] at hb ⊢
        exact g.baseBox b k hb hk
  refine ⟨Γ',⟨rfl,rfl,rfl,rfl,rfl,λ _ _=>rfl⟩,?_⟩
  refine Sim.extend (p:=p) hs ha.old (λ h=>h) (λ k hk=>.inl (.inl hk)) (λ _ h=>.inl h) (λ b hb=>?_) (λ _ h=>h) (λ _=>rfl) (λ i u hi hu=>?_) (λ i u hu=>?_) hgood ?_ (λ h _=>hs.du h) ?_ ?_
  · have hb:¬ p b=true:=by rw [hb]; simp
    exact ⟨by show (if p b=true then _ else _)↔_; rw [if_neg hb],λ _=>⟨if_neg hb,if_neg hb,if_neg hb,if_neg hb,if_neg hb,λ m hm=>by show (if p b=true then Γr.N (b % 1000) else Γ.N b) m; rw [if_neg hb]; exact hm⟩⟩
  · rcases hf with h0 | hf
    · have:p=λ _=>false:=by funext b; simp [p,h0]
      rw [this]; exact b0r u
    · have h1:=u0p hf i u hi hu
      by_cases h0:n=0
      · have:p=λ _=>false:=by funext b; simp [p,h0]
        rw [this]; exact b0r u
      · have:p=λ b=>b / 1000 == d:=by funext b; simp [p,h0]
        rw [this]; exact h1
  · rcases hf with h0 | hf
    · have:p=λ _=>false:=by funext b; simp [p,h0]
      rw [this]; exact b0r u
    · have h1:=u0o hf i u hu
      by_cases h0:n=0
      · have:p=λ _=>false:=by funext b; simp [p,h0]
        rw [this]; exact b0r u
      · have:p=λ b=>b / 1000 == d:=by funext b; simp [p,h0]
        rw [this]; exact h1
  · intro b hb he hdd
    change (if p b=true then Γr.has (b % 1000)∧b ≠ 999 else Γ.has b) at hb
    show ¬ (g0x Γ esc (if p b=true then Γr.blk (b % 1000) else Γ.blk b)∨(w.heap.size≤(if p b=true then Γr.blk (b % 1000) else Γ.blk b)∧Γr.S (if p b=true then Γr.blk (b % 1000) else Γ.blk b)))
    by_cases hp:p b=true
    · rw [if_pos hp] at hb ⊢
      obtain ⟨h1,_,h3,_⟩:=rb _ hb.1
      rintro (h | ⟨_,h⟩)
      · have:=i0n g h; omega
      · exact h3 h
    · rw [if_neg hp] at hb ⊢
      rintro (h | ⟨h,_⟩)
      · exact h0c g hb (hs.nds b hb hdd) he h
      · have:=(g.base b hb).2.1; omega
  · intro hU b b' hb hb' he hdd he' hdd' hne2 m hm hm'
    change (if p b=true then Γr.has (b % 1000)∧b ≠ 999 else Γ.has b) at hb
    change (if p b' = true then Γr.has (b' % 1000)∧b' ≠ 999 else Γ.has b') at hb'
    change (if p b=true then Γr.N (b % 1000) else Γ.N b) m at hm
    change (if p b' = true then Γr.N (b' % 1000) else Γ.N b') m at hm'
    by_cases hp:p b=true
    · by_cases hp':p b' = true
      · rw [if_pos hp] at hb hm; rw [if_pos hp'] at hb' hm'
        have h2:=(hne b hp).2
        have h3:=(hne b' hp').2
        exact rnd _ _ hb.1 hb'.1 (by omega) m hm hm'
      · rw [if_pos hp] at hb hm; rw [if_neg hp'] at hb' hm'
        have h1:=(rzf m (rns _ hb.1 m hm).2).1
        have h2:=g.slt m (g.ns b' hb' m hm').1
        omega
    · by_cases hp':p b' = true
      · rw [if_neg hp] at hb hm; rw [if_pos hp'] at hb' hm'
        have h1:=(rzf m (rns _ hb'.1 m hm').2).1
        have h2:=g.slt m (g.ns b hb m hm).1
        omega
      · rw [if_neg hp] at hb hm; rw [if_neg hp'] at hb' hm'
        exact hs.nd hU b b' hb hb' hdd hdd' hne2 m hm hm'
  · -- the value
    have hSq:∀ (q:Q),(q.good=false→r.old=true) → ∀ k,Γr.Sq q k→Γ'.Sq q k:=by
      intro q hq k hk
      cases q with
      | any=>
        have ho:=hq rfl
        rcases (rS k hk).1 with h | h
        · exact .inl (hR ho k h)
        · exact .inr ⟨h,hk⟩
      | flat=>exact ⟨.inr ⟨(rzf k hk.2).1,hk.1⟩,.inr hk.2⟩
      | clean=>exact ⟨.inr ⟨(rzf k hk.2).1,hk.1⟩,.inr hk.2⟩
    have hSo:r.old=true → ∀ k,Γr.S k→Γ'.S k:=λ ho k hk=>hSq .any (λ _=>ho) k hk
    refine VR.sweepC (Γ:=Γr) (Γ':=Γ') (w:=w') (w':=w') (λ u=>u.anyB (λ b=>decide (999≤b))=false∧(u.old=true→r.old=true)∧(u.anyB (λ _=>true)=true→n ≠ 0))
      (λ cs h u hu=>⟨a0u h.1 u hu,λ e=>h.2.1 (f0r hu e),λ e=>h.2.2 (c0n hu e)⟩) (λ cs h u hu=>⟨a0u h.1 u hu,λ e=>h.2.1 (f0r hu e),λ e=>h.2.2 (c0n hu e)⟩)
      (λ _ cs h u hu=>⟨a0u h.1 u hu,λ e=>h.2.1 (f0r hu e),λ e=>h.2.2 (c0n hu e)⟩) (λ u y hleaf hc hu=>?_) r x ⟨t1,λ e=>e,λ e=>by rw [t3,if_pos e]; simp⟩ hv
    obtain ⟨c1,c2,c3⟩:=hc
    cases u with
    | undef=>exact VR.undef_ _
    | bool b=>rw [hu.bool_inv]; exact .rd _ _ (.bool b)
    | int k m=>rw [hu.int_inv]; exact .rd _ _ (.int k m)
    | str s=>obtain ⟨z,rfl,hz⟩:=hu.str_inv; exact .rd _ _ (.str s z hz)
    | nil=>rw [hu.nil_inv]; exact .rd _ _ .nil
    | sl s f xs=>exact .rd _ _ (hu.sl_inv.mono (hSo (c2 rfl)) (λ _ _ _=>rfl))
    | iptr z o=>
      cases hu with
      | rd _ _ h=>exact .rd _ _ (h.mono (hSo (c2 rfl)) (λ _ _ _=>rfl))
    | ptr _ _=>exact VR.undef_ _
    | eptr _ _ _ _ _ _=>exact VR.undef_ _
    | vptr _ _ _=>exact VR.undef_ _
    | agg _=>cases hleaf
    | tup _=>cases hleaf
    | clo _ _=>cases hleaf
    | own b s q xs=>
      have hb9:b < 999:=by simpa [V.anyB] using c1
      have hb:b < 1000:=by omega
      have hn0:=c3 rfl
      have hpb:p (base d b)=true:=by simp [p,hn0,f0p hd hb]
      have hmod:base d b % 1000=b:=by unfold base; omega
      have e0:Γ'.has (base d b)=Γr.has b:=by show (if p (base d b)=true then _ else _)=_; rw [if_pos hpb,hmod]; exact propext ⟨λ h=>h.1,λ h=>⟨h,by unfold base; omega⟩⟩
      have e6:Γ'.N (base d b)=Γr.N b:=by show (if p (base d b)=true then _ else _)=_; rw [if_pos hpb,hmod]
      have e1:Γ'.blk (base d b)=Γr.blk b:=by show (if p (base d b)=true then _ else _)=_; rw [if_pos hpb,hmod]
      have e2:Γ'.off (base d b)=Γr.off b:=by show (if p (base d b)=true then _ else _)=_; rw [if_pos hpb,hmod]
      have e3:Γ'.cap (base d b)=Γr.cap b:=by show (if p (base d b)=true then _ else _)=_; rw [if_pos hpb,hmod]
      have e4:Γ'.sz (base d b)=Γr.sz b:=by show (if p (base d b)=true then _ else _)=_; rw [if_pos hpb,hmod]
      have e5:Γ'.ln (base d b)=Γr.ln b:=by show (if p (base d b)=true then _ else _)=_; rw [if_pos hpb,hmod]
      simp only [d0t,Option.getD_some]
      have huq:=hu.own_uq
      rcases hu.own_inv with ⟨rfl,rfl,h3⟩ | ⟨rfl,h1,h2,h3,h4,h5⟩
      · exact .ownNil _ _ _ (by rw [e0]; exact h3)
      · have:=VR.own (Γ:=Γ') (w:=w') (base d b) s q xs (by rw [e0]; exact h1) (by rw [e4]; exact h2) (by rw [e3,e5]; exact h3)
          (by rw [e1,e2]; exact h4.mono (hSq q (λ e=>c2 (by simp [V.old,e]))) (λ _ _ _=>rfl) (λ _ _ _=>rfl)) h5 (λ hq _=>by rw [e1,e2]; exact (huq hq rU).mono (λ m hm=>⟨by rw [e6]; exact hm.1,.inr ⟨(rzf m (rns _ h1 m hm.1).2).1,hm.2⟩⟩) (λ _ _ _=>rfl) (λ _ _ _=>rfl))
        rwa [e1,e2,e3] at this
    | view b s q xs=>
      have hb9:b < 999:=by simpa [V.anyB] using c1
      have hb:b < 1000:=by omega
      have hn0:=c3 rfl
      have hpb:p (base d b)=true:=by simp [p,hn0,f0p hd hb]
      have hmod:base d b % 1000=b:=by unfold base; omega
      have e0:Γ'.has (base d b)=Γr.has b:=by show (if p (base d b)=true then _ else _)=_; rw [if_pos hpb,hmod]; exact propext ⟨λ h=>h.1,λ h=>⟨h,by unfold base; omega⟩⟩
      have e6:Γ'.N (base d b)=Γr.N b:=by show (if p (base d b)=true then _ else _)=_; rw [if_pos hpb,hmod]
      have e1:Γ'.blk (base d b)=Γr.blk b:=by show (if p (base d b)=true then _ else _)=_; rw [if_pos hpb,hmod]
      have e2:Γ'.off (base d b)=Γr.off b:=by show (if p (base d b)=true then _ else _)=_; rw [if_pos hpb,hmod]
      have e3:Γ'.cap (base d b)=Γr.cap b:=by show (if p (base d b)=true then _ else _)=_; rw [if_pos hpb,hmod]
      have e4:Γ'.sz (base d b)=Γr.sz b:=by show (if p (base d b)=true then _ else _)=_; rw [if_pos hpb,hmod]
      simp only [d0t,Option.getD_some]
      have hu0:=hu
      rcases hu.view_inv with ⟨ad,cap,rfl,rfl⟩ | ⟨o,cap,rfl,h1,hx,h3,hfit,h4,h5⟩
      · exact .view0 _ _ _ _ _ (hu.view0_of.to (Iff.of_eq e0) (λ _=>⟨e1,e2,e3,e4⟩))
      · have:=VR.view (Γ:=Γ') (w:=w') (base d b) s q xs o cap (by rw [e0]; exact h1) hx h3 (by rw [e2,e3,e4]; exact hfit)
          (by rw [e1]; exact h4.mono (hSq q (λ e=>c2 (by simp [V.old,e]))) (λ _ _ _=>rfl) (λ _ _ _=>rfl)) h5 (λ hq _=>by rw [e1]; exact (hu0.view_uq hq rU).mono (λ m hm=>⟨by rw [e6]; exact hm.1,.inr ⟨(rzf m (rns _ h1 m hm.1).2).1,hm.2⟩⟩) (λ _ _ _=>rfl) (λ _ _ _=>rfl))
        rwa [e1] at this
theorem q0g:∀ (zs vs:List V) (j:Nat) (u:V),(d0z zs vs)[j]? = some u → ∃ v z,vs[j]? = some v∧(u=h0g z v∨u=v):=by
 intro zs
 induction zs with
 | nil=>intro vs j u h; cases vs <;> exact ⟨u,u,h,.inr rfl⟩
 | cons z zs ih=>
  intro vs j u h
  cases vs with
  | nil=>simp [d0z] at h
  | cons v vs=>
   rw [d0z] at h
   cases j with
   | zero=>
    simp only [List.getElem?_cons_zero,sj_] at h
    exact ⟨v,z,rfl,.inl h.symm⟩
   | succ j=>exact ih vs j u (by simpa using h)
theorem q0h:∀ (zs vs:List V),(d0z zs vs).length=vs.length:=by
 intro zs
 induction zs with
 | nil=>intro vs; cases vs <;> rfl
 | cons z zs ih=>intro vs; cases vs with
  | nil=>rfl
  | cons v vs=>rw [d0z,List.length_cons,ih,List.length_cons]
theorem q0i:∀ (zs:List (List V)) (vs:List V),(e0t zs vs).length=vs.length:=by
 intro zs
 induction zs with
 | nil=>intro vs; cases vs <;> rfl
 | cons z zs ih=>intro vs; cases vs with
  | nil=>rfl
  | cons v vs=>rw [e0t,List.length_cons,ih,List.length_cons]
theorem m0b {R:Nat→Prop}{z v:V}{x:Value}(h:Rd w R v x):Rd w R (h0g z v) x:=by
 unfold h0g
 split
 ·cases h; exact .empty _ _ _ _
 ·exact h
theorem j1p {R:Nat→Prop}{zs:List V}{v:V}{x:Value}(h:Rd w R v x):Rd w R (c1i zs v) x:=by
 cases v with
 | agg cs=>
  cases h with
  | agg _ vs hl hr=>
   refine .agg _ vs (by rw [q0h]; exact hl) (λ i c v e1 e2=>?_)
   obtain ⟨y,z,hy,hu⟩:=q0g _ _ _ _ e1
   rcases hu with rfl | rfl
   ·exact m0b (hr i y v hy e2)
   ·exact hr i _ v hy e2
 | _=>
  unfold c1i
  split
  ·rename_i heq; cases heq
  ·split
   ·exact m0b h
   ·exact h
theorem t0a {R:Nat→Prop}{vals:Array Value}:∀ {zs:List (List V)} {vs:List V},(∀ (i:Nat) (c:V) (v:Value),vs[i]? = some c→vals[i]? = some v→Rd w R c v) → ∀ (i:Nat) (c:V) (v:Value),(e0t zs vs)[i]? = some c→vals[i]? = some v→Rd w R c v:=by
 intro zs vs h i c v hc hv
 have key:∀ (zs:List (List V)) (vs:List V) (i:Nat) (c:V),(e0t zs vs)[i]? = some c → ∃ u,vs[i]? = some u∧((∃ z,c=c1i z u)∨c=u):=by
  intro zs
  induction zs with
  | nil=>intro vs i c h; cases vs <;> exact ⟨c,h,.inr rfl⟩
  | cons z zs ih=>
   intro vs i c h
   cases vs with
   | nil=>simp [e0t] at h
   | cons u vs=>
    rw [e0t] at h
    cases i with
    | zero=>simp only [List.getElem?_cons_zero,sj_] at h; exact ⟨u,rfl,.inl ⟨z,h.symm⟩⟩
    | succ i=>exact ih vs i c (by simpa using h)
 obtain ⟨u,hu,hor⟩:=key zs vs i c hc
 rcases hor with ⟨z,rfl⟩ | rfl
 ·exact j1p (h i u v hu hv)
 ·exact h i _ v hu hv
theorem y0h {R:Nat→Prop}(hs:Sim Γ st a w)(hR:∀ k,Γ.S k→R k):∀ (az us:List V),c0t (λ b=>st.h.getD b none) az=some us→us.length=az.length ∧ ∀ (i:Nat) (z u:V) (y:Value),az[i]? = some z→us[i]? = some u→VR Γ w z y →
   (∀ b,Γ.has b→V.anyBs (λ b'=>b' == b) az=true→R (Γ.blk b))→(V.anyPs (λ _=>true) az=true→(∀ d,Γ.lb d→R (Γ.box d)) ∧ ∀ b,Γ.has b→R (Γ.blk b))→Rd w R u y:=by
 intro az
 induction az with
 | nil=>
  intro us h
  simp only [c0t,sj_] at h
  subst h
  exact ⟨rfl,λ i c u y hc=>by simp at hc⟩
 | cons z cs ih=>
  intro us h
  simp only [c0t] at h
  cases h1:f0a (λ b=>st.h.getD b none) z with
  | none=>rw [h1] at h; cases h
  | some u0=>
   cases h2:c0t (λ b=>st.h.getD b none) cs with
   | none=>rw [h1,h2] at h; cases h
   | some us0=>
    rw [h1,h2] at h
    simp only [sj_] at h
    subst h
    obtain ⟨l1,l2⟩:=ih us0 h2
    refine ⟨by simp [l1],λ i cc u y hc hu hv hb hp=>?_⟩
    cases i with
    | zero=>
     simp only [List.getElem?_cons_zero,sj_] at hc hu
     subst hc; subst hu
     exact p1g hs hR z u0 y h1 hv (λ b hb1 hb2=>hb b hb1 (by rw [V.anyBs,hb2]; rfl)) (λ h=>hp (by rw [V.anyPs,h]; rfl))
    | succ i=>
     simp only [List.getElem?_cons_succ] at hc hu
     exact l2 i cc u y hc hu hv (λ b hb1 hb2=>hb b hb1 (by rw [V.anyBs,hb2,Bool.or_true])) (λ h=>hp (by rw [V.anyPs,h,Bool.or_true]))
theorem f1g (hD:a0r P den)(hs:Sim Γ st a w){o:Oper}{f:Operand}{args:Array Operand}{ts:Array TypeId}{v:V}{esc:List Nat}{n:Nat}(ho:o.op = .call ⟨.value f,args,ts⟩)
  (h:a0d c den (ev st.t) (λ b=>st.h.getD b none) d o.op=some (.fresh v esc n)) (hd:d < 1000) (hf:n=0∨st.freeD d=true) (hod:o.dst=some d)
  (next:Act→World→Prop) (Q:Exit→Act→World→Prop) (hn:∀ a' w',Sims Γ ((({ st with t:=st.t.set d v }:St).kill esc).mark (!a0i st.dead esc)) a' w' → next a' w'):o.wp P a w next Q:=by
 rw [ho] at h
 simp only [a0d] at h
 split at h
 ·rename_i g cap hfv
  split at h
  ·rename_i us hus
   split at h
   ·rename_i r hr
    obtain ⟨⟨fn,hfn,hbody,hname⟩,hcall⟩:=hD _ _ _ hr
    have hfr:=hs.ev f
    rw [hfv] at hfr
    obtain ⟨cv,ef,hcl,hcv⟩:=hfr.clo_inv
    have hexec:(execOp a.eval o).run P w = .ok (.enter g (args.map a.eval++cv)) w:=by
     simp [execOp,ho,ef,resolve,Deferred.ofValue,invoke,callFunc,hfn,hbody]
     have:¬ fn.name = "runtime.NumGoroutine":=by simpa using hname
     simp [this]
     intro hb
     simp [hb] at hbody
    unfold Oper.wp
    rw [hexec,Oper.upon_enter]
    let az:=args.toList.map (ev st.t)++cap
    obtain ⟨_,_,_,t4,t5⟩:=r0a h
    let R:Nat→Prop:=λ k=>if V.anyPs (λ _=>true) az=true then Γ.S k∨(∃ b,Γ.has b∧k=Γ.blk b)∨(∃ d,Γ.lb d∧k=Γ.box d) else g0x Γ (V.basess [] az) k
    have hRlt:∀ k,R k→k < w.heap.size:=by
     intro k hk
     simp only [R] at hk
     split at hk
     ·rcases hk with hk | ⟨b,hb,rfl⟩ | ⟨d,hb,rfl⟩
      ·exact hs.good.slt k hk
      ·exact (hs.good.base b hb).2.1
      ·exact (hs.good.box d hb).2.2
     ·exact i0n hs.good hk
    have hRS:∀ k,Γ.S k→R k:=by
     intro k hk
     simp only [R]
     split
     ·exact .inl hk
     ·exact .inl hk
    have hRb:∀ b,Γ.has b→V.anyBs (λ b'=>b' == b) az=true→R (Γ.blk b):=by
     intro b hb hbs
     simp only [R]
     split
     ·exact .inr (.inl ⟨b,hb,rfl⟩)
     ·refine .inr ⟨b,?_,hb,rfl⟩
      exact f0w b (.agg az) [] (.inr hbs)
    have hRp:V.anyPs (λ _=>true) az=true→(∀ d,Γ.lb d→R (Γ.box d)) ∧ ∀ b,Γ.has b→R (Γ.blk b):=by
     intro hp
     constructor
     ·intro d hd; simp only [R]; rw [if_pos hp]; exact .inr (.inr ⟨d,hd,rfl⟩)
     ·intro b hb; simp only [R]; rw [if_pos hp]; exact .inr (.inl ⟨b,hb,rfl⟩)
    obtain ⟨l1,l2⟩:=y0h hs hRS az us hus
    have hlen:us.length=(args.map a.eval++cv).size:=by
     rw [l1]; simp [az,hcl]
    refine Calls.mono (hcall R w _ hs.good.glob hRlt (by rw [q0i]; exact hlen) (t0a (λ i u y hu hy=>?_))) (λ e w' he=>?_)
    ·obtain ⟨z,hz⟩:∃ z,az[i]? = some z:=⟨_,List.getElem?_eq_getElem (by rw [← l1]; exact (gs_ hu).1)⟩
     refine l2 i z u y hz hu ?_ hRb hRp
     rcases Nat.lt_or_ge i args.size with hi | hi
     ·simp only [az] at hz
      rw [List.getElem?_append_left (by simpa using hi),List.getElem?_map] at hz
      rw [Array.getElem?_append_left (by simpa using hi),Array.getElem?_map] at hy
      simp only [Array.getElem?_toList,Array.getElem?_eq_getElem hi,Option.map_some,sj_] at hz hy
      subst hz; subst hy
      exact hs.ev _
     ·simp only [az] at hz
      rw [List.getElem?_append_right (by simpa using hi)] at hz
      rw [Array.getElem?_append_right (by simpa using hi)] at hy
      simp only [List.length_map,Array.length_toList,Array.size_map] at hz hy
      exact hcv _ z y hz hy
    ·cases e with
     | returned x=>
      refine hn _ _ ?_
      rw [hod]
      refine Sim.home hs hd hf h (λ ho k hk=>?_) he
      obtain ⟨t6,t7⟩:=t4 ho
      simp only [R] at hk
      rw [if_neg (by rw [t6]; simp)] at hk
      rw [t7]
      exact hk
     | panicked _=>cases he
     | outgrown=>cases he
   ·cases h
  ·cases h
 ·cases h
end
end Go.Am
end
section
set_option linter.unusedVariables false
set_option linter.unusedSimpArgs false
namespace Go.Am
open Go Go.RowKit
section
variable {P:Program}{c:Cfg}{Γ Γ':Ctx}{st:St}{a:Act}{w w':World}{den:Nat→List V→Option V}{η:Nat→Option V}{d:Nat}
theorem i1z (hA:b0l P c){e:Nat}(h:d2o c e=true):P.underlying e=some (.int .u8):=by
 unfold d2o at h
 cases h1:c.ty e with
 | none=>rw [h1] at h; cases h
 | some j=>
  rw [h1] at h
  simp only at h
  obtain ⟨tj,aj⟩:=hA _ _ h1
  split at h
  ·rename_i e1; exact aj.int _ e1
  ·cases h
theorem z0a:∀ {xs:List V} {l:List UInt8},e0f xs=some l → ∃ ns:List Int,xs=ns.map (V.int .u8)∧l=ns.map (λ n=>UInt8.ofNat n.toNat):=by
 intro xs
 induction xs with
 | nil=>intro l h; simp only [e0f,sj_] at h; subst h; exact ⟨[],rfl,rfl⟩
 | cons x xs ih=>
  intro l h
  cases x with
  | int k n=>
   cases k with
   | u8=>
    simp only [e0f] at h
    cases hb:e0f xs with
    | none=>rw [hb] at h; cases h
    | some m=>
     rw [hb] at h
     simp only [Option.map_some,sj_] at h
     obtain ⟨ns,h1,h2⟩:=ih hb
     exact ⟨n :: ns,by rw [h1]; rfl,by rw [← h,h2]; rfl⟩
   | _=>simp only [e0f] at h; cases h
  | _=>simp only [e0f] at h; cases h
theorem t0f:∀ (ns:List Int) (s:ByteArray),(ns.foldl (λ r n=>r.push (UInt8.ofNat n.toNat)) s).data.toList=s.data.toList++ns.map (λ n=>UInt8.ofNat n.toNat):=by
 intro ns
 induction ns with
 | nil=>intro s; simp
 | cons n ns ih=>intro s; rw [List.foldl_cons,ih]; simp [ByteArray.push]
theorem e1s (hA:b0l P c)(hs:Sim Γ st a w){o:Oper}{s t:TypeId}{x:Operand}{v:V}(ho:o.op = .convert s t x)(hc:p0p c s t (ev st.t x)=some v):d0o P Γ a w o v:=by
 unfold p0p at hc
 cases hr:l0q c s t (ev st.t x) with
 | none=>rw [hr] at hc; cases hc
 | some xs=>
  rw [hr] at hc
  simp only at hc
  cases hb:e0f xs with
  | none=>rw [hb] at hc; cases hc
  | some l=>
   rw [hb] at hc
   simp only [Option.map_some,sj_] at hc
   subst hc
   obtain ⟨ns,h1,h2⟩:=z0a hb
   unfold l0q at hr
   cases e1:c.ty s with
   | none=>rw [e1] at hr; cases hr
   | some i=>
    cases e2:c.ty t with
    | none=>rw [e1,e2] at hr; cases hr
    | some j=>
     rw [e1,e2] at hr
     simp only at hr
     obtain ⟨ti,ai⟩:=hA _ _ e1
     obtain ⟨tj,aj⟩:=hA _ _ e2
     split at hr
     ·rename_i e g1 g2
      split at hr
      ·rename_i hu
       have hu8:=i1z hA hu
       split at hr
       ·rename_i q ys hsrc
        simp only [sj_] at hr
        subst hr
        have hsl:=ai.slice e g1
        have hstr:=aj.str g2
        have fin:∀ (ad:Option Addr) (n cap:Nat),a.eval x = .slice ad n cap→(∀ b,ad=some b→(loadCells b n).run P w = .ok (ns.map (Value.int .u8)).toArray w)→(ad=none→ns=[])→d0o P Γ a w o (.str l):=by
         intro ad n cap ex h3 h4
         refine ⟨.string (ns.foldl (λ r n=>r.push (UInt8.ofNat n.toNat)) ByteArray.empty),?_,.rd _ _ (.str _ _ (by rw [t0f,h2]; rfl))⟩
         have:(convert s t (.slice ad n cap)).run P w = .ok (.string (ns.foldl (λ r n=>r.push (UInt8.ofNat n.toNat)) ByteArray.empty)) w:=by
          rw [run_convert_bytes_string w s t e ad n cap hsl hu8 hstr]
          cases ad with
          | none=>rw [h4 rfl]; rfl
          | some b=>exact run_bytesToString w b n cap ns (h3 b rfl)
         simp [execOp,ho,ex,this]
        rcases k1r hs.good (hs.ev x) hsrc with ⟨rfl,ad,cap,ex⟩ | ⟨k,o',cap,news,ex,hl,hn1,hn2,hn3,hn4⟩
        ·have:ns=[]:=by cases ns with
          | nil=>rfl
          | cons n ns=>cases h1
         subst this
         exact fin ad 0 cap ex (λ b _=>by simpa using run_loadCells (P:=P) w b 0 (λ _=>.bool false) (λ j hj=>by omega)) (λ _=>rfl)
        ·refine fin _ _ _ ex (λ b hb'=>?_) (λ h=>by cases h)
         cases hb'
         have hadd:∀ j,(⟨k,o',none⟩:Addr).add j=⟨k,o' + j,none⟩:=by intro j; simp [Addr.add]
         have hnews:∀ j,j < ys.length→news[j]? = some (.int .u8 (ns.getD j 0)):=by
          intro j hj
          have hj':j < ns.length:=by rw [h1] at hj; simpa using hj
          have hy:ys[j]? = some (.int .u8 (ns.getD j 0)):=by
           rw [h1,List.getElem?_map,List.getElem?_eq_getElem hj']
           simp [List.getD,hj']
          obtain ⟨z,g1,_,g3,_⟩:=hn4 j _ 0 _ hy rfl
          rw [Nat.mul_one,Nat.add_zero] at g1
          cases g3
          exact g1
         have:=run_loadCells (P:=P) w ⟨k,o',none⟩ ys.length (λ j=>.int .u8 (ns.getD j 0)) (λ j hj=>by
          rw [hadd]
          exact (hn2 j _ (hnews j hj)).1)
         rw [this]
         have hlen:ys.length=ns.length:=by rw [h1]; simp
         congr 2
         rw [hlen]
         apply List.ext_getElem?
         intro j
         rw [List.getElem?_map,List.getElem?_map]
         rcases Nat.lt_or_ge j ns.length with hj | hj
         ·rw [List.getElem?_range hj,List.getElem?_eq_getElem hj]
          simp [List.getD,hj]
         ·rw [List.getElem?_eq_none (by simpa using hj),List.getElem?_eq_none hj]
          rfl
       ·cases hr
      ·cases hr
     ·cases hr
theorem a1v (hA:b0l P c)(hs:Sim Γ st a w){o:Oper}{s t:TypeId}{x:Operand}{v:V}(ho:o.op = .convert s t x)(h:e0e c s t (ev st.t x)=some v)(hd:d < 1000) :
  ∃ y w',(execOp a.eval o).run P w = .ok (.value y) w' ∧ Sims Γ ((({ st with t:=st.t.set d v }:St).kill []).mark false) (a.put (some d) y) w':=by
 unfold e0e at h
 cases e1:c.ty s with
 | none=>rw [e1] at h; cases h
 | some i=>
  cases e2:c.ty t with
  | none=>rw [e1,e2] at h; cases h
  | some j=>
   rw [e1,e2] at h
   simp only at h
   obtain ⟨ti,ai⟩:=hA _ _ e1
   obtain ⟨tj,aj⟩:=hA _ _ e2
   split at h
   ·rename_i e b g1 g2 g3
    split at h
    ·rename_i hu
     simp only [sj_] at h
     subst h
     have hx:=hs.ev x
     rw [g3] at hx
     obtain ⟨y,ey,hy⟩:=hx.str_inv
     have hr:=Lib.run_convert_string_bytes (P:=P) w s t e y (ai.str g1) (aj.slice e g2) (i1z hA hu)
     have hsz:y.size=b.length:=j0w hy
     have hge:=grownCap_ge w y.size 0 e
     have he:(execOp a.eval o).run P w = .ok (.value (.slice (some ⟨w.heap.size,0,none⟩) y.size (grownCap w y.size 0 e))) (Lib.bytesWorld w e y):=by
      simp only [execOp,ho,ey,Sem.run_bind,hr,Result.andThen_ok,Sem.run_pure]
     refine ⟨_,_,he,?_⟩
     refine Sim.home (az:=[]) (r:=.sl 1 true (l0o b)) (n:=0) (R:=λ _=>False) hs hd (.inl rfl) rfl (λ _ _ h=>h.elim) ?_
     refine ⟨rfl,?_,?_,by rw [Lib.bytesWorld_size]; omega,λ k hk=>Lib.bytesWorld_at_old w e y k hk,?_⟩
     ·simp [Lib.bytesWorld,World.freeze,World.alloc,World.drew,-World.alloc_eq,-World.drew_eq]
     ·simp [Lib.bytesWorld,World.freeze,World.alloc,World.drew,-World.alloc_eq,-World.drew_eq]
     ·refine ⟨{ w0:=w,F:=λ k=>w.heap.size≤k,S:=λ k=>k=w.heap.size,has:=λ _=>False,blk:=λ _=>0,off:=λ _=>0,cap:=λ _=>0,sz:=λ _=>0,ln:=λ _=>0,lb:=λ _=>False,box:=λ _=>0,R:=λ _=>False,Z:=λ _=>False,N:=λ _ _=>False,U:=True },
       .rd _ _ ?_,λ k hk=>hk,λ k hk=>⟨.inr (Nat.le_of_eq hk.symm),by rw [hk,Lib.bytesWorld_size]; omega⟩,λ _ h=>h.elim,λ _ _ h=>h.elim,λ _ h=>h.elim,λ _ h=>h.elim,trivial,λ _ h=>h.elim,λ _ _ h=>h.elim⟩
      have hlen:(l0o b).length=b.length:=by simp [l0o]
      by_cases hb:b=[]
      ·subst hb
       have:y.size=0:=hsz
       rw [this]
       exact .empty _ _ _ _
      ·have:=Rd.sl (w:=Lib.bytesWorld w e y) (S:=λ k=>k=w.heap.size) 1 true (l0o b) w.heap.size 0 (grownCap w y.size 0 e) (λ i _=>.int .u8 (b.getD i 0).toNat)
        (by rw [hlen]; exact List.length_pos_iff.2 hb) (by rw [hlen,← hsz]; exact hge) rfl
        (λ x hx=>by obtain ⟨u,_,rfl⟩:=List.mem_map.1 hx; rfl) (λ _ x hx cc hcc=>by
         obtain ⟨u,_,rfl⟩:=List.mem_map.1 hx
         simp only [V.cells,List.mem_singleton] at hcc
         subst hcc
         trivial)
        (λ i j hi hj=>by
         obtain rfl:j=0:=by omega
         rw [hlen] at hi
         refine ⟨?_,rfl⟩
         have:=Lib.bytesWorld_cell w e y i (by rw [hsz]; exact hi)
         rw [hy] at this
         simpa using this)
        (λ i u j cc hu hcc=>by
         have hi:=(gs_ hu).1
         rw [hlen] at hi
         rw [l0o,List.getElem?_map,List.getElem?_eq_getElem hi] at hu
         simp only [Option.map_some,sj_] at hu
         subst hu
         cases j with
         | zero=>
          simp only [V.cells,List.getElem?_cons_zero,sj_] at hcc
          subst hcc
          simp only [List.getD,List.getElem?_eq_getElem hi,Option.getD_some]
          exact .int _ _
         | succ j=>simp [V.cells] at hcc)
       rw [hlen,← hsz] at this
       exact this
    ·cases h
   ·cases h
end
end Go.Am
end
section
set_option linter.unusedVariables false
set_option linter.unusedSimpArgs false
namespace Go.Am
open Go Go.RowKit
section
variable {P:Program}{c:Cfg}{Γ Γ':Ctx}{st:St}{a:Act}{w w':World}{den:Nat→List V→Option V}{η:Nat→Option V}{d:Nat}
theorem l0a {az:List V}{r:V}{out:Out}(h:y0l d az r=some out):∃ v esc n,out = .fresh v esc n:=by
 unfold y0l at h
 repeat' split at h
 all_goals first | (cases h; done) | (simp only [sj_] at h; exact ⟨_,_,_,h.symm⟩)
theorem o1v (hA:b0l P c)(hs:Sim Γ st a w){o:Oper}{v:V}(h:a0d c den (ev st.t) (λ b=>st.h.getD b none) d o.op=some (.val v)):d0o P Γ a w o v:=by
 cases hop:o.op with
 | move x=>
  have e:=h; rw [hop] at e; simp only [a0d,plain,sj_,Out.val.injEq] at e; subst e
  exact x0n hs (.inl hop)
 | assign x=>
  have e:=h; rw [hop] at e; simp only [a0d,plain,sj_,Out.val.injEq] at e; subst e
  exact x0n hs (.inr hop)
 | pick x y z=>exact k1e hs hop h
 | nilCheck x=>exact v0g hs hop h
 | unOp u t x=>exact k1f hs hop h
 | extract x i=>exact x0m hs hop h
 | makeFunc fn first cap=>exact v0f hs hop h
 | convert s t x=>
  rw [hop] at h
  simp only [a0d,plain] at h
  cases hc:p0q c s t (ev st.t x) with
  | some u=>
   rw [hc] at h
   simp only [sj_,Out.val.injEq] at h
   subst h
   exact x0l hA hs hop hc
  | none=>
   rw [hc] at h
   simp only at h
   cases hb:p0p c s t (ev st.t x) with
   | some u=>
    rw [hb] at h
    simp only [sj_,Out.val.injEq] at h
    subst h
    exact e1s hA hs hop hb
   | none=>
    rw [hb] at h
    cases hf:e0e c s t (ev st.t x) <;> rw [hf] at h <;> cases h
 | binOp op t x y t'=>exact e1q hA hs hop h
 | load t x=>exact k1d hA hs hop h
 | fieldAddr t x f=>exact r0r hA hs hop h
 | field t x f=>exact e1t hA hs hop h
 | indexAddr t x y=>exact r0s hA hs hop h
 | index t x y=>exact e1u hA hs hop h
 | slice t x lo hi mx=>exact e1v hA hs hop h
 | build t ps=>exact e1r hA hs hop h
 | call cl=>
  obtain ⟨callee,args,ts⟩:=cl
  cases callee with
  | value f=>
   exfalso
   rw [hop] at h
   simp only [a0d] at h
   split at h
   ·split at h
    ·split at h
     ·obtain ⟨_,_,_,e⟩:=l0a h
      cases e
     ·cases h
    ·cases h
   ·cases h
  | invoke f m=>rw [hop] at h; simp only [a0d] at h; cases h
  | builtin bi=>
   cases bi with
   | len=>exact o1s hA hs hop h
   | min=>exact o1u hs hop h
   | max=>exact o1t hs hop h
   | append=>
    exfalso
    rw [hop] at h
    simp only [a0d] at h
    repeat' split at h
    all_goals cases h
   | _=>rw [hop] at h; simp only [a0d] at h; cases h
 | _=>
  exfalso
  rw [hop] at h
  first
   | (simp only [a0d,plain] at h; cases h; done)
   | (simp only [a0d,plain] at h; (repeat' split at h) <;> cases h)
theorem a1x (hA:b0l P c)(hD:a0r P den)(hs:Sim Γ st a w){o:Oper}{v:V}{esc:List Nat}{n:Nat}(h:a0d c den (ev st.t) (λ b=>st.h.getD b none) d o.op=some (.fresh v esc n))
  (hd:d < 1000) (hf:n=0∨st.freeD d=true) (hod:o.dst=some d)
  (next:Act→World→Prop) (Q:Exit→Act→World→Prop) (hn:∀ a' w',Sims Γ ((({ st with t:=st.t.set d v }:St).kill esc).mark (!a0i st.dead esc)) a' w' → next a' w'):o.wp P a w next Q:=by
 have fin:(∃ x w',(execOp a.eval o).run P w = .ok (.value x) w' ∧ Sims Γ ((({ st with t:=st.t.set d v }:St).kill esc).mark (!a0i st.dead esc)) (a.put (some d) x) w')→o.wp P a w next Q:=by
  rintro ⟨x,w',h1,h2⟩
  unfold Oper.wp
  rw [h1,Oper.upon_value,hod]
  exact hn _ _ h2
 cases hop:o.op with
 | buildSlice t m ps=>exact fin (o0m hA hs hop h hd hf)
 | makeSlice t l k=>exact fin (q0y hA hs hop h hd hf)
 | convert s t x=>
  rw [hop] at h
  simp only [a0d,plain] at h
  cases hc:p0q c s t (ev st.t x) with
  | some u=>rw [hc] at h; cases h
  | none=>
   rw [hc] at h
   simp only at h
   cases hb:p0p c s t (ev st.t x) with
   | some u=>rw [hb] at h; cases h
   | none=>
    rw [hb] at h
    simp only at h
    cases hg:e0e c s t (ev st.t x) with
    | none=>rw [hg] at h; cases h
    | some u=>
     rw [hg] at h
     simp only [Option.map_some,sj_,Out.fresh.injEq] at h
     obtain ⟨rfl,rfl,rfl⟩:=h
     exact fin (a1v hA hs hop hg hd)
 | call cl=>
  obtain ⟨callee,args,ts⟩:=cl
  cases callee with
  | value f=>exact f1g hD hs hop h hd hf hod next Q hn
  | invoke f m=>rw [hop] at h; simp only [a0d] at h; cases h
  | builtin bi=>
   cases bi with
   | append=>exact fin (q0w hA hs hop h hd hf)
   | _=>
    exfalso
    rw [hop] at h
    simp only [a0d,plain] at h
    first
     | (cases h; done)
     | ((repeat' split at h) <;> cases h)
 | unOp u _ _=>
  exfalso
  rw [hop] at h
  cases u <;> simp only [a0d,plain] at h <;> first | (cases h; done) | ((repeat' split at h) <;> cases h)
 | makeFunc fn _ _=>
  exfalso
  rw [hop] at h
  cases fn <;> simp only [a0d,plain] at h <;> first | (cases h; done) | ((repeat' split at h) <;> cases h)
 | slice _ _ _ _ mx=>
  exfalso
  rw [hop] at h
  cases mx <;> simp only [a0d,plain] at h <;> first | (cases h; done) | ((repeat' split at h) <;> cases h)
 | _=>
  exfalso
  rw [hop] at h
  first
   | (simp only [a0d,plain] at h; cases h; done)
   | (simp only [a0d,plain] at h; (repeat' split at h) <;> cases h)
theorem j0x (hA:b0l P c)(hD:a0r P den)(hs:Sim Γ st a w){o:Oper}{st':St}(h:step c den st o=some st')
  (next:Act→World→Prop) (Q:Exit→Act→World→Prop) (hn:∀ a' w',Sims Γ st' a' w' → next a' w'):o.wp P a w next Q:=by
 unfold step at h
 split at h
 ·rename_i he
  cases hop:o.op with
  | store t ad x=>
   obtain ⟨w',h1,h2⟩:=a1z hA hs hop h
   unfold Oper.wp
   rw [h1,Oper.upon_skip]
   exact hn _ _ h2
  | call cl=>
   obtain ⟨callee,args,ts⟩:=cl
   cases callee with
   | value f=>rw [hop] at he; cases he
   | invoke f m=>rw [hop] at he; cases he
   | builtin bi=>
    cases bi with
    | append=>
     obtain ⟨x,w',h1,h2⟩:=q0x hA hs hop h
     unfold Oper.wp
     rw [h1,Oper.upon_value]
     exact hn _ _ h2
    | _=>rw [hop] at he; cases he
  | _=>rw [hop] at he; cases he
 ·split at h
  ·cases h
  ·rename_i d hod
   split at h
   ·cases h
   ·rename_i v hv
    simp only [sj_] at h
    subst h
    obtain ⟨x,h1,h2⟩:=o1v hA hs hv
    unfold Oper.wp
    rw [h1,Oper.upon_value,hod]
    exact hn _ _ ⟨Γ,⟨rfl,rfl,rfl,rfl,rfl,λ _ _=>rfl⟩,hs.put h2⟩
   ·rename_i r hv
    split at h
    ·rename_i hc
     simp only [sj_] at h
     subst h
     obtain ⟨x,w',h1,h2⟩:=k1p hA hs hv hc.1 hc.2.1 hc.2.2.1 hc.2.2.2.1 hc.2.2.2.2
     unfold Oper.wp
     rw [h1,Oper.upon_value,hod]
     exact hn _ _ h2
    ·cases h
   ·rename_i v esc n hv
    split at h
    ·rename_i hc
     simp only [sj_] at h
     subst h
     exact a1x hA hD hs hv hc.1 hc.2.2 hod next Q hn
    ·cases h
end
end Go.Am
end
section
set_option linter.unusedVariables false
set_option linter.unusedSimpArgs false
namespace Go.Am
open Go Go.RowKit
def u0a (p:Nat→Prop)(w w':World):Prop:=w'.os=w.os∧w'.tape=w.tape∧w'.output=w.output∧w.heap.size≤w'.heap.size ∧ ∀ k,k < w.heap.size → ¬ p k→w'.heap[k]? = w.heap[k]?
def w2i (P:Program)(f:Nat)(g:Wr):Prop:=
 (∃ fn,P.funcs[f]? = some fn∧fn.body.isNone=false∧(fn.name == "runtime.NumGoroutine")=false) ∧
 ∀ xs ys n,g.g xs=some (ys,n)→ys.length=xs.length∧n≤xs.length∧(∀ x∈ys,∀ c∈x.cells,r0o c) ∧
  (xs=[] → ∀ w,g0c w→Calls P f #[.slice none 0 0] w λ e w'=>e = .returned (match g.v with
   | true=>.slice none 0 0
   | false=>.tuple #[])∧u0a (λ _=>False) w w') ∧
  ∀ (w:World) (b o cap:Nat) (cur:Array Value) (ty:TypeId),g0c w→i1n≤b→w.heap[b]? = some (.cells cur ty (0,0))→xs.length≤cap→cap≤maxLen→o+cap * g.s≤cur.size→Rows w (λ _=>False) g.s xs b o→(∀ x∈xs,∀ c∈x.cells,r0o c) →
   Calls P f #[.slice (some ⟨b,o,none⟩) xs.length cap] w λ e w'=>e = .returned (match g.v with
    | true=>.slice (some ⟨b,o,none⟩) n cap
    | false=>.tuple #[])∧u0a (λ k=>k=b) w w' ∧ (∃ cur' ty',w'.heap[b]? = some (.cells cur' ty' (0,0))∧cur'.size=cur.size)∧Rows w' (λ _=>False) g.s ys b o
def g1y (P:Program)(c:Cfg):Prop:=∀ f g,c.wr f=some g→w2i P f g
theorem l1i {P:Program}{c:Cfg}(h:∀ f,c.wr f=none):g1y P c:=λ f g hg=>by
 rw [h f] at hg
 cases hg
section
variable {P:Program}{c:Cfg}{Γ Γ':Ctx}{st:St}{a:Act}{w w':World}{den:Nat→List V→Option V}{η:Nat→Option V}{d:Nat}
theorem Rows.plain {S S':Nat→Prop}{s:Nat}{xs:List V}{k o:Nat}(h:Rows w S s xs k o)(hn:∀ x∈xs,∀ c∈x.cells,r0o c):Rows w S' s xs k o:=by
 obtain ⟨h1,g,h2,h3⟩:=h
 exact ⟨h1,g,h2,λ i x j c hx hc=>j1s (h3 i x j c hx hc) (hn x (a0a hx) c (a0a hc))⟩
theorem Rows.take {S:Nat→Prop}{s:Nat}{xs:List V}{k o:Nat}(n:Nat)(h:Rows w S s xs k o):Rows w S s (xs.take n) k o:=by
 obtain ⟨h1,g,h2,h3⟩:=h
 refine ⟨λ x hx=>h1 x (List.mem_of_mem_take hx),g,λ i j hi hj=>h2 i j (by rw [List.length_take] at hi; omega) hj,λ i x j c hx hc=>?_⟩
 rw [List.getElem?_take] at hx
 split at hx
 ·exact h3 i x j c hx hc
 ·cases hx
theorem Sim.renewed (hs:Sim Γ st a w){b:Nat}{ys:List V}{cur cur':Array Value}{ty ty':TypeId}(hb:Γ.has b)(hdead:st.dead b=false)(hk:u0a (λ k=>k=Γ.blk b) w w')
  (hcur:w.heap[Γ.blk b]? = some (.cells cur ty (0,0))) (hcur':w'.heap[Γ.blk b]? = some (.cells cur' ty' (0,0))) (hsz:cur'.size=cur.size)
  (hrows:Rows w' (λ _=>False) (Γ.sz b) ys (Γ.blk b) (Γ.off b)) (hfl:∀ x∈ys,∀ c∈x.cells,r0o c) (hlen:ys.length=Γ.ln b):Sim Γ (st.sweep (c0v b .flat ys)) a w':=by
 have g:=hs.good
 obtain ⟨k1,k2,k3,k4,k5⟩:=hk
 have hS:¬ Γ.S (Γ.blk b):=hs.nds b hb hdead
 have hgood:Good Γ w':=by
  refine ⟨k1.trans g.os,k2.trans g.tape,k3.trans g.output,Nat.le_trans g.size k4,λ k hk hF=>?_,g.new,λ k hk=>Nat.lt_of_lt_of_le (g.slt k hk) k4,λ b' hb'=>?_,g.baseInj,λ d hd=>?_,g.boxInj,g.baseBox,g.sr,g.gl,g.bz,λ k hk=>?_,g.ns,g.h9⟩
  ·rw [k5 k (Nat.lt_of_lt_of_le hk g.size) (λ e=>hF (by rw [e]; exact (g.base b hb).1))]
   exact g.old k hk hF
  ·obtain ⟨b1,b2,b3,cu,e,b4,b5⟩:=g.base b' hb'
   refine ⟨b1,Nat.lt_of_lt_of_le b2 k4,b3,?_⟩
   by_cases hbb:Γ.blk b' = Γ.blk b
   ·rw [hbb] at b4 ⊢
    rw [hcur] at b4
    injection b4 with b4
    injection b4 with b4 b6
    subst b4
    exact ⟨cur',ty',hcur',by rw [hsz]; exact b5⟩
   ·exact ⟨cu,e,(k5 _ b2 hbb).trans b4,b5⟩
  ·obtain ⟨b1,b2,b3⟩:=g.box d hd
   exact ⟨b1,b2,Nat.lt_of_lt_of_le b3 k4⟩
  ·obtain ⟨z1,z2,cu,e,z3⟩:=g.zf k hk
   refine ⟨z1,Nat.lt_of_lt_of_le z2 k4,?_⟩
   by_cases hkk:k=Γ.blk b
   ·subst hkk
    exact ⟨cur',ty',hcur'⟩
   ·exact ⟨cu,e,(k5 k z2 hkk).trans z3⟩
 have keep:∀ {u:V} {y:Value},VR Γ w u y→u.anyB (λ b'=>b' == b)=false→VR Γ w' u y:=λ {u y} hu hp=>by
  refine VR.mono (Γ:=Γ) (Γ':=Γ) (w:=w) (w':=w') (p:=λ b'=>b' == b) (r:=λ _=>false) (λ h=>h) (λ _ h=>h) (λ _ h=>h) (λ k hk=>cell?_of_heap (k5 k (g.slt k hk) (λ e=>hS (e ▸ hk))))
   (λ b' hb'=>⟨Iff.rfl,λ hh=>⟨rfl,rfl,rfl,rfl,rfl,λ _ h=>h,cell?_of_heap (k5 _ (g.base b' hh).2.1 (λ e=>?_))⟩⟩) (λ _ _=>⟨λ h=>h,rfl⟩) hu hp (a0z _)
  have:=g.baseInj b' b hh hb e
  subst this
  simp at hb'
 have hflat:flatOk .flat ys:=λ _=>hfl
 have hcap:∀ {xs:List V},xs.length≤Γ.cap b∧xs.length=Γ.ln b→ys.length≤Γ.cap b∧ys.length=Γ.ln b:=λ h=>⟨by omega,hlen⟩
 refine Sim.sweep (f:=c0v b .flat ys) (dead:=st.dead) (dup:=st.dup) hs ?_ (q0p b _ ys) hgood (λ _ h=>h) (λ _=>rfl) (λ k' hk'=>k5 _ (g.box k' hk').2.2 (λ e=>g.baseBox b k' hb hk' e.symm)) hs.nds hs.du hs.nd
 intro u y hleaf hu
 cases u with
 | own b' s' q' zs=>
  simp only [c0v]
  split
  ·rename_i hbb
   subst hbb
   simp only [Option.getD_some]
   rcases hu.own_inv with ⟨_,_,h3⟩ | ⟨h1,_,h3,h4,_⟩
   ·exact absurd hb h3
   ·have hzl:zs.length=ys.length:=by rw [hlen,h4.2]
    have:=VR.own (Γ:=Γ) (w:=w') b' s' .flat ys hb h3 (hcap h4) (by rw [h3]; exact hrows.plain hfl) hflat (λ h=>by cases h)
    rw [h1,hzl]
    exact this
  ·rename_i hbb
   exact keep hu (by simpa [V.anyB] using hbb)
 | view b' s' q' zs=>
  simp only [c0v]
  split
  ·exact VR.undef_ _
  ·rename_i hbb
   exact keep hu (by simpa [V.anyB] using hbb)
 | eptr b' s' q' zs i' o'=>
  simp only [c0v]
  split
  ·exact VR.undef_ _
  ·rename_i hbb
   exact keep hu (by simpa [V.anyB] using hbb)
 | vptr b' z o'=>
  simp only [c0v]
  split
  ·exact VR.undef_ _
  ·rename_i hbb
   exact keep hu (by simpa [V.anyB] using hbb)
 | agg _=>cases hleaf
 | tup _=>cases hleaf
 | clo _ _=>cases hleaf
 | _=>exact keep hu rfl
theorem Sim.renewed0 (hs:Sim Γ st a w){b:Nat}(hb:¬ Γ.has b)(hk:u0a (λ _=>False) w w'):Sim Γ (st.sweep (c0v b .flat [])) a w':=by
 have g:=hs.good
 obtain ⟨k1,k2,k3,k4,k5⟩:=hk
 have hold:∀ k,k < w.heap.size→w'.heap[k]? = w.heap[k]?:=λ k hk=>k5 k hk (λ h=>h)
 have hgood:Good Γ w':=by
  refine ⟨k1.trans g.os,k2.trans g.tape,k3.trans g.output,Nat.le_trans g.size k4,λ k hk hF=>?_,g.new,λ k hk=>Nat.lt_of_lt_of_le (g.slt k hk) k4,λ b' hb'=>?_,g.baseInj,λ d hd=>?_,g.boxInj,g.baseBox,g.sr,g.gl,g.bz,λ k hk=>?_,g.ns,g.h9⟩
  ·rw [hold k (Nat.lt_of_lt_of_le hk g.size)]
   exact g.old k hk hF
  ·obtain ⟨b1,b2,b3,cu,e,b4,b5⟩:=g.base b' hb'
   exact ⟨b1,Nat.lt_of_lt_of_le b2 k4,b3,cu,e,(hold _ b2).trans b4,b5⟩
  ·obtain ⟨b1,b2,b3⟩:=g.box d hd
   exact ⟨b1,b2,Nat.lt_of_lt_of_le b3 k4⟩
  ·obtain ⟨z1,z2,cu,e,z3⟩:=g.zf k hk
   exact ⟨z1,Nat.lt_of_lt_of_le z2 k4,cu,e,(hold k z2).trans z3⟩
 have keep:∀ {u:V} {y:Value},VR Γ w u y→VR Γ w' u y:=λ {u y} hu=>by
  have hu0:u.anyB (λ _=>false)=false:=b0r _
  exact VR.mono (Γ:=Γ) (Γ':=Γ) (w:=w) (w':=w') (p:=λ _=>false) (r:=λ _=>false) (λ h=>h) (λ _ h=>h) (λ _ h=>h) (λ k hk=>cell?_of_heap (hold k (g.slt k hk)))
   (λ b' hb'=>⟨Iff.rfl,λ hh=>⟨rfl,rfl,rfl,rfl,rfl,λ _ h=>h,cell?_of_heap (hold _ (g.base b' hh).2.1)⟩⟩) (λ _ _=>⟨λ h=>h,rfl⟩) hu hu0 (a0z _)
 refine Sim.sweep (f:=c0v b .flat []) (dead:=st.dead) (dup:=st.dup) hs ?_ (q0p b _ []) hgood (λ _ h=>h) (λ _=>rfl) (λ k' hk'=>hold _ (g.box k' hk').2.2) hs.nds hs.du hs.nd
 intro u y hleaf hu
 cases u with
 | own b' s' q' zs=>
  simp only [c0v]
  split
  ·rename_i hbb
   subst hbb
   simp only [Option.getD_some]
   rcases hu.own_inv with ⟨h1,_,_⟩ | ⟨_,h2,_⟩
   ·rw [h1]
    exact .ownNil _ _ _ hb
   ·exact absurd h2 hb
  ·exact keep hu
 | view b' s' q' zs=>
  simp only [c0v]
  split
  ·exact VR.undef_ _
  ·exact keep hu
 | eptr b' s' q' zs i' o'=>
  simp only [c0v]
  split
  ·exact VR.undef_ _
  ·exact keep hu
 | vptr b' z o'=>
  simp only [c0v]
  split
  ·exact VR.undef_ _
  ·exact keep hu
 | agg _=>cases hleaf
 | tup _=>cases hleaf
 | clo _ _=>cases hleaf
 | _=>exact keep hu
theorem p1f (hW:g1y P c)(hs:Sim Γ st a w){o:Oper}{g:Wr}{x:Operand}{st':St}(ho:v1j c o.op=some (g,x))(h:y0p st o.dst g x=some st')
  (next:Act→World→Prop) (Q:Exit→Act→World→Prop) (hn:∀ a' w',Sims Γ st' a' w' → next a' w'):o.wp P a w next Q:=by
 unfold v1j at ho
 split at ho
 ·rename_i f args ts hop
  split at ho
  ·rename_i g' x' hg hargs
   simp only [sj_,Prod.mk.injEq] at ho
   obtain ⟨rfl,rfl⟩:=ho
   have hargs:args = #[x']:=by
    obtain ⟨l⟩:=args
    simp only at hargs
    rw [hargs]
   subst hargs
   obtain ⟨⟨fn,hfn,hbody,hname⟩,hcon⟩:=hW f g' hg
   have ef:a.eval (.func f) = .func (.func f) #[] #[]:=by
    obtain ⟨cv,ef,hcl,_⟩:=(show VR Γ w (.clo f []) (a.eval (.func f)) from hs.ev (.func f)).clo_inv
    rw [ef]
    congr 1
    exact Array.eq_empty_of_size_eq_zero (by simpa using hcl.symm)
   have hexec:(execOp a.eval o).run P w = .ok (.enter f #[a.eval x']) w:=by
    simp [execOp,hop,ef,resolve,Deferred.ofValue,invoke,callFunc,hfn,hbody]
    have:¬ fn.name = "runtime.NumGoroutine":=by simpa using hname
    simp [this]
    intro hb
    simp [hb] at hbody
   unfold Oper.wp
   rw [hexec,Oper.upon_enter]
   unfold y0p at h
   split at h
   ·rename_i b s q xs d hx hd
    split at h
    ·rename_i hc
     obtain ⟨hdead,hb9,rfl,rfl⟩:=hc
     split at h
     ·rename_i ys n hg2
      simp only [sj_] at h
      subst h
      obtain ⟨hyl,hnl,hfl,hnil,hown⟩:=hcon xs ys n hg2
      have hv:=hs.ev x'
      rw [hx] at hv
      have hfx:∀ z,VR Γ w (.own b g'.s .flat xs) z → ∀ x∈xs,∀ c∈x.cells,r0o c:=λ z hz=>by
       cases hz with
       | rd _ _ h=>cases h
       | ownNil _ _ _ _=>intro x hx; cases hx
       | own _ _ _ _ _ _ _ _ hq _=>exact hq rfl
      have hfx:=hfx _ hv
      rcases hv.own_inv with ⟨h1,h2,h3⟩ | ⟨h1,hb,h3,h4,h5,h6⟩
      ·subst h2
       have hy0:ys=[]:=List.length_eq_zero_iff.1 (by simpa using hyl)
       subst hy0
       rw [h1]
       refine Calls.mono (hnil rfl w hs.good.glob) (λ e w' he=>?_)
       obtain ⟨rfl,hk⟩:=he
       refine hn _ _ ⟨Γ,⟨rfl,rfl,rfl,rfl,rfl,λ _ _=>rfl⟩,?_⟩
       rw [hd]
       refine (hs.renewed0 h3 hk).put ?_
       cases g'.v with
       | true=>
        show VR Γ w' (.view b g'.s .flat (([]:List V).take n)) (.slice none 0 0)
        rw [List.take_nil]
        exact .view0 _ _ _ _ _ (.inl ⟨rfl,rfl,h3⟩)
       | false=>exact .tup [] #[] rfl (λ i c v h=>by simp at h)
      ·obtain ⟨b1,b2,b3,cur,ty,b4,b5⟩:=hs.good.base b hb
       rw [h1]
       refine Calls.mono (hown w (Γ.blk b) (Γ.off b) (Γ.cap b) cur ty hs.good.glob (hs.good.gl.2 _ b1) b4 h4.1 b3 (by rw [h3]; exact b5) (h5.plain hfx) hfx) (λ e w' he=>?_)
       obtain ⟨rfl,hk,⟨cur',ty',hc1,hc2⟩,hrows⟩:=he
       refine hn _ _ ⟨Γ,⟨rfl,rfl,rfl,rfl,rfl,λ _ _=>rfl⟩,?_⟩
       rw [hd]
       refine (hs.renewed hb hdead hk b4 hc1 hc2 (by rw [← h3]; exact hrows) hfl (hyl.trans h4.2)).put ?_
       cases g'.v with
       | false=>exact .tup [] #[] rfl (λ i c v h=>by simp at h)
       | true=>
        have htl:(ys.take n).length=n:=by rw [List.length_take]; omega
        rcases Nat.eq_zero_or_pos n with h0 | h0
        ·subst h0
         exact .view0 _ _ _ _ _ (.inr ⟨hb,_,rfl,by rw [h3]; exact Nat.le_refl _,Nat.le_refl _⟩)
        ·have:=VR.view (Γ:=Γ) (w:=w') b g'.s .flat (ys.take n) (Γ.off b) (Γ.cap b) hb (by omega) (by omega) ⟨by rw [h3]; exact Nat.le_refl _,Nat.le_refl _⟩ (Rows.take n (hrows.plain hfl)) (λ _ x hx=>hfl x (List.mem_of_mem_take hx)) (λ h=>by cases h)
         rw [htl] at this
         exact this
     ·cases h
    ·cases h
   ·cases h
  ·cases ho
 ·cases ho
end
end Go.Am
end

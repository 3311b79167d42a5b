/-
  The operations that make a block: a box, a slice.
-/
import Derived.Test.YthcnbncpgloonaaGreatuAmPure2
set_option linter.unusedVariables false
set_option linter.unusedSimpArgs false
namespace Go.Am
open Go Go.RowKit
section
variable {P:Program}{c:Cfg}{Γ:Ctx}{st:St}{a:Act}{w:World}{den:Nat→List V→Option V}{η:Nat→Option V}{d:Nat}
theorem a0c (w:World)(o:Obj){k:Nat}(h:k < w.heap.size):(w.alloc o).heap[k]? = w.heap[k]?:=Below.heap_alloc w o k h
theorem b0y (w:World)(o:Obj):(w.alloc o).heap[w.heap.size]? = some o:=by
 show (w.heap.push o)[w.heap.size]? = _
 simp
theorem size_alloc (w:World)(o:Obj):(w.alloc o).heap.size=w.heap.size+1:=by
 show (w.heap.push o).size=_
 simp
theorem Sim.extend {Γ':Ctx}{w':World}{p:Nat→Bool}{v:V}{x:Value}{esc:List Nat}{m:Bool}(hs:Sim Γ st a w)(hw:∀ k,k < w.heap.size→w'.heap[k]? = w.heap[k]?)
  (hU:Γ'.U→Γ.U) (hS:∀ k,Γ.S k→Γ'.S k) (hF:∀ k,Γ.Z k→Γ'.Z k)
  (hb:∀ b,p b=false→(Γ'.has b↔Γ.has b)∧(Γ.has b→Γ'.blk b=Γ.blk b∧Γ'.off b=Γ.off b∧Γ'.cap b=Γ.cap b∧Γ'.sz b=Γ.sz b∧Γ'.ln b=Γ.ln b ∧ ∀ m,Γ.N b m→Γ'.N b m))
  (hl:∀ k,Γ.lb k→Γ'.lb k) (hx:∀ k,Γ'.box k=Γ.box k)
  (hp:∀ (i:Nat) (u:V),i ≠ d→st.t[i]? = some u→u.anyB p=false) (hp':∀ (i:Nat) (u:V),st.h[i]? = some (some u)→u.anyB p=false)
  (hg:Good Γ' w') (hn:∀ b,Γ'.has b→esc.contains b=false→st.dead b=false → ¬ Γ'.S (Γ'.blk b))
  (hdu:st.dup=false→m=false→Γ'.U)
  (hnd:Γ'.U → ∀ b b',Γ'.has b→Γ'.has b' → esc.contains b=false→st.dead b=false→esc.contains b' = false→st.dead b' = false→b ≠ b' → ∀ m,Γ'.N b m→Γ'.N b' m→False) (hv:VR Γ' w' v x) (hnt:Γ'.nt=Γ.nt:=by rfl) :
  Sim Γ' ((({ st with t:=st.t.set d v }:St).kill esc).mark m) (a.put (some d) x) w':=by
 have hcell:∀ k,k < w.heap.size → ∀ o,w'.cell? ⟨k,o,none⟩=w.cell? ⟨k,o,none⟩:=λ k hk o=>cell?_of_heap (hw k hk) o
 have hmono:∀ {u:V} {y:Value},VR Γ w u y→u.anyB p=false→VR Γ' w' u y:=by
  intro u y hu hup
  refine VR.mono (p:=p) (r:=λ _=>false) hU hS hF (λ k hk=>hcell k (hs.good.slt k hk)) (λ b hb'=>?_) (λ k _=>⟨hl k,hx k⟩) hu hup ?_
  ·obtain ⟨e1,e2⟩:=hb b hb'
   exact ⟨e1,λ hh=>⟨(e2 hh).1,(e2 hh).2.1,(e2 hh).2.2.1,(e2 hh).2.2.2.1,(e2 hh).2.2.2.2.1,(e2 hh).2.2.2.2.2,λ o=>hcell _ (hs.good.base b hh).2.1 o⟩⟩
  ·clear hu hup hv hn hg
   have:∀ u:V,u.anyP (λ _=>false)=false:=by
    intro u
    exact V.rec (motive_1:=λ u=>u.anyP (λ _=>false)=false) (motive_2:=λ l=>V.anyPs (λ _=>false) l=false)
     rfl (λ _=>rfl) (λ _ _=>rfl) (λ _=>rfl) rfl (λ _ _ _ _=>rfl) (λ _ _ _ _ _=>rfl) (λ _ _ _ _ _=>rfl) (λ _ _=>rfl) (λ _ _ _ _ _ _ _=>rfl) (λ _ _ _ _=>rfl) (λ _ _ _=>rfl)
     (λ _ h=>h) (λ _ h=>h) (λ _ _ h=>h) rfl (λ _ _ h1 h2=>by rw [V.anyPs,h1,h2]; rfl) u
   exact this u
 refine ⟨hg,hs.dz,by simp [Act.put,St.kill,St.mark,hs.len],λ i u hu=>?_,λ k u hu=>?_,λ b h1 h2=>?_,λ h=>?du,λ hU b b' h1 h1' h2 h2'=>?nd,by simp [St.kill,St.mark,hs.nt,hnt]⟩
 case du=>
  simp only [St.kill,St.mark,Bool.or_eq_false_iff] at h
  exact hdu h.2 h.1
 case nd=>
  simp only [St.kill,St.mark,Bool.or_eq_false_iff] at h2 h2'
  exact hnd hU b b' h1 h1' h2.1 h2.2 h2'.1 h2'.2
 ·simp only [St.kill,St.mark,Act.put] at hu ⊢
  rw [List.getElem?_set] at hu
  split at hu
  ·rename_i hid
   subst hid
   split at hu
   ·rename_i hlt
    injection hu with hu
    subst hu
    exact ⟨x,by rw [Array.getElem?_setIfInBounds]; simp [hs.len,hlt],hv⟩
   ·cases hu
  ·rename_i hid
   obtain ⟨y,hy,h⟩:=hs.tm i u hu
   exact ⟨y,by rw [Array.getElem?_setIfInBounds]; simp [hid,hy],hmono h (hp i u (λ e=>hid e.symm) hu)⟩
 ·simp only [St.kill,St.mark] at hu
  obtain ⟨h1,cur,e,h2,h3,h4⟩:=hs.bx k u hu
  refine ⟨hl k h1,cur,e,?_,h3,λ j z hz=>?_⟩
  ·rw [hx,hw _ (hs.good.box k h1).2.2]; exact h2
  ·obtain ⟨y,e1,e3⟩:=h4 j z hz
   refine ⟨y,e1,hmono e3 ?_⟩
   have hup:=hp' k u hu
   cases u with
   | agg cs=>exact a0u hup z (a0a hz)
   | _=>
    obtain rfl:j=0:=by
     cases j with
     | zero=>rfl
     | succ j=>simp [V.cells] at hz
    simp only [V.cells,List.getElem?_cons_zero,sj_] at hz
    subst hz
    exact hup
 ·simp only [St.kill,St.mark,Bool.or_eq_false_iff] at h2
  exact hn b h1 h2.1 h2.2
theorem a0z (u:V):u.anyP (λ _=>false)=false:=
 V.rec (motive_1:=λ u=>u.anyP (λ _=>false)=false) (motive_2:=λ l=>V.anyPs (λ _=>false) l=false)
  rfl (λ _=>rfl) (λ _ _=>rfl) (λ _=>rfl) rfl (λ _ _ _ _=>rfl) (λ _ _ _ _ _=>rfl) (λ _ _ _ _ _=>rfl) (λ _ _=>rfl) (λ _ _ _ _ _ _ _=>rfl) (λ _ _ _ _=>rfl) (λ _ _ _=>rfl)
  (λ _ h=>h) (λ _ h=>h) (λ _ _ h=>h) rfl (λ _ _ h1 h2=>by rw [V.anyPs,h1,h2]; rfl) u
theorem b0r (u:V):u.anyB (λ _=>false)=false:=
 V.rec (motive_1:=λ u=>u.anyB (λ _=>false)=false) (motive_2:=λ l=>V.anyBs (λ _=>false) l=false)
  rfl (λ _=>rfl) (λ _ _=>rfl) (λ _=>rfl) rfl (λ _ _ _ _=>rfl) (λ _ _ _ _ _=>rfl) (λ _ _ _ _ _=>rfl) (λ _ _=>rfl) (λ _ _ _ _ _ _ _=>rfl) (λ _ _ _ _=>rfl) (λ _ _ _=>rfl)
  (λ _ h=>h) (λ _ h=>h) (λ _ _ h=>h) rfl (λ _ _ h1 h2=>by rw [V.anyBs,h1,h2]; rfl) u
theorem i0o {p:Nat→Bool}:∀ {l:List (Option V)},k0r p l=false → ∀ u,some u∈l→u.anyB p=false:=by
  intro l
  induction l with
  | nil=>intro _ u hu; cases hu
  | cons x l ih=>
    intro h u hu
    cases x with
    | none=>rcases List.mem_cons.1 hu with e | hu
            · cases e
            · exact ih h u hu
    | some y=>
      rw [k0r,Bool.or_eq_false_iff] at h
      rcases List.mem_cons.1 hu with e | hu
      · injection e with e; subst e; exact h.1
      · exact ih h.2 u hu
theorem l0k {p:Nat→Bool}:∀ {l:List (Option V)},l0j p l=false → ∀ u,some u∈l→u.anyP p=false:=by
  intro l
  induction l with
  | nil=>intro _ u hu; cases hu
  | cons x l ih=>
    intro h u hu
    cases x with
    | none=>rcases List.mem_cons.1 hu with e | hu
            · cases e
            · exact ih h u hu
    | some y=>
      rw [l0j,Bool.or_eq_false_iff] at h
      rcases List.mem_cons.1 hu with e | hu
      · injection e with e; subst e; exact h.1
      · exact ih h.2 u hu
theorem u0p (h:st.freeD d=true)(i:Nat)(u:V)(hi:i ≠ d)(hu:st.t[i]? = some u):u.anyB (λ b=>b / 1000 == d)=false:=by
 unfold St.freeD at h
 rw [Bool.and_eq_true,Bool.not_eq_true',Bool.not_eq_true'] at h
 exact a0u h.1 u (a0a (i:=i) (by rw [List.getElem?_set,if_neg (λ e=>hi e.symm)]; exact hu))
theorem u0o (h:st.freeD d=true)(i:Nat)(u:V)(hu:st.h[i]? = some (some u)):u.anyB (λ b=>b / 1000 == d)=false:=by
 unfold St.freeD at h
 rw [Bool.and_eq_true,Bool.not_eq_true',Bool.not_eq_true'] at h
 exact i0o h.2 u (a0a hu)
theorem i1j (h:st.freeP d=true)(i:Nat)(u:V)(hi:i ≠ d)(hu:st.t[i]? = some u):u.anyP (λ b=>b == d)=false:=by
 unfold St.freeP at h
 rw [Bool.and_eq_true,Bool.not_eq_true',Bool.not_eq_true'] at h
 exact c0o h.1 u (a0a (i:=i) (by rw [List.getElem?_set,if_neg (λ e=>hi e.symm)]; exact hu))
theorem i1i (h:st.freeP d=true)(i:Nat)(u:V)(hu:st.h[i]? = some (some u)):u.anyP (λ b=>b == d)=false:=by
 unfold St.freeP at h
 rw [Bool.and_eq_true,Bool.not_eq_true',Bool.not_eq_true'] at h
 exact l0k h.2 u (a0a hu)
theorem s0j {p:Nat→Bool}{u z:V}{j:Nat}(h:u.anyB p=false)(hz:u.cells[j]? = some z):z.anyB p=false:=by
 cases u with
 | agg cs=>exact a0u h z (a0a hz)
 | _=>
  obtain rfl:j=0:=by
   cases j with
   | zero=>rfl
   | succ j=>simp [V.cells] at hz
  simp only [V.cells,List.getElem?_cons_zero,sj_] at hz
  subst hz
  exact h
theorem j0n {p:Nat→Bool}{u z:V}{j:Nat}(h:u.anyP p=false)(hz:u.cells[j]? = some z):z.anyP p=false:=by
 cases u with
 | agg cs=>exact c0o h z (a0a hz)
 | _=>
  obtain rfl:j=0:=by
   cases j with
   | zero=>rfl
   | succ j=>simp [V.cells] at hz
  simp only [V.cells,List.getElem?_cons_zero,sj_] at hz
  subst hz
  exact h
theorem Sim.newBox {r:V}{cs:Array Value}{e:TypeId}(hs:Sim Γ st a w)(hdt:d < st.t.length)(hd:d < st.h.length)(hf:st.freeP d=true)(hn:(st.h.getD d none).isNone=true)
  (hl:r.cells.length=cs.size) (hr:∀ (j:Nat) (u:V),r.cells[j]? = some u → ∃ y,cs[j]? = some y∧VR Γ w u y) (hrp:r.anyP (λ b=>b == d)=false) :
  Sims Γ { st with t:=st.t.set d (.ptr d 0),h:=st.h.set d (some r) } (a.put (some d) (.pointer (some ⟨w.heap.size,0,none⟩))) (w.alloc (.cells cs e)):=by
 let Γ':Ctx:={ Γ with lb:=λ k=>Γ.lb k∧k ≠ d∨k=d,box:=λ k=>if k=d then w.heap.size else Γ.box k }
 refine ⟨Γ',⟨rfl,rfl,rfl,rfl,rfl,λ k hk=>if_neg (by have:=hs.nt; omega)⟩,?_⟩
 have hcell:∀ k,k < w.heap.size → ∀ o,(w.alloc (.cells cs e)).cell? ⟨k,o,none⟩=w.cell? ⟨k,o,none⟩:=λ k hk o=>cell?_of_heap (a0c w _ hk) o
 have hmono:∀ {u:V} {y:Value},VR Γ w u y→u.anyP (λ b=>b == d)=false→VR Γ' (w.alloc (.cells cs e)) u y:=by
  intro u y hu hup
  refine VR.mono (Γ:=Γ) (Γ':=Γ') (p:=λ _=>false) (r:=λ b=>b == d) (λ h=>h) (λ _ h=>h) (λ _ h=>h) (λ k hk=>hcell k (hs.good.slt k hk)) (λ b _=>⟨Iff.rfl,λ hh=>⟨rfl,rfl,rfl,rfl,rfl,λ _ h=>h,λ o=>hcell _ (hs.good.base b hh).2.1 o⟩⟩) (λ k hk=>?_) hu (b0r u) hup
  have hk:k ≠ d:=by simpa using hk
  exact ⟨λ h=>.inl ⟨h,hk⟩,if_neg hk⟩
 have g:=hs.good
 have hsz:=size_alloc w (.cells cs e)
 have hgood:Good Γ' (w.alloc (.cells cs e)):=by
  refine ⟨g.os,g.tape,g.output,Nat.le_trans g.size (by rw [hsz]; omega),λ k hk hF=>?_,g.new,λ k hk=>?_,λ b hb=>?_,g.baseInj,λ k hk=>?_,λ k k' hk hk' he=>?_,λ b k hb hk=>?_,g.sr,g.gl,g.bz,λ k hk=>(let ⟨h1,h2,cur,e',h⟩:=g.zf k hk; ⟨h1,by rw [hsz]; omega,cur,e',(a0c w _ h2).trans h⟩),g.ns,g.h9⟩
  ·exact (a0c w _ (Nat.lt_of_lt_of_le hk g.size)).trans (g.old k hk hF)
  ·have:=g.slt k hk; rw [hsz]; omega
  ·obtain ⟨h1,h2,h3,cur,e',h4,h5⟩:=g.base b hb
   exact ⟨h1,Nat.lt_of_lt_of_le h2 (by rw [hsz]; omega),h3,cur,e',(a0c w _ h2).trans h4,h5⟩
  ·by_cases hkd:k=d
   ·subst hkd
    show Γ.F (if k=k then _ else _) ∧ ¬ Γ.S (if k=k then _ else _)∧(if k=k then _ else _) < _
    rw [if_pos rfl,hsz]
    exact ⟨g.new _ g.size,λ h=>by have:=g.slt _ h; omega,by omega⟩
   ·rcases hk with ⟨hk,_⟩ | hk
    ·obtain ⟨h1,h2,h3⟩:=g.box k hk
     show Γ.F (if k=d then _ else _) ∧ ¬ Γ.S (if k=d then _ else _)∧(if k=d then _ else _) < _
     rw [if_neg hkd,hsz]
     exact ⟨h1,h2,by omega⟩
    ·exact absurd hk hkd
  ·change (if k=d then w.heap.size else Γ.box k)=(if k' = d then w.heap.size else Γ.box k') at he
   by_cases h1:k=d
   ·by_cases h2:k' = d
    ·rw [h1,h2]
    ·rcases hk' with ⟨hk',_⟩ | hk'
     ·rw [if_pos h1,if_neg h2] at he
      have:=(g.box k' hk').2.2; omega
     ·exact absurd hk' h2
   ·rcases hk with ⟨hk,_⟩ | hk
    ·by_cases h2:k' = d
     ·rw [if_neg h1,if_pos h2] at he
      have:=(g.box k hk).2.2; omega
     ·rcases hk' with ⟨hk',_⟩ | hk'
      ·rw [if_neg h1,if_neg h2] at he
       exact g.boxInj k k' hk hk' he
      ·exact absurd hk' h2
    ·exact absurd hk h1
  ·show Γ.blk b ≠ (if k=d then w.heap.size else Γ.box k)
   by_cases h1:k=d
   ·rw [if_pos h1]; have:=(g.base b hb).2.1; omega
   ·rcases hk with ⟨hk,_⟩ | hk
    ·rw [if_neg h1]; exact g.baseBox b k hb hk
    ·exact absurd hk h1
 clear hdt
 refine ⟨hgood,hs.dz,by simp [Act.put,hs.len],λ i u hu=>?_,λ k u hu=>?_,hs.nds,hs.du,hs.nd,by simp [hs.nt,Γ']⟩
 ·simp only [Act.put] at hu ⊢
  rw [List.getElem?_set] at hu
  split at hu
  ·rename_i hid
   subst hid
   split at hu
   ·rename_i hlt
    injection hu with hu
    subst hu
    refine ⟨.pointer (some ⟨w.heap.size,0,none⟩),by rw [Array.getElem?_setIfInBounds]; simp [hs.len,hlt],?_⟩
    have:=VR.ptr (Γ:=Γ') (w:=w.alloc (.cells cs e)) d 0 (.inr rfl)
    have e1:Γ'.box d=w.heap.size:=if_pos rfl
    rwa [e1] at this
   ·cases hu
  ·rename_i hid
   obtain ⟨y,hy,h⟩:=hs.tm i u hu
   exact ⟨y,by rw [Array.getElem?_setIfInBounds]; simp [hid,hy],hmono h (i1j hf i u (λ e=>hid e.symm) hu)⟩
 ·simp only at hu
  rw [List.getElem?_set] at hu
  split at hu
  ·rename_i hkd
   subst hkd
   injection hu with hu
   injection hu with hu
   subst hu
   refine ⟨.inr rfl,cs,e,?_,hl,λ j z hz=>?_⟩
   ·have e1:Γ'.box d=w.heap.size:=if_pos rfl
    rw [e1]; exact b0y w _
   ·obtain ⟨y,e1,e3⟩:=hr j z hz
    exact ⟨y,e1,hmono e3 (j0n hrp hz)⟩
  ·rename_i hkd
   obtain ⟨h1,cur,e',h2,h3,h4⟩:=hs.bx k u hu
   have hkd':k ≠ d:=λ e=>hkd e.symm
   refine ⟨.inl ⟨h1,hkd'⟩,cur,e',?_,h3,λ j z hz=>?_⟩
   ·have e1:Γ'.box k=Γ.box k:=if_neg hkd'
    rw [e1]
    exact (a0c w _ (g.box k h1).2.2).trans h2
   ·obtain ⟨y,e1,e3⟩:=h4 j z hz
    exact ⟨y,e1,hmono e3 (j0n (i1i hf k u hu) hz)⟩
def g0x (Γ:Ctx)(esc:List Nat):Nat→Prop:=λ k=>Γ.S k ∨ ∃ b,b∈esc∧Γ.has b∧k=Γ.blk b
theorem p0u {S':Nat→Prop}{v u:V}{y:Value}(g:Good Γ w)(h:VR Γ w v y)(hf:flat v=some u)(hS:∀ k,Γ.S k→S' k)(hb:∀ b∈c0f v,Γ.has b→S' (Γ.blk b)) :
  Rd w S' u y∧y.oneCell' = true∧((k0s v).good=true→Rd w (λ k=>S' k∧Γ.Z k) u y)∧(k0s v = .flat→r0o u):=by
 cases v with
 | bool b=>
  simp only [flat,sj_] at hf
  subst hf
  rw [h.bool_inv]
  exact ⟨.bool b,rfl,λ _=>.bool b,λ _=>trivial⟩
 | int k n=>
  simp only [flat,sj_] at hf
  subst hf
  rw [h.int_inv]
  exact ⟨.int k n,rfl,λ _=>.int k n,λ _=>trivial⟩
 | str s=>
  simp only [flat,sj_] at hf
  subst hf
  obtain ⟨z,rfl,hz⟩:=h.str_inv
  exact ⟨.str s z hz,rfl,λ _=>.str s z hz,λ _=>trivial⟩
 | nil=>
  simp only [flat,sj_] at hf
  subst hf
  rw [h.nil_inv]
  exact ⟨.nil,rfl,λ _=>.nil,λ _=>trivial⟩
 | sl s f xs=>
  simp only [flat,sj_] at hf
  subst hf
  have hr:=h.sl_inv
  refine ⟨hr.mono hS (λ _ _ _=>rfl),?_,λ e=>(by cases e),λ e=>(by cases e)⟩
  cases hr <;> rfl
 | own b s q xs=>
  simp only [flat,sj_] at hf
  subst hf
  rcases h.own_inv with ⟨rfl,rfl,_⟩ | ⟨rfl,h1,h2,h3,⟨r1,gg,r2,r3⟩,h5⟩
  ·exact ⟨.empty _ _ _ _,rfl,λ _=>.empty _ _ _ _,λ e=>by cases q <;> cases e⟩
  ·have hk:=hb b (by simp [c0f]) h1
   have hfl:q.isFlat=true → ∀ x∈xs,∀ c∈x.cells,r0o c:=by
    intro e; cases q <;> first | exact h5 rfl | cases e
   by_cases hx:xs=[]
   ·subst hx
    exact ⟨.empty _ _ _ _,rfl,λ _=>.empty _ _ _ _,λ e=>by cases q <;> cases e⟩
   ·have hx:0 < xs.length:=List.length_pos_iff.2 hx
    refine ⟨.sl s q.isFlat xs _ _ _ gg hx h3.1 hk r1 hfl r2 (λ i x j c e1 e2=>(r3 i x j c e1 e2).mono (λ k hk=>hS k (p0b hk)) (λ _ _ _=>rfl)),rfl,λ e=>?_,λ e=>by cases q <;> cases e⟩
    have hq:q.good=true:=by
     cases q <;> first | rfl | cases e
    have hsq:∀ k,Γ.Sq q k→Γ.S k∧Γ.Z k:=by
     intro k hk
     cases q <;> first | exact hk | cases hq
    exact .sl s q.isFlat xs _ _ _ gg hx h3.1 ⟨hk,g.bz b h1⟩ r1 hfl r2 (λ i x j c e1 e2=>(r3 i x j c e1 e2).mono (λ k hk=>⟨hS k (hsq k hk).1,(hsq k hk).2⟩) (λ _ _ _=>rfl))
 | view b s q xs=>
  simp only [flat,sj_] at hf
  subst hf
  rcases h.view_inv with ⟨ad,cap,rfl,rfl⟩ | ⟨o,cap,rfl,h1,hx,h3,_,⟨r1,gg,r2,r3⟩,h5⟩
  ·exact ⟨.empty _ _ _ _,rfl,λ _=>.empty _ _ _ _,λ e=>by cases q <;> cases e⟩
  ·have hk:=hb b (by simp [c0f]) h1
   have hfl:q.isFlat=true → ∀ x∈xs,∀ c∈x.cells,r0o c:=by
    intro e; cases q <;> first | exact h5 rfl | cases e
   refine ⟨.sl s q.isFlat xs _ _ _ gg hx h3 hk r1 hfl r2 (λ i x j c e1 e2=>(r3 i x j c e1 e2).mono (λ k hk=>hS k (p0b hk)) (λ _ _ _=>rfl)),rfl,λ e=>?_,λ e=>by cases q <;> cases e⟩
   have hq:q.good=true:=by
    cases q <;> first | rfl | cases e
   have hsq:∀ k,Γ.Sq q k→Γ.S k∧Γ.Z k:=by
    intro k hk
    cases q <;> first | exact hk | cases hq
   exact .sl s q.isFlat xs _ _ _ gg hx h3 ⟨hk,g.bz b h1⟩ r1 hfl r2 (λ i x j c e1 e2=>(r3 i x j c e1 e2).mono (λ k hk=>⟨hS k (hsq k hk).1,(hsq k hk).2⟩) (λ _ _ _=>rfl))
 | _=>cases hf
theorem d1h {q:Q}{b s k o:Nat}{xs:List V}(hu:Γ.Uq w q b s xs k o)(hr:Rows w (Γ.Sq q) s xs k o)(hf:flatOk q xs)(hq:q.good=true)(hU:Γ.U):TrRows w (λ m=>Γ.N b m∧Γ.S m) s xs k o:=by
 cases q with
 | any=>cases hq
 | clean=>exact hu rfl hU
 | flat=>
  obtain ⟨r1,gg,r2,r3⟩:=hr
  exact ⟨gg,λ _ _ _=>False,λ i j hi hj=>(r2 i j hi hj).1,λ i x j c hx hc=>.leaf _ _ _ (hf rfl x (a0a hx) c (a0a hc)),λ _ _ _ _ _ h=>h.elim,λ _ _ _ h=>h.elim⟩
theorem z0l {v u:V}{y:Value}(h:VR Γ w v y)(hf:flat v=some u)(hq:(k0s v).good=true)(hU:Γ.U)(hl:∀ b∈c0f v,Γ.has b → ¬ Γ.S (Γ.blk b)) :
  Tr w u y (λ m=>∃ b∈c0f v,Γ.has b∧(m=Γ.blk b∨Γ.N b m)):=by
 cases v with
 | bool b=>
  simp only [flat,sj_] at hf
  subst hf
  exact .leaf _ _ _ trivial
 | int k n=>
  simp only [flat,sj_] at hf
  subst hf
  exact .leaf _ _ _ trivial
 | str s=>
  simp only [flat,sj_] at hf
  subst hf
  exact .leaf _ _ _ trivial
 | nil=>
  simp only [flat,sj_] at hf
  subst hf
  exact .leaf _ _ _ trivial
 | sl s f xs=>cases hq
 | own b s q xs=>
  simp only [flat,sj_] at hf
  subst hf
  have hq2:q.good=true:=by cases q <;> first | rfl | cases hq
  have hu:=h.own_uq
  rcases h.own_inv with ⟨rfl,rfl,_⟩ | ⟨rfl,h1,h2,h3,h4,h5⟩
  ·exact .empty _ _ _ _ _
  ·by_cases hx:xs=[]
   ·subst hx
    exact .empty _ _ _ _ _
   ·obtain ⟨gg,T,t1,t2,t3,t4⟩:=d1h hu h4 h5 hq2 hU
    exact .sl s q.isFlat xs _ _ _ gg T _ (List.length_pos_iff.2 hx) t1 t2 t3 (λ i j ht=>hl b (by simp [c0f]) h1 (t4 i j _ ht).2) ⟨b,by simp [c0f],h1,.inl rfl⟩ (λ i j m hm=>⟨b,by simp [c0f],h1,.inr (t4 i j m hm).1⟩)
 | view b s q xs=>
  simp only [flat,sj_] at hf
  subst hf
  have hq2:q.good=true:=by cases q <;> first | rfl | cases hq
  have h0:=h
  rcases h.view_inv with ⟨ad,cap,rfl,rfl⟩ | ⟨o,cap,rfl,h1,hx,h3,_,h4,h5⟩
  ·exact .empty _ _ _ _ _
  ·obtain ⟨gg,T,t1,t2,t3,t4⟩:=d1h h0.view_uq h4 h5 hq2 hU
   exact .sl s q.isFlat xs _ _ _ gg T _ hx t1 t2 t3 (λ i j ht=>hl b (by simp [c0f]) h1 (t4 i j _ ht).2) ⟨b,by simp [c0f],h1,.inl rfl⟩ (λ i j m hm=>⟨b,by simp [c0f],h1,.inr (t4 i j m hm).1⟩)
 | _=>cases hf
theorem q0f {dead:Nat→Bool}{b:Nat}{l:List Nat}(h:a0i dead (b :: l)=true):(b=999∨(dead b=false ∧ ¬ b∈l))∧a0i dead l=true:=by
 simp only [a0i,Bool.and_eq_true,Bool.or_eq_true,beq_iff_eq,Bool.not_eq_true',List.contains_eq_mem,decide_eq_false_iff_not] at h
 exact h
theorem b0v {dead:Nat→Bool}:∀ {l:List Nat},a0i dead l=true → ∀ b∈l,b ≠ 999→dead b=false:=by
 intro l
 induction l with
 | nil=>intro _ b hb; cases hb
 | cons a l ih=>
  intro h b hb hne
  obtain ⟨h1,h2⟩:=q0f h
  rcases List.mem_cons.1 hb with rfl | hb
  ·exact (h1.resolve_left hne).1
  ·exact ih h2 b hb hne
theorem m0a {dead:Nat→Bool}:∀ {l1 l2:List Nat},a0i dead (l1++l2)=true→a0i dead l1=true∧a0i dead l2=true ∧ ∀ b,b∈l1→b∈l2→b=999:=by
 intro l1
 induction l1 with
 | nil=>intro l2 h; exact ⟨rfl,h,λ b hb=>(by cases hb)⟩
 | cons a l ih=>
  intro l2 h
  obtain ⟨h1,h2⟩:=q0f (b:=a) (l:=l++l2) h
  obtain ⟨i1,i2,i3⟩:=ih h2
  refine ⟨?_,i2,λ b hb hb2=>?_⟩
  ·simp only [a0i,Bool.and_eq_true,Bool.or_eq_true,beq_iff_eq,Bool.not_eq_true',List.contains_eq_mem,decide_eq_false_iff_not]
   exact ⟨h1.imp id (λ h=>⟨h.1,λ hm=>h.2 (List.mem_append.2 (.inl hm))⟩),i1⟩
  ·rcases List.mem_cons.1 hb with rfl | hb
   ·rcases h1 with h1 | h1
    ·exact h1
    ·exact absurd (List.mem_append.2 (.inr hb2)) h1.2
   ·exact i3 b hb hb2
theorem p0v:∀ {cs us:List V},l0s cs=some us→us.length=cs.length ∧ ∀ (j:Nat) (u:V),us[j]? = some u → ∃ v,cs[j]? = some v∧flat v=some u:=by
 intro cs
 induction cs with
 | nil=>intro us h; simp only [l0s,sj_] at h; subst h; exact ⟨rfl,λ j u hu=>by simp at hu⟩
 | cons v cs ih=>
  intro us h
  simp only [l0s] at h
  cases h1:flat v with
  | none=>rw [h1] at h; cases h
  | some x=>
   cases h2:l0s cs with
   | none=>rw [h1,h2] at h; cases h
   | some xs=>
    rw [h1,h2] at h
    simp only [sj_] at h
    subst h
    obtain ⟨e1,e2⟩:=ih h2
    refine ⟨by simp [e1],λ j u hu=>?_⟩
    cases j with
    | zero=>simp only [List.getElem?_cons_zero,sj_] at hu ⊢; subst hu; exact ⟨v,rfl,h1⟩
    | succ j=>exact e2 j u hu
theorem d1p {v u:V}(h:flat v=some u):u.cells=[u]∧v.cells=[v]:=by
 cases v <;> simp only [flat,sj_] at h <;> first | (cases h; done) | (subst h; exact ⟨rfl,rfl⟩)
theorem e0q {v u:V}(h:i0u v=some u):u.cells.length=v.cells.length ∧ ∀ (j:Nat) (z:V),u.cells[j]? = some z → ∃ y,v.cells[j]? = some y∧flat y=some z:=by
 cases v with
 | agg cs=>
  simp only [i0u] at h
  cases hc:l0s cs with
  | none=>rw [hc] at h; cases h
  | some us=>
   rw [hc] at h
   simp only [Option.map_some,sj_] at h
   subst h
   exact p0v hc
 | _=>
  simp only [i0u] at h
  obtain ⟨e1,e2⟩:=d1p h
  rw [e1,e2]
  refine ⟨rfl,λ j z hz=>?_⟩
  cases j with
  | zero=>simp only [List.getElem?_cons_zero,sj_] at hz ⊢; subst hz; exact ⟨_,rfl,h⟩
  | succ j=>simp at hz
theorem i0v:∀ {xs ys:List V},g0q xs=some ys→ys.length=xs.length ∧ ∀ (i:Nat) (y:V),ys[i]? = some y → ∃ x,xs[i]? = some x∧i0u x=some y:=by
 intro xs
 induction xs with
 | nil=>intro ys h; simp only [g0q,sj_] at h; subst h; exact ⟨rfl,λ j u hu=>by simp at hu⟩
 | cons v xs ih=>
  intro ys h
  simp only [g0q] at h
  cases h1:i0u v with
  | none=>rw [h1] at h; cases h
  | some x=>
   cases h2:g0q xs with
   | none=>rw [h1,h2] at h; cases h
   | some zs=>
    rw [h1,h2] at h
    simp only [sj_] at h
    subst h
    obtain ⟨e1,e2⟩:=ih h2
    refine ⟨by simp [e1],λ j u hu=>?_⟩
    cases j with
    | zero=>simp only [List.getElem?_cons_zero,sj_] at hu ⊢; subst hu; exact ⟨v,rfl,h1⟩
    | succ j=>exact e2 j u hu
theorem b0d {p q:Q}(h:(p.join q).good=true):p.good=true∧q.good=true:=by cases p <;> cases q <;> first | exact ⟨rfl,rfl⟩ | cases h
theorem d0r {p q:Q}(h:p.join q = .flat):p = .flat∧q = .flat:=by cases p <;> cases q <;> first | exact ⟨rfl,rfl⟩ | cases h
theorem t0c {z v:V}{x:Value}(h9:¬ Γ.has 999)(h:VR Γ w v x):VR Γ w (e0u z v) x:=by
 unfold e0u
 split
 ·rw [h.nil_inv]; exact .view0 _ _ _ _ _ (.inl ⟨rfl,rfl,h9⟩)
 ·exact h
theorem n0x:∀ (zs vs:List V),(d0e zs vs).length=vs.length:=by
 intro zs
 induction zs with
 | nil=>intro vs; cases vs <;> rfl
 | cons z zs ih=>intro vs; cases vs with
  | nil=>rfl
  | cons v vs=>rw [d0e,List.length_cons,ih,List.length_cons]
theorem n0w:∀ (zs vs:List V) (j:Nat) (u:V),(d0e zs vs)[j]? = some u → ∃ v z,vs[j]? = some v∧(u=e0u z v∨u=v):=by
 intro zs
 induction zs with
 | nil=>intro vs j u h; cases vs <;> exact ⟨u,u,h,.inr rfl⟩
 | cons z zs ih=>
  intro vs j u h
  cases vs with
  | nil=>simp [d0e] at h
  | cons v vs=>
   rw [d0e] at h
   cases j with
   | zero=>
    simp only [List.getElem?_cons_zero,sj_] at h
    exact ⟨v,z,rfl,.inl h.symm⟩
   | succ j=>exact ih vs j u (by simpa using h)
theorem j0e (zs:List V)(v:V):(c0e zs v).cells=d0e zs v.cells:=by
 cases v with
 | agg cs=>rfl
 | nil=>cases zs with
  | nil=>rfl
  | cons z zs=>cases z <;> cases zs <;> rfl
 | _=>cases zs with
  | nil=>rfl
  | cons z zs=>cases zs <;> rfl
theorem t0d (zs:List V)(v:V):(c0e zs v).cells.length=v.cells.length:=by rw [j0e,n0x]
theorem m0z {zs:List V}{v u:V}{j:Nat}(h:(c0e zs v).cells[j]? = some u):∃ y z,v.cells[j]? = some y∧(u=e0u z y∨u=y):=by
 rw [j0e] at h
 exact n0w zs v.cells j u h
theorem m0y {z v u:V}{x:Value}(h9:¬ Γ.has 999)(h:u=e0u z v∨u=v)(hv:VR Γ w v x):VR Γ w u x:=by
 rcases h with rfl | rfl
 ·exact t0c h9 hv
 ·exact hv
theorem j1r {zs:List V}{v:V}{x:Value}(h9:¬ Γ.has 999)(h:VR Γ w v x):VR Γ w (c0e zs v) x:=by
 cases v with
 | agg cs=>
  obtain ⟨vs,rfl,h1,h2⟩:=h.agg_inv
  refine .agg _ vs (by rw [n0x]; exact h1) (λ i c v e1 e2=>?_)
  obtain ⟨y,z,hy,hu⟩:=n0w _ _ _ _ e1
  exact m0y h9 hu (h2 i y v hy e2)
 | _=>
  unfold c0e
  split
  ·rename_i heq; cases heq
  ·split
   ·exact t0c h9 h
   ·exact h
theorem a1a (zs:List V):∀ xs,(e0j zs xs).length=xs.length:=by
 intro xs
 induction xs with
 | nil=>rfl
 | cons x xs ih=>rw [e0j,List.length_cons,ih,List.length_cons]
theorem q0j (zs:List V):∀ (xs:List V) (i:Nat) (y:V),(e0j zs xs)[i]? = some y → ∃ x,xs[i]? = some x∧y=c0e zs x:=by
 intro xs
 induction xs with
 | nil=>intro i y h; simp [e0j] at h
 | cons x xs ih=>
  intro i y h
  rw [e0j] at h
  cases i with
  | zero=>simp only [List.getElem?_cons_zero,sj_] at h; exact ⟨x,rfl,h.symm⟩
  | succ i=>exact ih i y (by simpa using h)
theorem h0j {cs:List V}(h:(f0g cs).good=true):∀ v∈cs,(k0s v).good=true:=by
 induction cs with
 | nil=>intro v hv; cases hv
 | cons u cs ih=>
  intro v hv
  obtain ⟨h1,h2⟩:=b0d h
  rcases List.mem_cons.1 hv with rfl | hv
  ·exact h1
  ·exact ih h2 v hv
theorem f0x {cs:List V}(h:f0g cs = .flat):∀ v∈cs,k0s v = .flat:=by
 induction cs with
 | nil=>intro v hv; cases hv
 | cons u cs ih=>
  intro v hv
  obtain ⟨h1,h2⟩:=d0r h
  rcases List.mem_cons.1 hv with rfl | hv
  ·exact h1
  ·exact ih h2 v hv
theorem t0l {xs:List V}(h:(a1k xs).good=true):∀ x∈xs,∀ v∈x.cells,(k0s v).good=true:=by
 induction xs with
 | nil=>intro x hx; cases hx
 | cons u xs ih=>
  intro x hx
  obtain ⟨h1,h2⟩:=b0d h
  rcases List.mem_cons.1 hx with rfl | hx
  ·exact h0j h1
  ·exact ih h2 x hx
theorem f1a {xs:List V}(h:a1k xs = .flat):∀ x∈xs,∀ v∈x.cells,k0s v = .flat:=by
 induction xs with
 | nil=>intro x hx; cases hx
 | cons u xs ih=>
  intro x hx
  obtain ⟨h1,h2⟩:=d0r h
  rcases List.mem_cons.1 hx with rfl | hx
  ·exact f0x h1
  ·exact ih h2 x hx
theorem c0q {cs:List V}{v:V}(hv:v∈cs):∀ b∈c0f v,b∈b0k cs:=by
 induction cs with
 | nil=>cases hv
 | cons u cs ih=>
  intro b hb
  rw [b0k,List.mem_append]
  rcases List.mem_cons.1 hv with rfl | hv
  ·exact .inl hb
  ·exact .inr (ih hv b hb)
theorem m0h {xs:List V}{x:V}(hx:x∈xs):∀ b∈b0k x.cells,b∈n0d xs:=by
 induction xs with
 | nil=>cases hx
 | cons u xs ih=>
  intro b hb
  rw [n0d,List.mem_append]
  rcases List.mem_cons.1 hx with rfl | hx
  ·exact .inl hb
  ·exact .inr (ih hx b hb)
theorem p0k {dead:Nat→Bool}:∀ {cs:List V},a0i dead (b0k cs)=true → ∀ (j j':Nat) (c c':V) (b:Nat),cs[j]? = some c→cs[j']? = some c' → b∈c0f c→b∈c0f c' → b ≠ 999→j=j':=by
 intro cs
 induction cs with
 | nil=>intro _ j j' c c' b h; simp at h
 | cons u cs ih=>
  intro h j j' c c' b h1 h2 h3 h4 hne
  obtain ⟨m1,m2,m3⟩:=m0a (l1:=c0f u) (l2:=b0k cs) h
  cases j with
  | zero=>
   cases j' with
   | zero=>rfl
   | succ j'=>
    simp only [List.getElem?_cons_zero,sj_] at h1
    subst h1
    exact absurd (m3 b h3 (c0q (a0a (i:=j') (by simpa using h2)) b h4)) hne
  | succ j=>
   cases j' with
   | zero=>
    simp only [List.getElem?_cons_zero,sj_] at h2
    subst h2
    exact absurd (m3 b h4 (c0q (a0a (i:=j) (by simpa using h1)) b h3)) hne
   | succ j'=>rw [ih m2 j j' c c' b (by simpa using h1) (by simpa using h2) h3 h4 hne]
theorem a1j {dead:Nat→Bool}:∀ {xs:List V},a0i dead (n0d xs)=true → ∀ (i i' j j':Nat) (x x' c c':V) (b:Nat),xs[i]? = some x→xs[i']? = some x' → x.cells[j]? = some c→x'.cells[j']? = some c' → b∈c0f c→b∈c0f c' → b ≠ 999→i=i' ∧ j=j':=by
 intro xs
 induction xs with
 | nil=>intro _ i i' j j' x x' c c' b h; simp at h
 | cons u xs ih=>
  intro h i i' j j' x x' c c' b h1 h2 g1 g2 h3 h4 hne
  obtain ⟨m1,m2,m3⟩:=m0a (l1:=b0k u.cells) (l2:=n0d xs) h
  cases i with
  | zero=>
   simp only [List.getElem?_cons_zero,sj_] at h1
   subst h1
   cases i' with
   | zero=>
    simp only [List.getElem?_cons_zero,sj_] at h2
    subst h2
    exact ⟨rfl,p0k m1 j j' c c' b g1 g2 h3 h4 hne⟩
   | succ i'=>exact absurd (m3 b (c0q (a0a g1) b h3) (m0h (a0a (i:=i') (by simpa using h2)) b (c0q (a0a g2) b h4))) hne
  | succ i=>
   cases i' with
   | zero=>
    simp only [List.getElem?_cons_zero,sj_] at h2
    subst h2
    exact absurd (m3 b (c0q (a0a g2) b h4) (m0h (a0a (i:=i) (by simpa using h1)) b (c0q (a0a g1) b h3))) hne
   | succ i'=>
    obtain ⟨e1,e2⟩:=ih m2 i i' j j' x x' c c' b (by simpa using h1) (by simpa using h2) g1 g2 h3 h4 hne
    exact ⟨by rw [e1],e2⟩
end
end Go.Am

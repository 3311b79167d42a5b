/-
  Calls that are handed values over: the caller behind such a call.
-/
import Derived.Test.YthcnbncpgloonaaGreatuAmPlace
section
set_option linter.unusedVariables false
set_option linter.unusedSimpArgs false
namespace Go.Am
open Go Go.RowKit
section
variable {P:Program}{c:Cfg}{Γ Γ':Ctx}{st:St}{a:Act}{w w':World}{den:Nat→List V→Option V}{η:Nat→Option V}{d:Nat}
theorem c1q {vs:List V}{ys:List Value}{zs:List V}(hok:v0c (cellsOf vs)=true)(hr:∀ (i:Nat) (v:V) (y:Value),vs[i]? = some v→ys[i]? = some y→VR Γ w v y) :
  ∀ (i:Nat) (v:V) (y:Value),(e0n zs vs)[i]? = some v→ys[i]? = some y→VR (Γ.placed (q0k vs)) w v y:=by
 have key:∀ (i:Nat) (v:V) (y:Value),(V.mapBs (r0p (q0k vs)) vs)[i]? = some v→ys[i]? = some y→VR (Γ.placed (q0k vs)) w v y:=by
  intro i v y hv hy
  rw [a0e] at hv
  cases hv1:vs[i]? with
  | none=>rw [hv1] at hv; cases hv
  | some u=>
   rw [hv1] at hv
   simp only [Option.map_some,sj_] at hv
   subst hv
   refine VR.sweepC (λ v=>∀ u∈v.cells,f0j u=true ∧ ∀ b∈c0f u,[b]∈q0k vs) (λ cs h u hu=>?_) (λ cs h=>?_) (λ _ cs h=>?_) s0y u y (λ z hz=>⟨m0c hok z (e0p (a0a hv1) hz),λ b hb=>?_⟩) (hr i u y hv1 hy)
   ·have:=h u hu
    have huc:u.cells=[u]:=by cases u <;> first | rfl | (exact absurd this.1 (by simp [f0j]))
    rw [huc]
    intro u' hu'
    rw [List.mem_singleton.1 hu']
    exact this
   ·exact absurd (h _ (List.mem_singleton.2 rfl)).1 (by simp [f0j])
   ·exact absurd (h _ (List.mem_singleton.2 rfl)).1 (by simp [f0j])
   ·have:c0f z=[b]:=by cases z <;> simp [c0f] at hb ⊢ <;> exact hb.symm
    rw [← this]
    exact List.mem_map.2 ⟨z,e0p (a0a hv1) hz,rfl⟩
 intro i v y hv hy
 obtain ⟨u,j',zs',h1,rfl,h3⟩:=k0z _ _ _ _ _ hv
 refine x0r (key i u y h1 hy) (λ k hk=>?_)
 have h4:=h3 k .nil hk
 rw [n0m] at h4
 have h5:=c1j h4
 rintro ⟨b,hb,_⟩
 have h6:(q0k vs)[j' + k]? = some []:=by
  show ((cellsOf vs).map c0f)[j' + k]? = some []
  rw [List.getElem?_map,h5]
  rfl
 rw [Nat.zero_add,h6] at hb
 cases hb
theorem s0v (zs vs:List V):(e0n zs vs).length=vs.length:=by
 unfold e0n
 rw [q0q,a0f]
theorem i0y {zs vs:List V}(hok:v0c (cellsOf vs)=true):∀ (i:Nat) (v u:V),(e0n zs vs)[i]? = some v→vs[i]? = some u→v.cells.length=u.cells.length:=by
 intro i v u hv hu
 obtain ⟨z,j',zs',h1,rfl,_⟩:=k0z _ _ _ _ _ hv
 rw [a0e,hu] at h1
 simp only [Option.map_some,sj_] at h1
 subst h1
 have h2:(u.mapB (r0p (q0k vs))).cells.length=u.cells.length:=by
  rw [d0a _ (λ v u h=>by cases v <;> simp only [r0p,sj_] at h <;> first | (cases h; done) | (subst h; rfl)),a0f]
 rw [← h2]
 cases hz:u.mapB (r0p (q0k vs)) with
 | agg cs=>simp only [t0k,V.cells,o0b]
 | _=>
  unfold t0k
  split
  ·rename_i heq; cases heq
  ·split
   ·exact a1h _ _ _
   ·rfl
theorem Rd.within {S:Nat→Prop}{v:V}{x:Value}(h:Rd w S v x):∀ {T:Nat→Prop},Tr w v x T→Rd w T v x:=by
 induction h with
 | undef x=>intro T _; exact .undef x
 | bool b=>intro T _; exact .bool b
 | int k n=>intro T _; exact .int k n
 | str s x h=>intro T _; exact .str s x h
 | nil=>intro T _; exact .nil
 | empty s f a cap=>intro T _; exact .empty s f a cap
 | sl s f xs k o cap g hl hcap hk hsz hf hg hr ih=>
  intro T ht
  generalize hy:(Value.slice (some ⟨k,o,none⟩) xs.length cap)=y at ht
  cases ht with
  | leaf _ _ _ h=>cases h
  | empty _ _ _ _ _=>simp at hl
  | sl _ _ _ k' o' cap' g' T1 _ hl' hg' hr' hd' hk' h0 hT=>
   simp only [Value.slice.injEq,sj_,Addr.mk.injEq,and_true,true_and] at hy
   obtain ⟨⟨rfl,rfl⟩,rfl⟩:=hy
   refine .sl s f xs k o cap g hl hcap h0 hsz hf hg (λ i x j c hx hc=>?_)
   have hi:=(gs_ hx).1
   have hj:j < s:=by rw [← hsz x (a0a hx)]; exact (gs_ hc).1
   have e1:=(hg i j hi hj).1
   rw [hg' i j hi hj] at e1
   injection e1 with e1
   have:=hr' i x j c hx hc
   rw [e1] at this
   exact (ih i x j c hx hc this).mono (λ m hm=>hT i j m hm) (λ _ _ _=>rfl)
 | iptr x k o n g hk hg hr ih=>
  intro T ht
  cases ht with
  | leaf _ _ _ h=>cases h
 | agg cs vs hl hr ih=>
  intro T ht
  cases ht with
  | leaf _ _ _ h=>cases h
 | tup cs vs hl hr ih=>
  intro T ht
  cases ht with
  | leaf _ _ _ h=>cases h
 | clo f cs vs hl hr ih=>
  intro T ht
  cases ht with
  | leaf _ _ _ h=>cases h
theorem Rows.within {S N:Nat→Prop}{s:Nat}{xs:List V}{k o:Nat}(h:Rows w S s xs k o)(ht:TrRows w N s xs k o):Rows w N s xs k o:=by
 obtain ⟨h1,g,h2,h3⟩:=h
 obtain ⟨g',T,t1,t2,_,t4⟩:=ht
 refine ⟨h1,g,h2,λ i x j c hx hc=>?_⟩
 have hi:=(gs_ hx).1
 have hj:j < s:=by rw [← h1 x (a0a hx)]; exact (gs_ hc).1
 have e1:=(h2 i j hi hj).1
 rw [t1 i j hi hj] at e1
 injection e1 with e1
 have:=t2 i x j c hx hc
 rw [e1] at this
 exact ((h3 i x j c hx hc).within this).mono (λ m hm=>t4 i j m hm) (λ _ _ _=>rfl)
def Ctx.handed (Γ:Ctx)(w:World)(l:List (List Nat))(E js:List Nat)(nt:Nat):Ctx:=
  { Γ.placed l with
    w0:=w,F:=λ k=>(∃ b,[b]∈l∧Γ.has b∧k=Γ.blk b)∨(∃ j,j∈js∧k=Γ.box j)∨w.heap.size≤k,
    S:=g0x Γ E,R:=g0x Γ E,Z:=λ m=>∃ b,[b]∈l∧Γ.has b∧(Γ.N b m∨m=Γ.blk b),Y:=λ m=>∃ b,[b]∈l∧Γ.has b∧Γ.N b m,
    lb:=λ d=>∃ k,k < js.length∧d=nt+k,box:=λ d=>Γ.box (js.getD (d - nt) 0),U:=True,nt:=nt }
theorem i1q {l:List (List Nat)}{E js:List Nat}{nt:Nat}(hU:Γ.U){v:V}{x:Value}(h:VR (Γ.placed l) w v x):VR (Γ.handed w l E js nt) w v x:=by
 have hS:∀ k,Γ.S k→g0x Γ E k:=λ k hk=>.inl hk
 have memL:∀ {j:Nat},(Γ.placed l).has j → ∃ b,[b]∈l∧Γ.has b∧(l.getD j []).headD 0=b:=by
  rintro j ⟨b,h1,h2,h3⟩
  exact ⟨b,a0a h1,h3,a0o h1⟩
 have uu:∀ {q:Q} {b s k o:Nat} {xs:List V},(Γ.placed l).Uq w q b s xs k o→(Γ.handed w l E js nt).Uq w q b s xs k o:=λ h hq _=>(h hq hU).mono (λ m hm=>⟨hm.1,hS m hm.2⟩) (λ _ _ _=>rfl) (λ _ _ _=>rfl)
 have rr:∀ {q:Q} {b s k o:Nat} {xs:List V},(Γ.placed l).has b→flatOk q xs→(Γ.placed l).Uq w q b s xs k o→Rows w ((Γ.placed l).Sq q) s xs k o→Rows w ((Γ.handed w l E js nt).Sq q) s xs k o:=by
  intro q b s k o xs hb hq hu hrow
  cases q with
  | any=>exact hrow.mono (λ m hm=>hS m hm) (λ _ _ _=>rfl) (λ _ _ _=>rfl)
  | flat=>exact hrow.plain (hq rfl)
  | clean=>
   obtain ⟨b',h1,h2,h3⟩:=memL hb
   refine (hrow.within (hu rfl hU)).mono (λ m hm=>⟨hS m hm.2,b',h1,h2,.inl ?_⟩) (λ _ _ _=>rfl) (λ _ _ _=>rfl)
   have:=hm.1
   change Γ.N ((l.getD b []).headD 0) m at this
   rwa [h3] at this
 induction h with
 | rd v x h=>exact .rd _ _ (h.mono hS (λ _ _ _=>rfl))
 | ownNil b s q h=>exact .ownNil b s q h
 | own b s q xs h1 h2 h3 h4 h5 h6=>exact VR.own (Γ:=Γ.handed w l E js nt) (w:=w) b s q xs h1 h2 h3 (rr h1 h5 h6 h4) h5 (uu h6)
 | view0 b s q a cap h0=>exact .view0 b s q a cap h0
 | view b s q xs o cap h1 hx h3 hfit h4 h5 h6=>exact VR.view (Γ:=Γ.handed w l E js nt) (w:=w) b s q xs o cap h1 hx h3 hfit (rr h1 h5 h6 h4) h5 (uu h6)
 | ptr d n h=>exact h.elim
 | eptr b s q xs i n h1 h2 h3 hi h4 h5 h6=>exact VR.eptr (Γ:=Γ.handed w l E js nt) (w:=w) b s q xs i n h1 h2 h3 hi (rr h1 h5 h6 h4) h5 (uu h6)
 | vptr b x o n g h1 h2 h3=>exact VR.vptr (Γ:=Γ.handed w l E js nt) (w:=w) b x o n g h1 h2 (λ j c hc=>(h3 j c hc).mono hS (λ _ _ _=>rfl))
 | agg cs vs hl _ ih=>exact .agg cs vs hl ih
 | tup cs vs hl _ ih=>exact .tup cs vs hl ih
 | clo f cs vs hl _ ih=>exact .clo f cs vs hl ih
theorem Good.handed {l:List (List Nat)}{E js:List Nat}{nt:Nat}(g:Good Γ w)(hnd:∀ b,Γ.has b → ¬ Γ.S (Γ.blk b))(hlen:l.length < 999)(hjs:∀ j∈js,Γ.lb j)(hnod:js.Nodup):Good (Γ.handed w l E js nt) w:=by
 have at_:∀ {j:Nat},(Γ.handed w l E js nt).has j → ∃ b,l[j]? = some [b]∧l.idxOf [b]=j∧Γ.has b∧(Γ.handed w l E js nt).blk j=Γ.blk b∧(Γ.handed w l E js nt).off j=Γ.off b∧(Γ.handed w l E js nt).cap j=Γ.cap b∧(Γ.handed w l E js nt).sz j=Γ.sz b∧(Γ.handed w l E js nt).N j=Γ.N b:=by
  rintro j ⟨b,h1,h2,h3⟩
  refine ⟨b,h1,h2,h3,?_,?_,?_,?_,?_⟩
  ·show Γ.blk _=_; rw [a0o h1]
  ·show Γ.off _=_; rw [a0o h1]
  ·show Γ.cap _=_; rw [a0o h1]
  ·show Γ.sz _=_; rw [a0o h1]
  ·show Γ.N _=_; rw [a0o h1]
 have boxAt:∀ {k:Nat},k < js.length→(Γ.handed w l E js nt).box (nt+k)=Γ.box (js.getD k 0)∧js.getD k 0∈js:=by
  intro k hk
  refine ⟨?_,?_⟩
  ·show Γ.box (js.getD (nt+k - nt) 0)=_
   rw [Nat.add_sub_cancel_left]
  ·rw [List.getD_eq_getElem?_getD,List.getElem?_eq_getElem hk]
   exact List.getElem_mem hk
 refine ⟨rfl,rfl,rfl,Nat.le_refl _,λ _ _ _=>rfl,λ _ h=>.inr (.inr h),λ k hk=>i0n g hk,λ j hj=>?_,λ j j' hj hj' he=>?_,?_,?_,?_,λ k hk=>.inl hk,⟨g.glob,?_⟩,λ j hj=>?_,?_,λ j hj m hm=>?_,?_⟩
 ·obtain ⟨b,h1,h2,h3,e1,e2,e3,e4,e5⟩:=at_ hj
  obtain ⟨b1,b2,b3,b4⟩:=g.base b h3
  rw [e1,e2,e3,e4]
  exact ⟨.inl ⟨b,a0a h1,h3,rfl⟩,b2,b3,b4⟩
 ·obtain ⟨b,h1,h2,h3,e1,_⟩:=at_ hj
  obtain ⟨b',h1',h2',h3',e1',_⟩:=at_ hj'
  rw [e1,e1'] at he
  have:=g.baseInj b b' h3 h3' he
  subst this
  rw [← h2,← h2']
 ·rintro d ⟨k,hk,rfl⟩
  obtain ⟨e,hm⟩:=boxAt hk
  rw [e]
  have hb:=hjs _ hm
  exact ⟨.inr (.inl ⟨_,hm,rfl⟩),j0j g hb,(g.box _ hb).2.2⟩
 ·rintro d d' ⟨k,hk,rfl⟩ ⟨k',hk',rfl⟩ he
  obtain ⟨e,hm⟩:=boxAt hk
  obtain ⟨e',hm'⟩:=boxAt hk'
  rw [e,e'] at he
  have h1:=g.boxInj _ _ (hjs _ hm) (hjs _ hm') he
  have g1:js.getD k 0=js[k]:=by rw [List.getD_eq_getElem?_getD,List.getElem?_eq_getElem hk]; rfl
  have g2:js.getD k' 0=js[k']:=by rw [List.getD_eq_getElem?_getD,List.getElem?_eq_getElem hk']; rfl
  rw [g1,g2] at h1
  have:=(List.getElem_inj hnod).1 h1
  omega
 ·rintro j d hj ⟨k,hk,rfl⟩
  obtain ⟨b,h1,h2,h3,e1,_⟩:=at_ hj
  obtain ⟨e,hm⟩:=boxAt hk
  rw [e1,e]
  exact g.baseBox b _ h3 (hjs _ hm)
 ·rintro k (⟨b,_,h,rfl⟩ | ⟨j,hj,rfl⟩ | h)
  ·exact g.gl.2 _ (g.base b h).1
  ·exact g.gl.2 _ (g.box j (hjs j hj)).1
  ·exact Nat.le_trans g.glob.2 h
 ·obtain ⟨b,h1,h2,h3,e1,_⟩:=at_ hj
  exact ⟨b,a0a h1,h3,.inr e1⟩
 ·rintro m ⟨b,hb,hh,hm⟩
  rcases hm with hm | rfl
  ·obtain ⟨h1,h2⟩:=g.ns b hh m hm
   obtain ⟨_,h4⟩:=g.zf m h2
   exact ⟨.inr ⟨b,hb,hh,hm⟩,h4⟩
  ·obtain ⟨_,b2,_,cur,e,b4,_⟩:=g.base b hh
   exact ⟨.inl (.inl ⟨b,hb,hh,rfl⟩),b2,cur,e,b4⟩
 ·obtain ⟨b,h1,h2,h3,_,_,_,_,e5⟩:=at_ hj
  rw [e5] at hm
  exact ⟨.inl (g.ns b h3 m hm).1,b,a0a h1,h3,.inl hm⟩
 ·rintro ⟨b,h1,_⟩
  have:=(gs_ h1).1
  omega
end
end Go.Am
end
section
set_option linter.unusedVariables false
set_option linter.unusedSimpArgs false
namespace Go.Am
open Go Go.RowKit
section
variable {P:Program}{c:Cfg}{Γ Γ':Ctx}{st:St}{a:Act}{w w':World}{den:Nat→List V→Option V}{η:Nat→Option V}{d:Nat}
def BoxAt (Γ:Ctx)(w:World)(B:Nat)(v:V):Prop:=∃ cur e,w.heap[B]? = some (.cells cur e (0,0))∧v.cells.length=cur.size ∧ ∀ (j:Nat) (c:V),v.cells[j]? = some c → ∃ y,cur[j]? = some y∧VR Γ w c y
structure Home (Γ:Ctx) (w:World) (s:Io) (outs:List V) (x:Value) (w':World):Prop where
  os:w'.os=w.os
  tape:w'.tape=w.tape
  output:w'.output=w.output
  size:w.heap.size≤w'.heap.size
  old:∀ k,k < w.heap.size → ¬ Γ.F k→w'.heap[k]? = w.heap[k]?
  len:s.nb≤outs.length
  val:∃ Γr:Ctx,
    (s.rb=false → ∃ ys:List Value,ys.length=outs.length - s.nb∧(∀ (i:Nat) (v:V) (y:Value),outs[i]? = some v→ys[i]? = some y→VR Γr w' v y)∧x=(if h:ys.toArray.size=1 then ys.toArray[0] else .tuple ys.toArray)) ∧
    (s.rb=true → ∃ (B:Nat) (r:V),outs.take (outs.length - s.nb)=[r]∧x = .pointer (some ⟨B,0,none⟩)∧BoxAt Γr w' B r∧Γ.F B∧B < w'.heap.size ∧ ¬ Γr.S B∧(∀ b,Γr.has b→Γr.blk b ≠ B) ∧ ∀ k,k < s.nb→Γ.box (s.nt+k) ≠ B) ∧
    (∀ (k:Nat) (v:V),(outs.drop (outs.length - s.nb))[k]? = some v→BoxAt Γr w' (Γ.box (s.nt+k)) v) ∧
    (∀ k,Γr.S k→(Γ.R k∨Γ.F k)∧k < w'.heap.size) ∧
    (∀ b,Γr.has b→Γ.F (Γr.blk b)∧Γr.blk b < w'.heap.size ∧ ¬ Γr.S (Γr.blk b)∧Γr.cap b≤maxLen ∧ ∃ cur e,w'.heap[Γr.blk b]? = some (.cells cur e (0,0))∧Γr.off b+Γr.cap b * Γr.sz b≤cur.size) ∧
    (∀ b b',Γr.has b→Γr.has b' → Γr.blk b=Γr.blk b' → b=b') ∧
    (∀ b k,Γr.has b→k < s.nb→Γr.blk b ≠ Γ.box (s.nt+k))∧(∀ k,k < s.nb → ¬ Γr.S (Γ.box (s.nt+k))) ∧
    (∀ b,Γr.has b→Γr.Z (Γr.blk b))∧(∀ k,Γr.Z k→(Γ.F k∨Γ.Y k)∧k < w'.heap.size ∧ ∃ cur e,w'.heap[k]? = some (.cells cur e (0,0))) ∧
    Γr.U∧(∀ b,Γr.has b → ∀ m,Γr.N b m→Γr.S m∧Γr.Z m) ∧ ∀ b b',Γr.has b→Γr.has b' → b ≠ b' → ∀ m,Γr.N b m→Γr.N b' m→False
def e2j (P:Program)(f:Nat)(s:Io)(args:List V)(r:V):Prop:=
 (∃ fn,P.funcs[f]? = some fn∧fn.body.isNone=false∧(fn.name == "runtime.NumGoroutine")=false) ∧ ∃ outs,r = .tup outs ∧
 ∀ (Γ:Ctx) (w:World) (vals:Array Value),Γ.w0=w→Γ.nt=s.nt→vals.size=s.md.length→s.md.length≤s.nt→Sim Γ (n1b s args) { tmps:=vals++Array.replicate (s.nt - vals.size) undef,defers:=[] } w →
  Calls P f vals w λ
   | .returned x,w'=>Home Γ w s outs x w'
   | _,_=>False
def b0w (P:Program)(c:Cfg)(den:Nat→List V→Option V):Prop:=∀ f s args r,c.io f=some s→den f (h0e :: args)=some r→e2j P f s args r
theorem mem_basesL {vs:List V}{b:Nat}:b∈e0m vs↔[b]∈q0k vs:=by
 unfold e0m q0k
 rw [List.mem_flatten]
 constructor
 ·rintro ⟨l,hl,hb⟩
  obtain ⟨v,hv,rfl⟩:=List.mem_map.1 hl
  have:c0f v=[b]:=by cases v <;> simp [c0f] at hb ⊢ <;> exact hb.symm
  rw [← this]
  exact List.mem_map.2 ⟨v,hv,rfl⟩
 ·intro h
  exact ⟨[b],h,List.mem_singleton.2 rfl⟩
theorem o0d:∀ (js:List Nat) (bs:List V) (h:List (Option V)) (i:Nat) (v:V),js.length=bs.length→(d0x h js bs)[i]? = some (some v)→(∃ k:Nat,js[k]? = some i∧bs[k]? = some v)∨(h[i]? = some (some v)∧i ∉ js):=by
 intro js
 induction js with
 | nil=>intro bs h i v hl hv; exact .inr ⟨hv,by simp⟩
 | cons j js ih=>
  intro bs h i v hl hv
  cases bs with
  | nil=>simp at hl
  | cons b bs=>
   rw [d0x] at hv
   rcases ih bs _ i v (by simpa using hl) hv with ⟨k,h1,h2⟩ | ⟨h1,h2⟩
   ·exact .inl ⟨k+1,by simpa using h1,by simpa using h2⟩
   ·rw [List.getElem?_set] at h1
    split at h1
    ·rename_i hji
     subst hji
     split at h1
     ·simp only [sj_] at h1
      subst h1
      exact .inl ⟨0,rfl,rfl⟩
     ·cases h1
    ·rename_i hji
     exact .inr ⟨h1,by simp [h2]; exact λ e=>hji e.symm⟩
theorem m0x {f:V→Option V}{cs:List V}{u:V}(hu:u∈cs):u.mapB f∈V.mapBs f cs:=by
 obtain ⟨i,hi⟩:=List.getElem?_of_mem hu
 refine a0a (i:=i) ?_
 rw [a0e,hi]
 rfl
theorem a1e (l:List Nat):∀ v u,a0p l v=some u→u.cells=[u]:=by
 intro v u h
 cases v <;> simp only [a0p] at h <;> first | (cases h; done) | (split at h <;> first | (injection h with h; subst h; rfl) | cases h)
theorem Sim.ioHome {vs outs:List V}{E js:List Nat}{s:Io}{x:Value}{m:Bool}(hs:Sim Γ st a w)(hdead:∀ b,st.dead b=false)(hdup:st.dup=false)(hl:(q0k vs).length < 999)(hjs:∀ j∈js,Γ.lb j)(hnod:js.Nodup)(hnb:js.length=s.nb)
    (hEL:∀ b∈E,b ∉ e0m vs) (hh:Home (Γ.handed w (q0k vs) E js s.nt) w s outs x w') (hd:d < 1000) (h9:V.anyBs (λ b=>decide (999≤b)) outs=false)
    (hf:V.anyBs (λ _=>true) outs=false∨(st.sweep (a0p (e0m vs))).freeD d=true) :
    ∃ Γ'',Same Γ Γ'' ∧
      Sim Γ'' ((({ st.sweep (a0p (e0m vs)) with t:=(st.sweep (a0p (e0m vs))).t.set d .undef,h:=d0x (st.sweep (a0p (e0m vs))).h js (V.mapBs (d0t d) (outs.drop (outs.length - s.nb))) }:St).kill (if V.olds outs then E else [])).mark m) (a.put (some d) x) w' ∧
      (s.rb=false → ∃ ys:List Value,ys.length=outs.length - s.nb∧(∀ (i:Nat) (v:V) (y:Value),(V.mapBs (d0t d) outs)[i]? = some v→ys[i]? = some y→VR Γ'' w' v y)∧x=(if h:ys.toArray.size=1 then ys.toArray[0] else .tuple ys.toArray)) ∧
      (s.rb=true → ∃ (B:Nat) (r:V),outs.take (outs.length - s.nb)=[r]∧x = .pointer (some ⟨B,0,none⟩)∧BoxAt Γ'' w' B (r.mapB (d0t d))∧Γ.F B∧B < w'.heap.size ∧ ¬ Γ''.S B∧(∀ b,Γ''.has b→Γ''.blk b ≠ B) ∧ ∀ k,Γ''.lb k→Γ''.box k ≠ B):=by
  have g:=hs.good
  have hU:Γ.U:=hs.du hdup
  obtain ⟨Γr,v0,v1,v2,rS,rb,rinj,rbb,rSb,rbz,rzf,rU,rns,rnd⟩:=hh.val
  let l:=q0k vs
  let L:=e0m vs
  let esc:=if V.olds outs then E else []
  let n:=V.anyBs (λ _=>true) outs
  let p:Nat→Bool:=λ b=>n && (b / 1000 == d)
  let Fc:Nat→Prop:=λ k=>(∃ b,[b]∈l∧Γ.has b∧k=Γ.blk b)∨(∃ j,j∈js∧k=Γ.box j)∨w.heap.size≤k
  have hold:∀ k,k < w.heap.size → ¬ Fc k→w'.heap[k]? = w.heap[k]?:=hh.old
  have FcF:∀ {k},Fc k→Γ.F k:=by
    rintro k (⟨b,_,h,rfl⟩ | ⟨j,hj,rfl⟩ | h)
    · exact (g.base b h).1
    · exact (g.box j (hjs j hj)).1
    · exact g.new k (Nat.le_trans g.size h)
  have notS:∀ {k},Γ.S k → ¬ Fc k:=by
    rintro k hk (⟨b,_,h,rfl⟩ | ⟨j,hj,rfl⟩ | h)
    · exact hs.nds b h (hdead b) hk
    · exact (g.box j (hjs j hj)).2.1 hk
    · have:=g.slt k hk; omega
  have notB:∀ {b},Γ.has b→b ∉ L → ¬ Fc (Γ.blk b):=by
    rintro b hb hbL (⟨b',h1,h,e⟩ | ⟨j,hj,e⟩ | h)
    · have:=g.baseInj b b' hb h e
      subst this
      exact hbL (mem_basesL.2 h1)
    · exact g.baseBox b j hb (hjs j hj) e
    · have:=(g.base b hb).2.1; omega
  have notX:∀ {k},Γ.lb k→k ∉ js → ¬ Fc (Γ.box k):=by
    rintro k hk hkj (⟨b',h1,h,e⟩ | ⟨j,hj,e⟩ | h)
    · exact g.baseBox b' k h hk e.symm
    · have:=g.boxInj k j hk (hjs j hj) e
      subst this
      exact hkj hj
    · have:=(g.box k hk).2.2; omega
  have boxAt:∀ {k i:Nat},js[k]? = some i→(Γ.handed w l E js s.nt).box (s.nt+k)=Γ.box i∧k < s.nb:=by
    intro k i hk
    refine ⟨?_,by rw [← hnb]; exact (gs_ hk).1⟩
    show Γ.box (js.getD (s.nt+k - s.nt) 0)=_
    rw [Nat.add_sub_cancel_left,List.getD_eq_getElem?_getD,hk]
    rfl
  have boxOf:∀ {k},k∈js → ∃ i,i < s.nb∧(Γ.handed w l E js s.nt).box (s.nt+i)=Γ.box k:=by
    intro k hk
    obtain ⟨i,hi⟩:=List.getElem?_of_mem hk
    obtain ⟨e1,e2⟩:=boxAt hi
    exact ⟨i,e2,e1⟩
  let Γ'':Ctx:={ Γ with S:=λ k=>g0x Γ esc k∨(Γr.S k∧Fc k),has:=λ b=>if p b=true then Γr.has (b % 1000)∧b ≠ 999 else Γ.has b∧b ∉ L,
                        blk:=λ b=>if p b=true then Γr.blk (b % 1000) else Γ.blk b,off:=λ b=>if p b=true then Γr.off (b % 1000) else Γ.off b,
                        cap:=λ b=>if p b=true then Γr.cap (b % 1000) else Γ.cap b,sz:=λ b=>if p b=true then Γr.sz (b % 1000) else Γ.sz b,
                        ln:=λ b=>if p b=true then Γr.ln (b % 1000) else Γ.ln b,Z:=λ k=>(Γ.Z k ∧ ¬ Fc k)∨Γr.Z k,
                        N:=λ b=>if p b=true then Γr.N (b % 1000) else Γ.N b,U:=True }
  have pd:∀ {b},p b=true→n=true∧b / 1000=d:=by
    intro b hb
    simpa only [p,Bool.and_eq_true,beq_iff_eq] using hb
  have YcS:∀ {k},(Γ.handed w l E js s.nt).Y k→Γ.S k∧Γ.Z k:=by
    rintro k ⟨b,_,h2,h3⟩
    exact g.ns b h2 k h3
  have zS:∀ {k},Γr.Z k→Γr.S k→Γ''.S k:=by
    intro k hz hk
    rcases (rzf k hz).1 with h | h
    · exact .inr ⟨hk,h⟩
    · exact .inl (.inl (YcS h).1)
  have hgood:Good Γ'' w':=by
    refine ⟨hh.os.trans g.os,hh.tape.trans g.tape,hh.output.trans g.output,Nat.le_trans g.size hh.size,λ k hk hF=>?_,g.new,λ k hk=>?_,λ b hb=>?_,λ b b' hb hb' he=>?_,λ k hk=>?_,g.boxInj,λ b k hb hk=>?_,λ k hk=>?_,g.gl,λ b hb=>?bz,λ k hk=>?zf,λ b hb m hm=>?ns,λ h=>?h9⟩
    case h9=>
      change (if p 999=true then _∧(999:Nat) ≠ 999 else Γ.has 999∧_) at h
      split at h
      · exact h.2 rfl
      · exact g.h9 h.1
    case ns=>
      change (if p b=true then Γr.has (b % 1000)∧b ≠ 999 else Γ.has b∧b ∉ L) at hb
      change (if p b=true then Γr.N (b % 1000) else Γ.N b) m at hm
      by_cases hp:p b=true
      · rw [if_pos hp] at hb hm
        obtain ⟨h1,h2⟩:=rns _ hb.1 m hm
        exact ⟨zS h2 h1,.inr h2⟩
      · rw [if_neg hp] at hb hm
        obtain ⟨h1,h2⟩:=g.ns b hb.1 m hm
        exact ⟨.inl (.inl h1),.inl ⟨h2,notS h1⟩⟩
    case bz=>
      change (if p b=true then Γr.has (b % 1000)∧b ≠ 999 else Γ.has b∧b ∉ L) at hb
      show (Γ.Z (if p b=true then _ else _) ∧ ¬ Fc (if p b=true then _ else _))∨Γr.Z (if p b=true then _ else _)
      by_cases hp:p b=true
      · rw [if_pos hp] at hb ⊢
        exact .inr (rbz _ hb.1)
      · rw [if_neg hp] at hb ⊢
        exact .inl ⟨g.bz b hb.1,notB hb.1 hb.2⟩
    case zf=>
      rcases hk with ⟨hk,hnF⟩ | hk
      · obtain ⟨z1,z2,cur,e,h⟩:=g.zf k hk
        exact ⟨z1,Nat.lt_of_lt_of_le z2 hh.size,cur,e,(hold k z2 hnF).trans h⟩
      · obtain ⟨z1,z2⟩:=rzf k hk
        refine ⟨?_,z2⟩
        rcases z1 with h | h
        · exact .inl (FcF h)
        · exact (g.zf k (YcS h).2).1
    · have hk':k < w.heap.size:=Nat.lt_of_lt_of_le hk g.size
      exact (hold k hk' (λ h=>hF (FcF h))).trans (g.old k hk hF)
    · rcases hk with hk | ⟨hk,_⟩
      · exact Nat.lt_of_lt_of_le (i0n g hk) hh.size
      · exact (rS k hk).2
    · change (if p b=true then Γr.has (b % 1000)∧b ≠ 999 else Γ.has b∧b ∉ L) at hb
      show Γ.F (if p b=true then _ else _)∧(if p b=true then _ else _) < _∧(if p b=true then _ else _)≤_ ∧ ∃ cur e,w'.heap[if p b=true then Γr.blk (b % 1000) else Γ.blk b]? = some (.cells cur e (0,0)) ∧
        (if p b=true then Γr.off (b % 1000) else Γ.off b)+(if p b=true then Γr.cap (b % 1000) else Γ.cap b) * (if p b=true then Γr.sz (b % 1000) else Γ.sz b)≤cur.size
      by_cases hp:p b=true
      · simp only [if_pos hp] at hb ⊢
        obtain ⟨h1,h2,_,h4,h5⟩:=rb _ hb.1
        exact ⟨FcF h1,h2,h4,h5⟩
      · simp only [if_neg hp] at hb ⊢
        obtain ⟨h1,h2,h3,cur,e,h4,h5⟩:=g.base b hb.1
        exact ⟨h1,Nat.lt_of_lt_of_le h2 hh.size,h3,cur,e,(hold _ h2 (notB hb.1 hb.2)).trans h4,h5⟩
    · change (if p b=true then Γr.has (b % 1000)∧b ≠ 999 else Γ.has b∧b ∉ L) at hb
      change (if p b' = true then Γr.has (b' % 1000)∧b' ≠ 999 else Γ.has b' ∧ b' ∉ L) at hb'
      change (if p b=true then Γr.blk (b % 1000) else Γ.blk b)=(if p b' = true then Γr.blk (b' % 1000) else Γ.blk b') at he
      by_cases hp:p b=true
      · by_cases hp':p b' = true
        · rw [if_pos hp] at hb; rw [if_pos hp'] at hb'; rw [if_pos hp,if_pos hp'] at he
          have h1:=rinj _ _ hb.1 hb'.1 he
          have h2:=(pd hp).2
          have h3:=(pd hp').2
          omega
        · rw [if_pos hp] at hb; rw [if_neg hp'] at hb'; rw [if_pos hp,if_neg hp'] at he
          have h1:=(rb _ hb.1).1
          rw [he] at h1
          exact absurd h1 (notB hb'.1 hb'.2)
      · by_cases hp':p b' = true
        · rw [if_neg hp] at hb; rw [if_pos hp'] at hb'; rw [if_neg hp,if_pos hp'] at he
          have h1:=(rb _ hb'.1).1
          rw [← he] at h1
          exact absurd h1 (notB hb.1 hb.2)
        · rw [if_neg hp] at hb; rw [if_neg hp'] at hb'; rw [if_neg hp,if_neg hp'] at he
          exact g.baseInj b b' hb.1 hb'.1 he
    · obtain ⟨h1,h2,h3⟩:=g.box k hk
      refine ⟨h1,?_,Nat.lt_of_lt_of_le h3 hh.size⟩
      rintro (h | ⟨h,hF⟩)
      · exact j0j g hk h
      · by_cases hkj:k∈js
        · obtain ⟨i,e1,e2⟩:=boxOf hkj
          exact rSb i e1 (by rw [e2]; exact h)
        · exact notX hk hkj hF
    · change (if p b=true then Γr.has (b % 1000)∧b ≠ 999 else Γ.has b∧b ∉ L) at hb
      show (if p b=true then Γr.blk (b % 1000) else Γ.blk b) ≠ Γ.box k
      by_cases hp:p b=true
      · rw [if_pos hp] at hb ⊢
        by_cases hkj:k∈js
        · obtain ⟨i,e1,e2⟩:=boxOf hkj
          rw [← e2]
          exact rbb _ i hb.1 e1
        · intro e
          have h1:=(rb _ hb.1).1
          rw [e] at h1
          exact notX hk hkj h1
      · rw [if_neg hp] at hb ⊢
        exact g.baseBox b k hb.1 hk
    · rcases hk with hk | ⟨_,hk⟩
      · exact u0f g k hk
      · exact .inr (FcF hk)
  -- what the caller had
  have keep:∀ {u:V} {y:Value},VR Γ w u y→u.anyB (λ b=>p b || L.contains b)=false→VR Γ'' w' u y:=by
    intro u y hu hp
    refine VR.mono' (Γ:=Γ) (Γ':=Γ'') (w:=w) (w':=w') (p:=λ b=>p b || L.contains b) (r:=λ _=>false) (λ _=>hU) (λ k hk=>.inl (.inl hk)) (λ k hk hz=>.inl ⟨hz,notS hk⟩) (λ k hk=>cell?_of_heap (hold k (g.slt k hk) (notS hk)))
      (λ b hb=>?_) (λ _ _=>⟨λ h=>h,rfl⟩) hu hp (a0z _)
    rw [Bool.or_eq_false_iff] at hb
    have hp':¬ p b=true:=by rw [hb.1]; simp
    have hbL:b ∉ L:=by simpa using hb.2
    refine ⟨?_,λ hh'=>⟨if_neg hp',if_neg hp',if_neg hp',if_neg hp',if_neg hp',λ m hm=>?_,cell?_of_heap (hold _ (g.base b hh').2.1 (notB hh' hbL))⟩⟩
    · show (if p b=true then _ else _)↔_
      rw [if_neg hp']
      exact ⟨λ h=>h.1,λ h=>⟨h,hbL⟩⟩
    · show (if p b=true then Γr.N (b % 1000) else Γ.N b) m
      rw [if_neg hp']
      exact hm
  have swept:∀ (u:V) (y:Value),(u.mapB (a0p L)).anyB p=false→VR Γ w u y→VR Γ'' w' (u.mapB (a0p L)) y:=by
    intro u y hp hu
    refine VR.sweepC (Γ:=Γ) (Γ':=Γ'') (w:=w) (w':=w') (λ u=>(u.mapB (a0p L)).anyB p=false) (λ cs h u hu=>a0u h _ (m0x hu)) (λ cs h u hu=>a0u h _ (m0x hu)) (λ _ cs h u hu=>a0u h _ (m0x hu)) (λ u y hleaf hc hu=>?_) u y hp hu
    cases u with
    | own b s q xs=>
      simp only [a0p]
      split
      · exact VR.undef_ _
      · rename_i hb
        have hb':L.contains b=false:=by simpa using hb
        simp only [V.mapB,a0p,hb',Bool.false_eq_true,if_false,Option.getD_none,V.anyB] at hc
        exact keep (u:=.own b s q xs) hu (by simp only [V.anyB,hc,hb']; rfl)
    | view b s q xs=>
      simp only [a0p]
      split
      · exact VR.undef_ _
      · rename_i hb
        have hb':L.contains b=false:=by simpa using hb
        simp only [V.mapB,a0p,hb',Bool.false_eq_true,if_false,Option.getD_none,V.anyB] at hc
        exact keep (u:=.view b s q xs) hu (by simp only [V.anyB,hc,hb']; rfl)
    | eptr b s q xs i o=>
      simp only [a0p]
      split
      · exact VR.undef_ _
      · rename_i hb
        have hb':L.contains b=false:=by simpa using hb
        simp only [V.mapB,a0p,hb',Bool.false_eq_true,if_false,Option.getD_none,V.anyB] at hc
        exact keep (u:=.eptr b s q xs i o) hu (by simp only [V.anyB,hc,hb']; rfl)
    | vptr b z o=>
      simp only [a0p]
      split
      · exact VR.undef_ _
      · rename_i hb
        have hb':L.contains b=false:=by simpa using hb
        simp only [V.mapB,a0p,hb',Bool.false_eq_true,if_false,Option.getD_none,V.anyB] at hc
        exact keep (u:=.vptr b z o) hu (by simp only [V.anyB,hc,hb']; rfl)
    | agg _=>cases hleaf
    | tup _=>cases hleaf
    | clo _ _=>cases hleaf
    | _=>exact keep hu rfl
  have freeT:∀ (i:Nat) (u:V),i ≠ d→(V.mapBs (a0p L) st.t)[i]? = some u→u.anyB p=false:=by
    intro i u hi hu
    rcases hf with h0 | hf
    · have:p=λ _=>false:=by funext b; simp [p,n,h0]
      rw [this]; exact b0r u
    · have h1:=u0p hf i u hi hu
      cases hn:n with
      | false=>
        have:p=λ _=>false:=by funext b; simp [p,hn]
        rw [this]; exact b0r u
      | true=>
        have:p=λ b=>b / 1000 == d:=by funext b; simp [p,hn]
        rw [this]; exact h1
  have freeH:∀ (i:Nat) (u:V),(d0c (a0p L) st.h)[i]? = some (some u)→u.anyB p=false:=by
    intro i u hu
    rcases hf with h0 | hf
    · have:p=λ _=>false:=by funext b; simp [p,n,h0]
      rw [this]; exact b0r u
    · have h1:=u0o hf i u hu
      cases hn:n with
      | false=>
        have:p=λ _=>false:=by funext b; simp [p,hn]
        rw [this]; exact b0r u
      | true=>
        have:p=λ b=>b / 1000 == d:=by funext b; simp [p,hn]
        rw [this]; exact h1
  -- what the call hands back
  have thawed:∀ (u:V) (y:Value),u.anyB (λ b=>decide (999≤b))=false→(u.old=true→V.olds outs=true)→(u.anyB (λ _=>true)=true→n=true)→VR Γr w' u y→VR Γ'' w' (u.mapB (d0t d)) y:=by
    intro r x t1 t2 t3 hv
    have hSo:V.olds outs=true → ∀ k,Γr.S k→Γ''.S k:=by
      intro ho k hk
      rcases (rS k hk).1 with h | h
      · have h:g0x Γ E k:=h
        have e:esc=E:=if_pos ho
        exact .inl (by rw [e]; exact h)
      · exact .inr ⟨hk,h⟩
    have hSq:∀ (q:Q),(q.good=false→V.olds outs=true) → ∀ k,Γr.Sq q k→Γ''.Sq q k:=by
      intro q hq k hk
      cases q with
      | any=>exact hSo (hq rfl) k hk
      | flat=>exact ⟨zS hk.2 hk.1,.inr hk.2⟩
      | clean=>exact ⟨zS hk.2 hk.1,.inr hk.2⟩
    refine VR.sweepC (Γ:=Γr) (Γ':=Γ'') (w:=w') (w':=w') (λ u=>u.anyB (λ b=>decide (999≤b))=false∧(u.old=true→V.olds outs=true)∧(u.anyB (λ _=>true)=true→n=true))
      (λ cs h u hu=>⟨a0u h.1 u hu,λ e=>h.2.1 (f0r hu e),λ e=>h.2.2 (c0n hu e)⟩) (λ cs h u hu=>⟨a0u h.1 u hu,λ e=>h.2.1 (f0r hu e),λ e=>h.2.2 (c0n hu e)⟩)
      (λ _ cs h u hu=>⟨a0u h.1 u hu,λ e=>h.2.1 (f0r hu e),λ e=>h.2.2 (c0n hu e)⟩) (λ u y hleaf hc hu=>?_) r x ⟨t1,t2,t3⟩ hv
    obtain ⟨c1,c2,c3⟩:=hc
    cases u with
    | undef=>exact VR.undef_ _
    | bool b=>rw [hu.bool_inv]; exact .rd _ _ (.bool b)
    | int k m=>rw [hu.int_inv]; exact .rd _ _ (.int k m)
    | str s=>obtain ⟨z,rfl,hz⟩:=hu.str_inv; exact .rd _ _ (.str s z hz)
    | nil=>rw [hu.nil_inv]; exact .rd _ _ .nil
    | sl s f xs=>exact .rd _ _ (hu.sl_inv.mono (hSo (c2 rfl)) (λ _ _ _=>rfl))
    | iptr z o=>
      cases hu with
      | rd _ _ h=>exact .rd _ _ (h.mono (hSo (c2 rfl)) (λ _ _ _=>rfl))
    | ptr _ _=>exact VR.undef_ _
    | eptr _ _ _ _ _ _=>exact VR.undef_ _
    | vptr _ _ _=>exact VR.undef_ _
    | agg _=>cases hleaf
    | tup _=>cases hleaf
    | clo _ _=>cases hleaf
    | own b s q xs=>
      have hb9:b < 999:=by simpa [V.anyB] using c1
      have hb:b < 1000:=by omega
      have hn0:=c3 rfl
      have hpb:p (base d b)=true:=by simp [p,hn0,f0p hd hb]
      have hmod:base d b % 1000=b:=by unfold base; omega
      have e0:Γ''.has (base d b)=Γr.has b:=by show (if p (base d b)=true then _ else _)=_; rw [if_pos hpb,hmod]; exact propext ⟨λ h=>h.1,λ h=>⟨h,by unfold base; omega⟩⟩
      have e6:Γ''.N (base d b)=Γr.N b:=by show (if p (base d b)=true then _ else _)=_; rw [if_pos hpb,hmod]
      have e1:Γ''.blk (base d b)=Γr.blk b:=by show (if p (base d b)=true then _ else _)=_; rw [if_pos hpb,hmod]
      have e2:Γ''.off (base d b)=Γr.off b:=by show (if p (base d b)=true then _ else _)=_; rw [if_pos hpb,hmod]
      have e3:Γ''.cap (base d b)=Γr.cap b:=by show (if p (base d b)=true then _ else _)=_; rw [if_pos hpb,hmod]
      have e4:Γ''.sz (base d b)=Γr.sz b:=by show (if p (base d b)=true then _ else _)=_; rw [if_pos hpb,hmod]
      have e5:Γ''.ln (base d b)=Γr.ln b:=by show (if p (base d b)=true then _ else _)=_; rw [if_pos hpb,hmod]
      simp only [d0t,Option.getD_some]
      have huq:=hu.own_uq
      rcases hu.own_inv with ⟨rfl,rfl,h3⟩ | ⟨rfl,h1,h2,h3,h4,h5⟩
      · exact .ownNil _ _ _ (by rw [e0]; exact h3)
      · have:=VR.own (Γ:=Γ'') (w:=w') (base d b) s q xs (by rw [e0]; exact h1) (by rw [e4]; exact h2) (by rw [e3,e5]; exact h3)
          (by rw [e1,e2]; exact h4.mono (hSq q (λ e=>c2 (by simp [V.old,e]))) (λ _ _ _=>rfl) (λ _ _ _=>rfl)) h5 (λ hq _=>by rw [e1,e2]; exact (huq hq rU).mono (λ m hm=>⟨by rw [e6]; exact hm.1,zS (rns _ h1 m hm.1).2 hm.2⟩) (λ _ _ _=>rfl) (λ _ _ _=>rfl))
        rwa [e1,e2,e3] at this
    | view b s q xs=>
      have hb9:b < 999:=by simpa [V.anyB] using c1
      have hb:b < 1000:=by omega
      have hn0:=c3 rfl
      have hpb:p (base d b)=true:=by simp [p,hn0,f0p hd hb]
      have hmod:base d b % 1000=b:=by unfold base; omega
      have e0:Γ''.has (base d b)=Γr.has b:=by show (if p (base d b)=true then _ else _)=_; rw [if_pos hpb,hmod]; exact propext ⟨λ h=>h.1,λ h=>⟨h,by unfold base; omega⟩⟩
      have e6:Γ''.N (base d b)=Γr.N b:=by show (if p (base d b)=true then _ else _)=_; rw [if_pos hpb,hmod]
      have e1:Γ''.blk (base d b)=Γr.blk b:=by show (if p (base d b)=true then _ else _)=_; rw [if_pos hpb,hmod]
      have e2:Γ''.off (base d b)=Γr.off b:=by show (if p (base d b)=true then _ else _)=_; rw [if_pos hpb,hmod]
      have e3:Γ''.cap (base d b)=Γr.cap b:=by show (if p (base d b)=true then _ else _)=_; rw [if_pos hpb,hmod]
      have e4:Γ''.sz (base d b)=Γr.sz b:=by show (if p (base d b)=true then _ else _)=_; rw [if_pos hpb,hmod]
      simp only [d0t,Option.getD_some]
      have hu0:=hu
      rcases hu.view_inv with ⟨ad,cap,rfl,rfl⟩ | ⟨o,cap,rfl,h1,hx,h3,hfit,h4,h5⟩
      · exact .view0 _ _ _ _ _ (hu.view0_of.to (Iff.of_eq e0) (λ _=>⟨e1,e2,e3,e4⟩))
      · have:=VR.view (Γ:=Γ'') (w:=w') (base d b) s q xs o cap (by rw [e0]; exact h1) hx h3 (by rw [e2,e3,e4]; exact hfit)
          (by rw [e1]; exact h4.mono (hSq q (λ e=>c2 (by simp [V.old,e]))) (λ _ _ _=>rfl) (λ _ _ _=>rfl)) h5 (λ hq _=>by rw [e1]; exact (hu0.view_uq hq rU).mono (λ m hm=>⟨by rw [e6]; exact hm.1,zS (rns _ h1 m hm.1).2 hm.2⟩) (λ _ _ _=>rfl) (λ _ _ _=>rfl))
        rwa [e1] at this
  have thawedOut:∀ (u:V) (y:Value),u∈outs→VR Γr w' u y→VR Γ'' w' (u.mapB (d0t d)) y:=λ u y hu=>thawed u y (a0u h9 u hu) (λ e=>f0r hu e) (λ e=>c0n hu e)
  have boxed:∀ (u:V) (B:Nat),u∈outs→BoxAt Γr w' B u→BoxAt Γ'' w' B (u.mapB (d0t d)):=by
    rintro u B hu ⟨cur,e,b1,b2,b3⟩
    have hcells:(u.mapB (d0t d)).cells=V.mapBs (d0t d) u.cells:=d0a _ (λ v u h=>by cases v <;> simp only [d0t,sj_] at h <;> first | (cases h; done) | (subst h; rfl)) u
    refine ⟨cur,e,b1,by rw [hcells,a0f]; exact b2,λ j cc hc=>?_⟩
    rw [hcells,a0e] at hc
    cases hc0:u.cells[j]? with
    | none=>rw [hc0] at hc; cases hc
    | some z=>
      rw [hc0] at hc
      simp only [Option.map_some,sj_] at hc
      subst hc
      obtain ⟨y,y1,y2⟩:=b3 j z hc0
      refine ⟨y,y1,thawed z y (s0j (a0u h9 u hu) hc0) (λ e=>f0r hu ?_) (λ e=>c0n hu ?_) y2⟩
      · cases u with
        | agg cs=>exact f0r (a0a hc0) e
        | _=>
          obtain rfl:j=0:=by
            cases j with
            | zero=>rfl
            | succ j=>simp [V.cells] at hc0
          simp only [V.cells,List.getElem?_cons_zero,sj_] at hc0
          subst hc0
          exact e
      · cases u with
        | agg cs=>exact c0n (a0a hc0) e
        | _=>
          obtain rfl:j=0:=by
            cases j with
            | zero=>rfl
            | succ j=>simp [V.cells] at hc0
          simp only [V.cells,List.getElem?_cons_zero,sj_] at hc0
          subst hc0
          exact e
  refine ⟨Γ'',⟨rfl,rfl,rfl,rfl,rfl,λ _ _=>rfl⟩,⟨hgood,hs.dz,?_,λ i v hi=>?_,λ k v hk=>?_,λ b hb hdd=>?_,λ _=>trivial,λ _ b b' hb hb' hdd hdd' hne m hm hm'=>?_,?_⟩,λ hrb=>?_,λ hrb=>?_⟩
  · simp only [St.kill,St.mark,Act.put,St.sweep,List.length_set,a0f,Array.size_setIfInBounds]
    exact hs.len
  · simp only [St.kill,St.mark,St.sweep,Act.put] at hi ⊢
    rw [List.getElem?_set] at hi
    split at hi
    · rename_i hid
      subst hid
      split at hi
      · rename_i hlt
        rw [a0f] at hlt
        injection hi with hi
        subst hi
        exact ⟨x,by rw [Array.getElem?_setIfInBounds]; simp [hs.len,hlt],VR.undef_ _⟩
      · cases hi
    · rename_i hid
      have hfree:=freeT i v (λ e=>hid e.symm) hi
      rw [a0e] at hi
      cases hc:st.t[i]? with
      | none=>rw [hc] at hi; cases hi
      | some u=>
        rw [hc] at hi
        simp only [Option.map_some,sj_] at hi
        subst hi
        obtain ⟨y,hy,h⟩:=hs.tm i u hc
        exact ⟨y,by rw [Array.getElem?_setIfInBounds]; simp [hid,hy],swept u y hfree h⟩
  · simp only [St.kill,St.mark,St.sweep] at hk
    have hlen:js.length=(V.mapBs (d0t d) (outs.drop (outs.length - s.nb))).length:=by
      rw [a0f,List.length_drop,hnb]
      have:=hh.len
      omega
    rcases o0d js _ _ k v hlen hk with ⟨i,h1,h2⟩ | ⟨h1,h2⟩
    · rw [a0e] at h2
      cases hc:(outs.drop (outs.length - s.nb))[i]? with
      | none=>rw [hc] at h2; cases h2
      | some u=>
        rw [hc] at h2
        simp only [Option.map_some,sj_] at h2
        subst h2
        have hb:=v2 i u hc
        obtain ⟨e1,e2⟩:=boxAt h1
        rw [e1] at hb
        have hu:u∈outs:=List.mem_of_mem_drop (a0a hc)
        exact ⟨hjs k (a0a h1),boxed u _ hu hb⟩
    · have hfree:=freeH k v h1
      rw [j0d] at h1
      cases hc:st.h[k]? with
      | none=>rw [hc] at h1; cases h1
      | some z=>
        rw [hc] at h1
        cases z with
        | none=>cases h1
        | some u=>
          simp only [Option.map_some,sj_] at h1
          subst h1
          obtain ⟨b1,cur,e,b2,b3,b4⟩:=hs.bx k u hc
          have hcells:(u.mapB (a0p L)).cells=V.mapBs (a0p L) u.cells:=d0a _ (a1e L) u
          refine ⟨b1,cur,e,(hold _ (g.box k b1).2.2 (notX b1 h2)).trans b2,by rw [hcells,a0f]; exact b3,λ j cc hcc=>?_⟩
          have hcf:=s0j hfree hcc
          rw [hcells,a0e] at hcc
          cases hz:u.cells[j]? with
          | none=>rw [hz] at hcc; cases hcc
          | some z=>
            rw [hz] at hcc
            simp only [Option.map_some,sj_] at hcc
            subst hcc
            obtain ⟨y,y1,y2⟩:=b4 j z hz
            exact ⟨y,y1,swept z y hcf y2⟩
  · change (if p b=true then Γr.has (b % 1000)∧b ≠ 999 else Γ.has b∧b ∉ L) at hb
    show ¬ (g0x Γ esc (if p b=true then Γr.blk (b % 1000) else Γ.blk b)∨(Γr.S (if p b=true then Γr.blk (b % 1000) else Γ.blk b)∧Fc (if p b=true then Γr.blk (b % 1000) else Γ.blk b)))
    simp only [St.kill,St.mark,Bool.or_eq_false_iff] at hdd
    by_cases hp:p b=true
    · rw [if_pos hp] at hb ⊢
      obtain ⟨h1,_,h3,_⟩:=rb _ hb.1
      rintro (h | ⟨h,_⟩)
      · rcases h1 with ⟨b1,m1,m2,e⟩ | ⟨j,hj,e⟩ | h1
        · rw [e] at h
          rcases h with h | ⟨b2,i1,i2,e2⟩
          · exact hs.nds b1 m2 (hdead b1) h
          · have:=g.baseInj b1 b2 m2 i2 e2
            subst this
            have i3:b1∈E:=by
              simp only [esc] at i1
              split at i1
              · exact i1
              · cases i1
            exact hEL b1 i3 (mem_basesL.2 m1)
        · rw [e] at h
          exact j0j g (hjs j hj) h
        · have:=i0n g h; omega
      · exact h3 h
    · rw [if_neg hp] at hb ⊢
      rintro (h | ⟨_,h⟩)
      · exact h0c g hb.1 (hs.nds b hb.1 (hdead b)) hdd.1 h
      · exact notB hb.1 hb.2 h
  · change (if p b=true then Γr.has (b % 1000)∧b ≠ 999 else Γ.has b∧b ∉ L) at hb
    change (if p b' = true then Γr.has (b' % 1000)∧b' ≠ 999 else Γ.has b' ∧ b' ∉ L) at hb'
    change (if p b=true then Γr.N (b % 1000) else Γ.N b) m at hm
    change (if p b' = true then Γr.N (b' % 1000) else Γ.N b') m at hm'
    have cross:∀ {b b':Nat},Γr.has (b % 1000)→Γr.N (b % 1000) m→Γ.has b' → b' ∉ L→Γ.N b' m→False:=by
      intro b b' h1 h2 h3 h4 h5
      have hz:=(rns _ h1 m h2).2
      rcases (rzf m hz).1 with h | ⟨b1,m1,m2,m3⟩
      · exact notS (g.ns b' h3 m h5).1 h
      · have hne:b1 ≠ b':=λ e=>by subst e; exact h4 (mem_basesL.2 m1)
        exact hs.nd hU b1 b' m2 h3 (hdead b1) (hdead b') hne m m3 h5
    by_cases hp:p b=true
    · by_cases hp':p b' = true
      · rw [if_pos hp] at hb hm; rw [if_pos hp'] at hb' hm'
        have h2:=(pd hp).2
        have h3:=(pd hp').2
        exact rnd _ _ hb.1 hb'.1 (by omega) m hm hm'
      · rw [if_pos hp] at hb hm; rw [if_neg hp'] at hb' hm'
        exact cross hb.1 hm hb'.1 hb'.2 hm'
    · by_cases hp':p b' = true
      · rw [if_neg hp] at hb hm; rw [if_pos hp'] at hb' hm'
        exact cross hb'.1 hm' hb.1 hb.2 hm
      · rw [if_neg hp] at hb hm; rw [if_neg hp'] at hb' hm'
        exact hs.nd hU b b' hb.1 hb'.1 (hdead b) (hdead b') hne m hm hm'
  · simp only [St.kill,St.mark,St.sweep,List.length_set,a0f]
    exact hs.nt
  · obtain ⟨ys,y1,y2,y3⟩:=v0 hrb
    refine ⟨ys,y1,λ i v y hv hy=>?_,y3⟩
    rw [a0e] at hv
    cases hc:outs[i]? with
    | none=>rw [hc] at hv; cases hv
    | some u=>
      rw [hc] at hv
      simp only [Option.map_some,sj_] at hv
      subst hv
      exact thawedOut u y (a0a hc) (y2 i u y hc hy)
  · obtain ⟨B,r,r1,r2,r3,r4,r5,r6,r7,r8⟩:=v1 hrb
    have hr:r∈outs:=List.mem_of_mem_take (by rw [r1]; exact List.mem_singleton.2 rfl)
    refine ⟨B,r,r1,r2,boxed r B hr r3,FcF r4,r5,?_,λ b hb=>?_,λ k hk=>?_⟩
    · rintro (h | ⟨h,_⟩)
      · rcases r4 with ⟨b1,m1,m2,e⟩ | ⟨j,hj,e⟩ | h1
        · rw [e] at h
          rcases h with h | ⟨b2,i1,i2,e2⟩
          · exact hs.nds b1 m2 (hdead b1) h
          · have:=g.baseInj b1 b2 m2 i2 e2
            subst this
            have i3:b1∈E:=by
              simp only [esc] at i1
              split at i1
              · exact i1
              · cases i1
            exact hEL b1 i3 (mem_basesL.2 m1)
        · rw [e] at h
          exact j0j g (hjs j hj) h
        · have:=i0n g h; omega
      · exact r6 h
    · change (if p b=true then Γr.has (b % 1000)∧b ≠ 999 else Γ.has b∧b ∉ L) at hb
      show (if p b=true then Γr.blk (b % 1000) else Γ.blk b) ≠ B
      by_cases hp:p b=true
      · rw [if_pos hp] at hb ⊢
        exact r7 _ hb.1
      · rw [if_neg hp] at hb ⊢
        intro e
        exact notB hb.1 hb.2 (by rw [e]; exact r4)
    · show Γ.box k ≠ B
      by_cases hkj:k∈js
      · obtain ⟨i,e1,e2⟩:=boxOf hkj
        rw [← e2]
        exact r8 i e1
      · intro e
        exact notX hk hkj (by rw [e]; exact r4)
end
end Go.Am
end

/-
  Regions that draw their order.
-/
import Derived.Test.YthcnbncpgloonaaGreatuAmLoose
set_option linter.unusedVariables false
set_option linter.unusedSimpArgs false
namespace Go.Am
open Go Go.RowKit
section
variable {P:Program}{c:Cfg}{Γ Γ':Ctx}{st st2 st' s1 s2:St}{a:Act}{w w':World}{den:Nat→List V→Option V}{η η':Nat→Option V}{d:Nat}{p q r:Nat→Bool}{ops:Array Oper}{o:Oper}{B:List Nat}
def g1b (c:Cfg)(den:Nat→List V→Option V)(ops:Array Oper):List Nat→St→Option St
 | [],st=>some st
 | i :: is,st=>match ops[i]? with
  | some o=>(a0m c den ops st o).bind (g1b c den ops is)
  | none=>none
structure Reg (ops:Array Oper) (B:List Nat):Prop where
  lt:∀ (i:Nat) (o:Oper) (e:Nat),ops[i]? = some o→o.dst=some e→e < 1000
  inj:∀ (i j:Nat) (o o':Oper) (e:Nat),ops[i]? = some o→ops[j]? = some o' → o.dst=some e→o'.dst=some e→i=j
  addr:∀ i,i∈B → ∃ (o:Oper) (x:Nat),ops[i]? = some o∧d0v o=some x ∧ ∀ (j:Nat) (o':Oper),ops[j]? = some o' → o'.dst ≠ some x
  back:∀ (j:Nat) (o:Oper),ops[j]? = some o → ∀ e∈o.after.toList,Region.binds .any e=true→e.on < j
def q2k (ops:Array Oper)(B:List Nat):Prop:=∀ (i j:Nat) (x y:Oper),i < j→ops[i]? = some x→ops[j]? = some y→g0m ops (((B.contains i || B.contains j) || (d0q x || d0q y)) || (l0m ops i x y || l0m ops j y x)) x y=false∨r0q ops ops.size j i=true
theorem g0h {α:Type}{f:α→Option Nat}:∀ {l:List α},(l.filterMap f).Nodup → ∀ (i j:Nat) (x y:α) (e:Nat),l[i]? = some x→l[j]? = some y→f x=some e→f y=some e→i=j:=by
 intro l
 induction l with
 | nil=>intro _ i j x y e h; simp at h
 | cons z l ih=>
  intro hn i j x y e hx hy fx fy
  have hmem:∀ (k:Nat) (u:α),l[k]? = some u→f u=some e→e∈l.filterMap f:=λ k u hk hu=>List.mem_filterMap.2 ⟨u,List.mem_of_getElem? hk,hu⟩
  rw [List.filterMap_cons] at hn
  have hn':(l.filterMap f).Nodup:=by
   split at hn
   ·exact hn
   ·exact (List.nodup_cons.1 hn).2
  cases i with
  | zero=>
   cases j with
   | zero=>rfl
   | succ j=>
    simp only [List.getElem?_cons_zero,sj_] at hx
    subst hx
    rw [fx] at hn
    exact absurd (hmem j y (by simpa using hy) fy) (List.nodup_cons.1 hn).1
  | succ i=>
   cases j with
   | zero=>
    simp only [List.getElem?_cons_zero,sj_] at hy
    subst hy
    rw [fy] at hn
    exact absurd (hmem i x (by simpa using hx) fx) (List.nodup_cons.1 hn).1
   | succ j=>rw [ih hn' i j x y e (by simpa using hx) (by simpa using hy) fx fy]
theorem b2r (h:m0d ops B=true):Reg ops B∧q2k ops B:=by
 unfold m0d at h
 simp only [Bool.and_eq_true,List.all_eq_true,decide_eq_true_eq,List.mem_range] at h
 obtain ⟨⟨⟨h1,h2⟩,h3⟩,h4⟩:=h
 have mem:∀ (i:Nat) (o:Oper) (e:Nat),ops[i]? = some o→o.dst=some e→e∈ops.toList.filterMap (·.dst):=λ i o e hi he=>List.mem_filterMap.2 ⟨o,List.mem_of_getElem? (by simpa using hi),he⟩
 have lt:∀ (j:Nat) (o:Oper),ops[j]? = some o→j < ops.toList.length:=λ j o hj=>by simpa using (Array.getElem?_eq_some_iff.1 hj).1
 refine ⟨⟨λ i o e hi he=>h1 e (mem i o e hi he),λ i j o o' e hi hj he he'=>g0h h2 i j o o' e (by simpa using hi) (by simpa using hj) he he',λ i hi=>?_,λ j o hj e he hbd=>?_⟩,λ i j x y hij hi hj=>?_⟩
 ·have:=h3 i hi
  cases ho:ops[i]? with
  | none=>rw [ho] at this; cases this
  | some o=>
   rw [ho] at this
   simp only [Option.bind_some] at this
   cases hx:d0v o with
   | none=>rw [hx] at this; cases this
   | some x=>
    rw [hx] at this
    simp only [Bool.not_eq_true'] at this
    refine ⟨o,x,rfl,hx,λ j o' hj he=>?_⟩
    have hc:=List.contains_iff_mem.2 (mem j o' x hj he)
    rw [this] at hc
    cases hc
 ·have:=h4 j (lt j o hj)
  rw [hj] at this
  simp only [Bool.and_eq_true,List.all_eq_true,decide_eq_true_eq] at this
  have h9:=this.1 e he
  simp only [Bool.or_eq_true,decide_eq_true_eq,Bool.not_eq_true'] at h9
  exact h9.resolve_right (by rw [hbd]; decide)
 ·have:=h4 j (lt j y hj)
  rw [hj] at this
  simp only [Bool.and_eq_true,List.all_eq_true,decide_eq_true_eq,List.mem_range] at this
  have h5:=this.2 i hij
  rw [hi] at h5
  simp only [Bool.or_eq_true,Bool.not_eq_true'] at h5
  simpa using h5
structure Inv (ops:Array Oper) (B:List Nat) (L:List Nat) (st:St):Prop where
  real:b1n st
  clean:∀ i,i∈L → ∀ (o:Oper) (e:Nat),ops[i]? = some o→o.dst=some e→CleanAt e (l0z o.op) st
  addr:∀ i,i∈B → ∀ (o:Oper) (x:Nat),ops[i]? = some o→d0v o=some x → ∃ e n,st.t.getD x .undef = .ptr e n
  iso:p0d ops=true → ∀ (e:Nat) (T:List Nat),k0u ops e T=true→(∃ (i:Nat) (o:Oper),ops[i]? = some o∧o.dst=some e)→(∃ i,i∈L∧i < ops.size)→Iso e T st
  orig:p0d ops=true → ∀ (f k:Nat) (o:Oper) (x e:Nat),ops[k]? = some o→o.dst=some x→g0i ops f k=some e→k ∉ L→OwnOf e (st.t.getD x .undef)
def Rdy (ops:Array Oper)(L:List Nat)(j:Nat):Prop:=∀ (o:Oper) (ed:Edge),ops[j]? = some o→ed∈o.after.toList→Region.binds .any ed=true→ed.on ∉ L
end
end Go.Am
namespace Go.Am
open Go Go.RowKit
section
variable {P:Program}{c:Cfg}{Γ Γ':Ctx}{st st2 st' s1 s2:St}{a:Act}{w w':World}{den:Nat→List V→Option V}{η η':Nat→Option V}{d:Nat}{p q r:Nat→Bool}{ops:Array Oper}{o:Oper}{B:List Nat}
theorem f0y {free:Bool}{x y:Oper}(h:g0m ops free x y=false):(∀ e,x.dst=some e→e ∉ b0h ops y∧y.dst ≠ some e)∧(∀ e,y.dst=some e→e ∉ b0h ops x)∧((n0u x.op=true∨n0u y.op=true)→free=true):=by
 unfold g0m at h
 simp only [Bool.or_eq_false_iff] at h
 obtain ⟨⟨h1,h2⟩,h3⟩:=h
 refine ⟨λ e he=>?_,λ e he=>?_,λ hm=>?_⟩
 ·rw [he] at h1
  simp only [Bool.or_eq_false_iff] at h1
  refine ⟨λ hc=>?_,λ hy=>?_⟩
  ·rw [List.contains_iff_mem.2 hc] at h1; cases h1.1
  ·rw [hy] at h1; simp at h1
 ·rw [he] at h2
  intro hc
  simp only at h2
  rw [List.contains_iff_mem.2 hc] at h2; cases h2
 ·cases hf:free with
  | true=>rfl
  | false=>
   rw [hf] at h3
   rcases hm with hm | hm <;> rw [hm] at h3 <;> simp at h3
theorem x0o {op:Op}(h:a1f op=true):n0u op=false:=by
 cases op <;> first | rfl | (cases h; done)
theorem l0n {i:Nat}{x y:Oper}(h:l0m ops i x y=true):a1f y.op=true ∧ ∃ sx e,f0m x=some sx∧g0i ops ops.size i=some e∧k0u ops e (f1m ops e)=true∧(∀ z∈b0h ops y,z ∉ f1m ops e)∧(∀ d,y.dst=some d→d ∉ f1m ops e):=by
 unfold l0m at h
 simp only [Bool.and_eq_true] at h
 obtain ⟨⟨h1,h2⟩,h3⟩:=h
 split at h3
 ·rename_i e he
  simp only [Bool.and_eq_true,Bool.not_eq_true'] at h3
  obtain ⟨sx,hsx⟩:=Option.isSome_iff_exists.1 h2
  refine ⟨h1,sx,e,hsx,he,h3.1.1,i0p h3.1.2,λ d hd=>?_⟩
  have:=h3.2
  rw [hd] at this
  exact mem_contains.1 (by simpa using this)
 ·cases h3
theorem p0o {e:Nat}{T:List Nat}(h:k0u ops e T=true):e∈T∧e ≠ 0:=by
 unfold k0u at h
 simp only [Bool.and_eq_true,bne_iff_ne] at h
 exact ⟨List.contains_iff_mem.1 h.1.1,h.1.2⟩
theorem w0t {x:Oper}{sx:Nat}(h:f0m x=some sx):sx∈b0h ops x:=by
 unfold f0m at h
 split at h
 ·rename_i args ts hop
  split at h
  ·rename_i z zs hargs
   injection h with h
   subst h
   exact b0j (by rw [hop]; simp [Op.operands,Call.operands,hargs])
  ·cases h
 ·cases h
theorem e1k {f i e sx:Nat}{x:Oper}(h:g0i ops f i=some e)(hi:ops[i]? = some x)(hs:f0m x=some sx):∃ f' i' o',g0i ops f' i' = some e∧ops[i']? = some o' ∧ o'.dst=some sx ∧ ∃ ed∈x.after.toList,Region.binds .any ed=true∧ed.on=i':=by
 cases f with
 | zero=>cases h
 | succ f=>
  rw [g0i,hi] at h
  simp only at h
  split at h
  ·rename_i hop
   unfold f0m at hs
   rw [hop] at hs
   cases hs
  ·rw [hs] at h
   simp only at h
   split at h
   ·rename_i i' hw
    split at h
    ·rename_i hany
     obtain ⟨o',h1,h2⟩:=r0d hw
     obtain ⟨ed,h3,h4⟩:=List.any_eq_true.1 hany
     rw [Bool.and_eq_true,beq_iff_eq] at h4
     exact ⟨f,i',o',h,h1,h2,ed,h3,h4.1,h4.2⟩
    ·cases h
   ·cases h
theorem l0i {i e sx:Nat}{x:Oper}(hi:ops[i]? = some x)(hs:f0m x=some sx)(h:g0i ops ops.size i=some e):p0d ops=true:=by
 unfold p0d
 refine List.any_eq_true.2 ⟨i,List.mem_range.2 (Array.getElem?_eq_some_iff.1 hi).1,?_⟩
 simp only [hi,hs,h]
 rfl
theorem Inv.own (ha:p0d ops=true){L:List Nat}(hI:Inv ops B L st){f i e sx:Nat}{x:Oper}(h:g0i ops f i=some e)(hi:ops[i]? = some x)(hs:f0m x=some sx)(hr:Rdy ops L i):OwnOf e (st.t.getD sx .undef):=by
 obtain ⟨f',i',o',h1,h2,h3,ed,h4,h5,h6⟩:=e1k h hi hs
 exact hI.orig ha f' i' o' sx e h2 h3 h1 (h6 ▸ hr x ed hi h4 h5)
theorem u2t (hA:b0l P c)(hD:a0r P den)(hR:Reg ops B){i j:Nat}{x y:Oper}(hi:ops[i]? = some x)(hj:ops[j]? = some y)(hcl:g0m ops (((B.contains i || B.contains j) || (d0q x || d0q y)) || (l0m ops i x y || l0m ops j y x)) x y=false){L:List Nat}(hI:Inv ops B L st)(iL:i∈L)(jL:j∈L)(ri:Rdy ops L i)(rj:Rdy ops L j)
  (hx:a0m c den ops st x=some s1) (hy:a0m c den ops s1 y=some s2):∃ s,a0m c den ops st y=some s∧a0m c den ops s x=some s2:=by
 obtain ⟨k1,k2,k3⟩:=f0y hcl
 by_cases sx:g0y ops st x
 ·by_cases sy:g0y ops s1 y
  ·cases hdx:x.dst with
   | none=>
    obtain ⟨hw,rfl⟩:=d0l hx sx hdx
    refine ⟨s2,hy,?_⟩
    cases hdy:y.dst with
    | none=>
     obtain ⟨_,rfl⟩:=d0l hy sy hdy
     exact hx
    | some dy=>
     obtain ⟨v,bx,esc,rfl,_,_,_⟩:=j1o hy sy hdy
     refine c1p ?_ hdx
     rw [← hw]
     exact c0a λ z hz=>b0o (λ e=>k2 dy hdy (e ▸ hz))
   | some dx=>
    cases hdy:y.dst with
    | none=>
     obtain ⟨hw,rfl⟩:=d0l hy sy hdy
     refine ⟨st,c1p ?_ hdy,hx⟩
     obtain ⟨v,bx,esc,rfl,_,_,_⟩:=j1o hx sx hdx
     rw [← hw]
     exact (c0a (st:=st) (st2:=st.upd dx v bx esc) λ z hz=>b0o (λ e:z=dx=>(k1 dx hdx).1 (e ▸ hz))).symm
    | some dy=>
     have hne:dx ≠ dy:=λ e=>(k1 dx hdx).2 (by rw [hdy,e])
     exact f1k hA hD hI.real hx hy sx sy hdx hdy hne (hR.lt i x dx hi hdx) (hR.lt j y dy hj hdy) (k2 dy hdy) (k1 dx hdx).1 (hI.clean i iL x dx hi hdx) (hI.clean j jL y dy hj hdy)
  ·have hm:n0u y.op=true:=x0f (st:=s1) (by
    cases hq:c0g s1 y.op with
    | true=>rfl
    | false=>exact absurd (.inl hq) sy)
   have hfree:=k3 (.inr hm)
   rw [Bool.or_eq_true] at hfree
   rcases hfree with hfree | hfree
   case inr=>
    rw [Bool.or_eq_true] at hfree
    rcases hfree with h | h
    ·have:=x0o (l0n h).1
     rw [hm] at this
     cases this
    ·obtain ⟨qx,sy',e,ay,hor,hct,r1,r2⟩:=l0n h
     obtain ⟨heT,_⟩:=p0o hct
     exact r0v hA hD hI.real ay hx hy sy qx (hI.iso (l0i hj ay hor) e _ hct (k0j hor) ⟨i,iL,(Array.getElem?_eq_some_iff.1 hi).1⟩) (hI.own (l0i hj ay hor) hor hj ay rj) heT r1 r2 (w0t ay) (λ d hd=>⟨(k1 d hd).1,(k1 d hd).2⟩) k2 (λ d hd=>hI.clean i iL x d hi hd) (λ d hd=>hR.lt i x d hi hd) (λ d hd=>hR.lt j y d hj hd)
   rw [Bool.or_eq_true] at hfree
   rcases hfree with hfree | hext
   case inr=>
    rw [Bool.or_eq_true] at hext
    rcases hext with h | h
    ·exact y0k hx hy sy h (λ d hd=>⟨(k1 d hd).2,(k1 d hd).1⟩) k2
    ·obtain ⟨hop,_⟩:=l0v h
     cases hy':y.op <;> rw [hy'] at hop hm <;> first | (cases hop; done) | (cases hm; done)
   have hiB:i∈B:=by
    rw [Bool.or_eq_true] at hfree
    rcases hfree with h | h
    ·exact List.contains_iff_mem.1 h
    ·obtain ⟨o,z,ho,hz,_⟩:=hR.addr j (List.contains_iff_mem.1 h)
     rw [hj] at ho
     injection ho with ho
     subst ho
     obtain ⟨t,k,hop⟩:=f0v hz
     rw [hop] at hm
     cases hm
   obtain ⟨o,z,ho,hz,_⟩:=hR.addr i hiB
   rw [hi] at ho
   injection ho with ho
   subst ho
   obtain ⟨e,n,hp⟩:=hI.addr i hiB x z hi hz
   cases hdx:x.dst with
   | none=>
    exact absurd hdx (n0l hz)
   | some dx=>exact v0o hx hy sy hz hdx hp (k1 dx hdx).2 (k1 dx hdx).1 k2
 ·have hm:n0u x.op=true:=x0f (st:=st) (by
   cases hq:c0g st x.op with
   | true=>rfl
   | false=>exact absurd (.inl hq) sx)
  have hfree:=k3 (.inl hm)
  rw [Bool.or_eq_true] at hfree
  rcases hfree with hfree | hfree
  case inr=>
   rw [Bool.or_eq_true] at hfree
   rcases hfree with h | h
   ·obtain ⟨qy,sx',e,ax,hor,hct,r1,r2⟩:=l0n h
    obtain ⟨heT,he0⟩:=p0o hct
    exact r0u hA hD hI.real ax hx hy sx qy he0 (hI.iso (l0i hi ax hor) e _ hct (k0j hor) ⟨j,jL,(Array.getElem?_eq_some_iff.1 hj).1⟩) (hI.own (l0i hi ax hor) hor hi ax ri) heT r1 r2 k1 k2 (λ d hd=>hI.clean j jL y d hj hd) (λ d hd=>hR.lt j y d hj hd)
   ·have:=x0o (l0n h).1
    rw [hm] at this
    cases this
  rw [Bool.or_eq_true] at hfree
  rcases hfree with hfree | hext
  case inr=>
   rw [Bool.or_eq_true] at hext
   rcases hext with h | h
   ·obtain ⟨hop,_⟩:=l0v h
    cases hx':x.op <;> rw [hx'] at hop hm <;> first | (cases hop; done) | (cases hm; done)
   ·exact y0j hx hy sx h (λ d hd=>⟨λ e=>(k1 d e).2 hd,k2 d hd⟩) (λ e he=>(k1 e he).1)
  have hjB:j∈B:=by
   rw [Bool.or_eq_true] at hfree
   rcases hfree with h | h
   ·obtain ⟨o,z,ho,hz,_⟩:=hR.addr i (List.contains_iff_mem.1 h)
    rw [hi] at ho
    injection ho with ho
    subst ho
    obtain ⟨t,k,hop⟩:=f0v hz
    rw [hop] at hm
    cases hm
   ·exact List.contains_iff_mem.1 h
  obtain ⟨o,z,ho,hz,_⟩:=hR.addr j hjB
  rw [hj] at ho
  injection ho with ho
  subst ho
  obtain ⟨e,n,hp⟩:=hI.addr j hjB y z hj hz
  cases hdy:y.dst with
  | none=>exact absurd hdy (n0l hz)
  | some dy=>exact v0p hx hy sx hz hdy hp (λ e=>(k1 dy e).2 hdy) (k2 dy hdy) (λ e he=>(k1 e he).1)
end
end Go.Am
namespace Go.Am
open Go Go.RowKit
section
variable {P:Program}{c:Cfg}{Γ Γ':Ctx}{st st2 st' s1 s2:St}{a:Act}{w w':World}{den:Nat→List V→Option V}{η η':Nat→Option V}{d:Nat}{p q r:Nat→Bool}{ops:Array Oper}{o:Oper}{B:List Nat}
theorem k1o (h:a0m c den ops st o=some st'){x:Nat}(hx:o.dst ≠ some x){e n:Nat}(hp:st.t.getD x .undef = .ptr e n):st'.t.getD x .undef = .ptr e n:=by
 by_cases hs:g0y ops st o
 ·cases hd:o.dst with
  | none=>obtain ⟨_,rfl⟩:=d0l h hs hd; exact hp
  | some dd=>
   obtain ⟨v,bx,esc,rfl,_,_,_⟩:=j1o h hs hd
   exact (b0o (λ e=>hx (by rw [hd,e]))).trans hp
 ·have h1:c0g st o.op=true:=by
   cases hi:c0g st o.op with
   | true=>rfl
   | false=>exact absurd (.inl hi) hs
  unfold a0m at h
  cases hw:wanted ops st.t o with
  | none=>rw [hw] at h; cases h
  | some b=>
   rw [hw] at h
   cases b with
   | false=>exact absurd (.inr hw) hs
   | true=>
    simp only at h
    unfold step at h
    rw [if_pos h1] at h
    obtain ⟨f,hg,hsl⟩:=p0s h
    rw [hsl x hx,hp]
    exact hg.1 _ (.inl ⟨_,_,rfl⟩)
theorem Inv.step (hA:b0l P c)(hD:a0r P den)(hR:Reg ops B){L L':List Nat}{j:Nat}{y:Oper}(hj:ops[j]? = some y)(hI:Inv ops B L st)(h:a0m c den ops st y=some st')(hL:∀ i,i∈L' → i∈L∧i ≠ j)(hL2:∀ i,i∈L→i ≠ j→i∈L')(hr:Rdy ops L j):Inv ops B L' st':=by
 refine ⟨n0b hA hD hI.real h,λ i hi o e ho he=>?_,λ i hi o x ho hx=>?_,λ ha e T hc hw hex=>?iso,λ ha f k o x e ho hx hor hk=>?_⟩
 case iso=>
  obtain ⟨i,hi,hil⟩:=hex
  obtain ⟨h1,h2⟩:=hL i hi
  refine o1c hA hI.real hc (n1s hj (λ ⟨hla,hjm⟩=>?_)) (λ d hd=>hR.lt j y d hj hd) h (hI.iso ha e T hc hw ⟨i,h1,hil⟩)
  have hj':ops[ops.size - 1]? = some y:=by rw [← hj]; congr 1; omega
  unfold j1d at hla
  rw [hj'] at hla
  simp only [List.all_eq_true,List.mem_range] at hla
  obtain ⟨ed,he1,he2⟩:=List.any_eq_true.1 (hla i (by omega))
  rw [Bool.and_eq_true,beq_iff_eq] at he2
  exact hr y ed hj he1 he2.1 (he2.2 ▸ h1)
 ·obtain ⟨h1,h2⟩:=hL i hi
  exact k0t hA hI.real h (λ e' he'=>⟨λ heq=>h2 (hR.inj i j o y e ho hj he (by rw [he',heq])),hR.lt j y e' hj he'⟩) (hI.clean i h1 o e ho he)
 ·obtain ⟨e,n,hp⟩:=hI.addr i hi o x ho hx
  obtain ⟨o',x',ho',hx',hno⟩:=hR.addr i hi
  rw [ho] at ho'
  injection ho' with ho'
  subst ho'
  rw [hx] at hx'
  injection hx' with hx'
  subst hx'
  exact ⟨e,n,k1o h (hno j y hj) hp⟩
 ·by_cases hkj:k=j
  ·subst hkj
   rw [hj] at ho
   injection ho with ho
   subst ho
   cases f with
   | zero=>cases hor
   | succ f=>
    refine e1l hj hx (hR.lt k y x hj hx) hor h (λ sx i hs hw ⟨ed,h1,h2,h3⟩ ho=>?_)
    obtain ⟨o',h4,h5⟩:=r0d hw
    exact hI.orig ha f i o' sx e h4 h5 ho (h3 ▸ hr y ed hj h1 h2)
  ·exact k1s h (λ hd=>hkj (hR.inj k j o y x ho hj hx hd)) (hI.orig ha f k o x e ho hx hor (λ hkL=>hk (hL2 k hkL hkj)))
theorem m0i {i:Nat}{x:Oper}(hi:ops[i]? = some x)(L:List Nat)(st:St):g1b c den ops (i :: L) st=(a0m c den ops st x).bind (g1b c den ops L):=by simp only [g1b,hi]
theorem y1l (hA:b0l P c)(hD:a0r P den)(hR:Reg ops B){i:Nat}{x:Oper}(hi:ops[i]? = some x):∀ (pre suf:List Nat) (st st':St),Inv ops B (pre++i :: suf) st→(pre++i :: suf).Pairwise (· < ·)→Rdy ops (pre++i :: suf) i →
  (∀ j,j∈pre → ∀ y,ops[j]? = some y→g0m ops (((B.contains j || B.contains i) || (d0q y || d0q x)) || (l0m ops j y x || l0m ops i x y)) y x=false)→g1b c den ops (pre++i :: suf) st=some st' → ∃ s,a0m c den ops st x=some s∧g1b c den ops (pre++suf) s=some st':=by
 intro pre
 induction pre with
 | nil=>
  intro suf st st' hI _ _ _ h
  rw [List.nil_append,m0i hi] at h
  cases hs:a0m c den ops st x with
  | none=>rw [hs] at h; cases h
  | some s=>rw [hs] at h; exact ⟨s,rfl,h⟩
 | cons j pre ih=>
  intro suf st st' hI hS hri hcl h
  cases hj:ops[j]? with
  | none=>simp only [List.cons_append,g1b,hj] at h; cases h
  | some y=>
   rw [List.cons_append,m0i hj] at h
   cases hs:a0m c den ops st y with
   | none=>rw [hs] at h; cases h
   | some s1=>
    rw [hs] at h
    have hN:(j :: (pre++i :: suf)).Nodup:=List.Pairwise.imp (λ h=>Nat.ne_of_lt h) hS
    rw [List.nodup_cons] at hN
    have hS':=List.pairwise_cons.1 hS
    have hrj:Rdy ops (j :: (pre++i :: suf)) j:=λ o ed ho hed hbd hm=>by
     have h1:=hR.back j o ho ed hed hbd
     rcases List.mem_cons.1 hm with h2 | h2
     ·omega
     ·have:=hS'.1 _ h2
      omega
    have hI1:Inv ops B (pre++i :: suf) s1:=hI.step hA hD hR hj hs (λ k hk=>⟨by simp only [List.cons_append,List.mem_cons]; exact .inr hk,λ e=>hN.1 (e ▸ hk)⟩) (λ k hk hkj=>by simp only [List.cons_append,List.mem_cons] at hk; exact hk.resolve_left hkj) hrj
    obtain ⟨s2,h1,h2⟩:=ih suf s1 st' hI1 hS'.2 (λ o ed ho hed hb hm=>hri o ed ho hed hb (by simp only [List.cons_append,List.mem_cons]; exact .inr hm)) (λ k hk=>hcl k (by simp [hk])) h
    obtain ⟨s,h3,h4⟩:=u2t hA hD hR hj hi (hcl j (by simp) y hj) hI (by simp) (by simp) hrj hri hs h1
    refine ⟨s,h3,?_⟩
    rw [List.cons_append,m0i hj,h4]
    exact h2
theorem q0n {listed:Nat→Bool}(hcl:∀ j o,listed j=true→ops[j]? = some o → ∀ e∈o.after.toList,Region.binds .any e=true→listed e.on=true):∀ (k j i:Nat) (o:Oper),ops[j]? = some o →
  (∀ e∈o.after.toList,Region.binds .any e=true→listed e.on=true)→r0q ops k j i=true→listed i=true:=by
 intro k
 induction k with
 | zero=>intro j i o _ _ h; cases h
 | succ k ih=>
  intro j i o ho hr h
  simp only [r0q,ho,List.any_eq_true,Bool.and_eq_true,Bool.or_eq_true,beq_iff_eq] at h
  obtain ⟨e,he,hb,h⟩:=h
  have hl:=hr e he hb
  rcases h with rfl | h
  ·exact hl
  ·cases hon:ops[e.on]? with
   | none=>
    cases k with
    | zero=>cases h
    | succ k=>simp only [r0q,hon] at h; cases h
   | some o'=>exact ih e.on i o' hon (hcl e.on o' hl hon) h
end
end Go.Am
namespace Go.Am
open Go Go.RowKit
section
variable {P:Program}{c:Cfg}{Γ Γ':Ctx}{st st2 st' s1 s2:St}{a:Act}{w w':World}{den:Nat→List V→Option V}{ops:Array Oper}{o:Oper}{B:List Nat}
def e0v (ops:Array Oper)(listed:Array Bool):List Nat:=(List.range ops.size).filter λ i=>!listed.getD i true
theorem mem_pend {listed:Array Bool}{j:Nat}:j∈e0v ops listed↔j < ops.size∧listed.getD j true=false:=by
 unfold e0v
 rw [List.mem_filter,List.mem_range]
 simp only [Bool.not_eq_true']
theorem e0x:e0v ops (Array.replicate ops.size false)=List.range ops.size:=by
 unfold e0v
 rw [List.filter_eq_self]
 intro i hi
 have:=List.mem_range.1 hi
 simp [this]
theorem e0w (listed:Array Bool):(e0v ops listed).Pairwise (· < ·):=List.Pairwise.filter _ List.pairwise_lt_range
theorem n0a (listed:Array Bool):(e0v ops listed).Nodup:=(e0w listed).imp (λ h=>Nat.ne_of_lt h)
theorem i0t {i:Nat}:∀ {pre suf:List Nat},(pre++i :: suf).Nodup→(pre++i :: suf).filter (λ j=>j != i)=pre++suf:=by
 intro pre suf h
 have h1:∀ j∈pre,j ≠ i:=λ j hj e=>by
  subst e
  exact (List.nodup_append.1 h).2.2 j hj j (by simp) rfl
 have h2:∀ j∈suf,j ≠ i:=λ j hj e=>by
  subst e
  exact (List.nodup_cons.1 (List.nodup_append.1 h).2.1).1 hj
 rw [List.filter_append,List.filter_cons]
 simp only [bne_self_eq_false,Bool.false_eq_true,if_false]
 rw [List.filter_eq_self.2 (λ j hj=>by simpa using h1 j hj),List.filter_eq_self.2 (λ j hj=>by simpa using h2 j hj)]
theorem h0r {listed:Array Bool}{i:Nat}:e0v ops (listed.setIfInBounds i true)=(e0v ops listed).filter (λ j=>j != i):=by
 unfold e0v
 rw [List.filter_filter]
 refine List.filter_congr λ j _=>?_
 by_cases h:j=i
 ·subst h
  by_cases hl:j < listed.size
  ·simp [hl]
  ·simp [Array.getElem?_eq_none (Nat.le_of_not_lt hl)]
 ·rw [getD_set_ne true (Ne.symm h)]
  simp [h]
theorem k1k:∀ (m k:Nat) (st:St),k+m=ops.size→g1b c den ops (List.range' k m) st=b0x c den ops (ops.toList.drop k) st:=by
 intro m
 induction m with
 | zero=>
  intro k st h
  rw [List.drop_eq_nil_of_le (by simp; omega)]
  rfl
 | succ m ih=>
  intro k st h
  have hk:k < ops.size:=by omega
  rw [List.range'_succ,List.drop_eq_getElem_cons (by simpa using hk),a1o,m0i (x:=ops[k]) (by simp [hk])]
  simp only [Array.getElem_toList]
  refine congrArg _ (funext λ s=>ih (k+1) s (by omega))
theorem p1a (st:St):g1b c den ops (List.range ops.size) st=b0x c den ops ops.toList st:=by
 rw [List.range_eq_range',k1k ops.size 0 st (by omega),List.drop_zero]
theorem v1h (hA:b0l P c)(hD:a0r P den){i:Nat}(hi:ops[i]? = some o)(hs:Sim Γ st a w)(h:a0m c den ops st o=some st'){Q:Exit→Act→World→Prop}{K:Act→World→Prop}(hK:∀ a' w',Sims Γ st' a' w' → K a' w'):wpOp P ops Q i K a w:=by
 unfold wpOp
 simp only [hi]
 unfold a0m at h
 cases hw:wanted ops st.t o with
 | none=>rw [hw] at h; cases h
 | some b=>
  rw [hw] at h
  rw [m0p hs hw]
  cases b with
  | true=>
   simp only [if_true] at h ⊢
   exact .inl (j0x hA hD hs h K Q hK)
  | false=>
   simp only [Bool.false_eq_true,if_false] at h ⊢
   cases hd:o.dst with
   | none=>rw [hd] at h; simp only [sj_] at h; subst h; exact hK _ _ ⟨Γ,Same.rfl',hs⟩
   | some d=>rw [hd] at h; simp only [sj_] at h; subst h; exact hK _ _ ⟨Γ,Same.rfl',q0u hs d⟩
theorem y1h (hA:b0l P c)(hD:a0r P den)(hR:Reg ops B)(hO:q2k ops B){Q:Exit→Act→World→Prop}:∀ (fuel:Nat) (listed:Array Bool) (Γ:Ctx) (st:St) (a:Act) (w:World) (st':St),Sim Γ st a w→Inv ops B (e0v ops listed) st→listed.size=ops.size →
  (∀ j o,listed.getD j false=true→ops[j]? = some o → ∀ e∈o.after.toList,Region.binds .any e=true→listed.getD e.on false=true)→(e0v ops listed).length≤fuel→g1b c den ops (e0v ops listed) st=some st' →
  (∀ a' w',Sims Γ st' a' w' → Q .normal a' w')→wpAny P .any ops Q fuel listed a w:=by
 intro fuel
 have l0h:∀ (listed:Array Bool),listed.size=ops.size → ∀ j,j < ops.size → ∀ b,listed.getD j true=b→listed.getD j false=b:=by
  intro listed hz j hj b h
  have:j < listed.size:=by omega
  simpa [this] using h
 -- where nothing is ready nothing is pending
 have hdone:∀ (listed:Array Bool),listed.size=ops.size→Region.ready .any ops listed=[]→e0v ops listed=[]:=by
  intro listed hz hr
  cases hp:e0v ops listed with
  | nil=>rfl
  | cons j rest=>
   exfalso
   have hj:=mem_pend.1 (show j∈e0v ops listed by rw [hp]; simp)
   have hsome:ops[j]? = some ops[j]:=by simp [hj.1]
   have:j∈Region.ready .any ops listed:=by
    refine mem_ready.2 ⟨hj.2,ops[j],hsome,λ e he hbd=>?_⟩
    have hlt:=hR.back j _ hsome e (by simpa using he) hbd
    have hlt2:e.on < ops.size:=by omega
    cases hb:listed.getD e.on true with
    | true=>exact l0h listed hz e.on hlt2 true hb
    | false=>
     exfalso
     have hm:e.on∈e0v ops listed:=mem_pend.2 ⟨hlt2,hb⟩
     have hs:=e0w (ops:=ops) listed
     rw [hp] at hm hs
     rcases List.mem_cons.1 hm with h | h
     ·omega
     ·have:=(List.pairwise_cons.1 hs).1 _ h
      omega
   rw [hr] at this
   cases this
 induction fuel with
 | zero=>
  intro listed Γ st a w st' hs hI hz hcl hlen h hQ
  have hp:e0v ops listed=[]:=List.eq_nil_of_length_eq_zero (by omega)
  rw [hp] at h
  simp only [g1b,sj_] at h
  subst h
  refine ⟨?_,hQ a w ⟨Γ,Same.rfl',hs⟩⟩
  cases hr:Region.ready .any ops listed with
  | nil=>rfl
  | cons i rest=>
   exfalso
   obtain ⟨h0,o,ho,_⟩:=mem_ready.1 (show i∈Region.ready .any ops listed by rw [hr]; simp)
   have:i∈e0v ops listed:=mem_pend.2 ⟨(Array.getElem?_eq_some_iff.1 ho).1,h0⟩
   rw [hp] at this
   cases this
 | succ fuel ih=>
  intro listed Γ st a w st' hs hI hz hcl hlen h hQ
  refine ⟨λ hr=>?_,λ i hi=>?_⟩
  ·rw [hdone listed hz hr] at h
   simp only [g1b,sj_] at h
   subst h
   exact hQ a w ⟨Γ,Same.rfl',hs⟩
  ·obtain ⟨h0,o,ho,hall⟩:=mem_ready.1 hi
   have hilt:=(Array.getElem?_eq_some_iff.1 ho).1
   have him:i∈e0v ops listed:=mem_pend.2 ⟨hilt,h0⟩
   obtain ⟨pre,suf,hsplit⟩:=List.append_of_mem him
   have hnd:=n0a (ops:=ops) listed
   have hsrt:=e0w (ops:=ops) listed
   have hset:e0v ops (listed.setIfInBounds i true)=pre++suf:=by
    rw [h0r,hsplit,i0t (by rw [← hsplit]; exact hnd)]
   have hI':=hI
   rw [hsplit] at h hnd hsrt hI'
   have hrdy:Rdy ops (e0v ops listed) i:=λ o' ed ho' hed hb hm=>by
    rw [ho] at ho'
    injection ho' with ho'
    subst ho'
    have h3:=hall ed (by simpa using hed) hb
    have h4:=mem_pend.1 hm
    have h5:=l0h listed hz ed.on h4.1 false h4.2
    rw [h3] at h5
    cases h5
   have hrdy':=hrdy
   rw [hsplit] at hrdy'
   obtain ⟨s,h1,h2⟩:=y1l hA hD hR ho pre suf st st' hI' hsrt hrdy' (λ j hj y hy=>by
    have hjp:j∈e0v ops listed:=by rw [hsplit]; simp [hj]
    have hji:j < i:=(List.pairwise_append.1 hsrt).2.2 j hj i (by simp)
    rcases hO j i y o hji hy ho with h | h
    ·exact h
    ·exfalso
     have hlj:=q0n (listed:=λ k=>listed.getD k false) hcl ops.size i j o ho (λ e he hb=>hall e (by simpa using he) hb) h
     have:=l0h listed hz j (by omega) false (mem_pend.1 hjp).2
     simp only [this] at hlj
     cases hlj) h
   refine v1h hA hD ho hs h1 (λ a' w' hs'=>?_)
   obtain ⟨Γ',hsame,hs''⟩:=hs'
   have hilt2:i < listed.size:=by omega
   refine ih (listed.setIfInBounds i true) Γ' s a' w' st' hs'' ?_ (by simpa using hz) ?_ ?_ (by rw [hset]; exact h2) (λ a2 w2 h'=>hQ _ _ (Sims.of hsame h'))
   ·refine hI.step hA hD hR ho h1 (λ k hk=>?_) ?_ ?_
    ·rw [h0r,List.mem_filter] at hk
     exact ⟨hk.1,by simpa using hk.2⟩
    ·intro k hk hki
     rw [h0r,List.mem_filter]
     exact ⟨hk,by simpa using hki⟩
    ·exact hrdy
   ·intro j oj hj hoj e he hb
    by_cases hji:j=i
    ·subst hji
     rw [ho] at hoj
     injection hoj with hoj
     subst hoj
     exact getD_set_true (hall e (by simpa using he) hb)
    ·rw [getD_set_ne false (Ne.symm hji)] at hj
     exact getD_set_true (hcl j oj hj hoj e he hb)
   ·have:(e0v ops listed).length=(pre++suf).length+1:=by rw [hsplit]; simp; omega
    rw [hset]
    omega
theorem Sim.drawn (hs:Sim Γ st a w)(n:Nat):Sim Γ st a { w with drawn:=n }:=by
 have hc:∀ x:Addr,({ w with drawn:=n }:World).cell? x=w.cell? x:=λ x=>rfl
 have hvr:∀ v x,VR Γ w v x→VR Γ { w with drawn:=n } v x:=λ v x h=>
  VR.mono (w:=w) (w':={ w with drawn:=n }) (Γ:=Γ) (Γ':=Γ) (p:=λ _=>false) (r:=λ _=>false) (λ h=>h) (λ _ h=>h) (λ _ h=>h) (λ _ _ _=>rfl) (λ b _=>⟨Iff.rfl,λ _=>⟨rfl,rfl,rfl,rfl,rfl,λ _ h=>h,λ _=>rfl⟩⟩) (λ d _=>⟨λ h=>h,rfl⟩) h (b0r v) (a0z v)
 have g:=hs.good
 refine ⟨⟨g.os,g.tape,g.output,g.size,g.old,g.new,g.slt,g.base,g.baseInj,g.box,g.boxInj,g.baseBox,g.sr,g.gl,g.bz,g.zf,g.ns,g.h9⟩,hs.dz,hs.len,λ i v h=>?_,λ d v h=>?_,hs.nds,hs.du,hs.nd,hs.nt⟩
 ·obtain ⟨x,h1,h2⟩:=hs.tm i v h
  exact ⟨x,h1,hvr v x h2⟩
 ·obtain ⟨h1,cur,e,h2,h3,h4⟩:=hs.bx d v h
  refine ⟨h1,cur,e,h2,h3,λ j u hj=>?_⟩
  obtain ⟨x,h5,h6⟩:=h4 j u hj
  exact ⟨x,h5,hvr u x h6⟩
theorem t1b (hA:b0l P c)(hm:P.follows .mixedOrders=true)(hD:a0r P den):∀ (id:Nat) (ops:Array Oper) (B:List Nat) (Γ:Ctx) (st st':St) (a:Act) (w:World) (Q:Exit→Act→World→Prop),Sim Γ st a w→y0t st →
  m0d ops B=true→b0t ops B st=true→b0x c den ops ops.toList st=some st' → (∀ a' w',Sims Γ st' a' w' → Q .normal a' w')→(Code.region id ops true).wp P Q a w:=by
 intro id ops B Γ st st' a w Q hs hclean hreg hent h hQ
 obtain ⟨hR,hO⟩:=b2r hreg
 unfold b0t at hent
 rw [Bool.and_eq_true,List.all_eq_true,List.all_eq_true] at hent
 obtain ⟨he1,he2⟩:=hent
 refine wp_region_any hm ?_
 have hs':=hs.drawn (w.drawn+1)
 refine y1h hA hD hR hO ops.size (Array.replicate ops.size false) Γ st a _ st' hs' ?_ (by simp) ?_ ?_ (by rw [e0x,p1a]; exact h) hQ
 ·refine ⟨⟨Γ,a,w,hs⟩,λ i hi o e ho he=>?_,λ i hi o x ho hx=>?_,λ _ e T _ hw=>?_,λ _ f k o x e ho _ _ hk=>?_⟩
  ·have hlt:=hR.lt i o e ho he
   obtain ⟨hc1,hc2⟩:=hclean e hlt
   have hmem:o∈ops.toList:=List.mem_of_getElem? (i:=i) (by simpa using ho)
   have hb:=he2 o hmem
   simp only [he,Bool.or_eq_true,Bool.not_eq_true',Bool.and_eq_true] at hb
   intro v hv
   refine ⟨?_,?_⟩
   ·rcases hv with hv | hv
    ·exact a0u hc1 v hv
    ·exact i0o hc2 v hv
   ·cases hbx:l0z o.op with
    | false=>simp only [Bool.false_and]; exact a0z v
    | true=>
     rw [hbx] at hb
     simp only [Bool.true_eq_false,false_or] at hb
     simp only [Bool.true_and]
     rcases hv with hv | hv
     ·exact c0o hb.1 v hv
     ·exact l0k hb.2 v hv
  ·have:=he1 i hi
   rw [ho] at this
   simp only [Option.bind_some,hx] at this
   split at this
   ·rename_i d n hq; exact ⟨d,n,hq⟩
   ·cases this
  ·obtain ⟨i,o,ho,he⟩:=hw
   obtain ⟨hc1,hc2⟩:=hclean e (hR.lt i o e ho he)
   refine λ _=>⟨λ z _=>?_,λ v hv=>i0o hc2 v hv⟩
   rw [List.getD_eq_getElem?_getD]
   cases ht:st.t[z]? with
   | none=>rfl
   | some v=>exact a0u hc1 v (a0a ht)
  ·exfalso
   apply hk
   rw [e0x,List.mem_range]
   exact (Array.getElem?_eq_some_iff.1 ho).1
 ·intro j o hj
  by_cases hjl:j < ops.size
  ·simp [hjl] at hj
  ·simp [hjl] at hj
 ·rw [e0x]; simp
def a0k (c:Cfg)(den:Nat→List V→Option V)(ops:Array Oper)(st:St)(o:Oper):Option St:=
 match wanted ops st.t o with
 | none=>none
 | some true=>stepB c den ops st o
 | some false=>match o.dst with
  | some d=>some { st with t:=st.t.set d d0g }
  | none=>some st
theorem x0u (c:Cfg)(den:Nat→List V→Option V)(ops:Array Oper)(o:Oper)(os:List Oper)(st:St):b0g c den ops (o :: os) st=(a0k c den ops st o).bind (b0g c den ops os):=by
 simp only [b0g,a0k]
 cases wanted ops st.t o with
 | none=>rfl
 | some b=>
  cases b with
  | true=>
   simp only
   cases stepB c den ops st o <;> rfl
  | false=>
   simp only
   cases o.dst <;> rfl
theorem i1v {op:Op}(h:c0d c.io op=false):i0h c op=none:=by
 unfold c0d at h
 unfold i0h
 split at h
 ·cases hf:c.io _ with
  | none=>rfl
  | some s=>rw [hf] at h; cases h
 ·rfl
theorem d0h (h:c0d c.io o.op=false):a0k c den ops st o=a0m c den ops st o:=by
 unfold a0k a0m stepB
 rw [i1v h]
 cases wanted ops st.t o with
 | none=>rfl
 | some b=>cases b <;> rfl
def n0e (c:Cfg)(den:Nat→List V→Option V)(ops:Array Oper):List Nat→St→Option St
 | [],st=>some st
 | i :: is,st=>match ops[i]? with
  | some o=>(a0k c den ops st o).bind (n0e c den ops is)
  | none=>none
theorem j0v {i:Nat}{x:Oper}(hi:ops[i]? = some x)(L:List Nat)(st:St):n0e c den ops (i :: L) st=(a0k c den ops st x).bind (n0e c den ops L):=by simp only [n0e,hi]
theorem f1b:∀ (m k:Nat) (st:St),k+m=ops.size→n0e c den ops (List.range' k m) st=b0g c den ops (ops.toList.drop k) st:=by
 intro m
 induction m with
 | zero=>
  intro k st h
  rw [List.drop_eq_nil_of_le (by simp; omega)]
  rfl
 | succ m ih=>
  intro k st h
  have hk:k < ops.size:=by omega
  rw [List.range'_succ,List.drop_eq_getElem_cons (by simpa using hk),x0u,j0v (x:=ops[k]) (by simp [hk])]
  simp only [Array.getElem_toList]
  refine congrArg _ (funext λ s=>ih (k+1) s (by omega))
theorem k1j (st:St):n0e c den ops (List.range ops.size) st=b0g c den ops ops.toList st:=by
 rw [List.range_eq_range',f1b ops.size 0 st (by omega),List.drop_zero]
structure RegB (io:Nat→Option Io) (ops:Array Oper):Prop where
  reg:Reg ops []
  no:p0d ops=false
  ordB:∀ (i j:Nat) (x y:Oper),i < j→ops[i]? = some x→ops[j]? = some y→(c0d io x.op=true∨c0d io y.op=true)→(j1i io ops x y=true∧g0m ops false x y=false)∨r0q ops ops.size j i=true
  ordP:∀ (i j:Nat) (x y:Oper),i < j→ops[i]? = some x→ops[j]? = some y→g0m ops (d0q x || d0q y) x y=false∨(i0e ops x y=true∧d0q x=false∧d0q y=false∧g0m ops true x y=false)∨r0q ops ops.size j i=true
  late:∀ (i j:Nat) (x y:Oper),i < j→ops[i]? = some x→ops[j]? = some y→((d0d ops x=true∨c0d io x.op=true)∨(r0e x).isSome=true) → ∀ d,y.dst=some d→d ∉ b0h ops x
  self:∀ (i:Nat) (x:Oper),ops[i]? = some x→((d0d ops x=true∨c0d io x.op=true)∨(r0e x).isSome=true) → ∀ d,x.dst=some d→d ∉ b0h ops x
theorem d1l {f:Bool}{x y:Oper}(h:g0m ops false x y=false):g0m ops f x y=false:=by
 unfold g0m at h ⊢
 simp only [Bool.or_eq_false_iff] at h ⊢
 refine ⟨h.1,?_⟩
 cases f with
 | false=>exact h.2
 | true=>simp
theorem z0f {B:List Nat}{i j:Nat}{x y:Oper}(h:g0m ops (d0q x || d0q y) x y=false):g0m ops (((B.contains i || B.contains j) || (d0q x || d0q y)) || (l0m ops i x y || l0m ops j y x)) x y=false:=by
 cases he:(d0q x || d0q y) with
 | false=>rw [he] at h; exact d1l h
 | true=>
  rw [he] at h
  rw [show (((B.contains i || B.contains j) || true) || (l0m ops i x y || l0m ops j y x))=true by simp]
  exact h
theorem u1w {io:Nat→Option Io}(h:m0e io ops=true):RegB io ops:=by
 unfold m0e at h
 simp only [Bool.and_eq_true,List.all_eq_true,decide_eq_true_eq,List.mem_range] at h
 obtain ⟨⟨⟨h1,h2⟩,h3⟩,h4⟩:=h
 have mem:∀ (i:Nat) (o:Oper) (e:Nat),ops[i]? = some o→o.dst=some e→e∈ops.toList.filterMap (·.dst):=λ i o e hi he=>List.mem_filterMap.2 ⟨o,List.mem_of_getElem? (by simpa using hi),he⟩
 have lt:∀ (j:Nat) (o:Oper),ops[j]? = some o→j < ops.toList.length:=λ j o hj=>by simpa using (Array.getElem?_eq_some_iff.1 hj).1
 have both:∀ (i j:Nat) (x y:Oper),i < j→ops[i]? = some x→ops[j]? = some y→((g0m ops (d0q x || d0q y || i0e ops x y) x y=false∧((c0d io x.op=false∧c0d io y.op=false)∨(j1i io ops x y=true∧g0m ops false x y=false)))∨r0q ops ops.size j i=true)∧(((d0d ops x=true∨c0d io x.op=true)∨(r0e x).isSome=true) → ∀ d,y.dst=some d→d ∉ b0h ops x):=λ i j x y hij hi hj=>by
  have:=h4 j (lt j y hj)
  rw [hj] at this
  simp only [Bool.and_eq_true,List.all_eq_true,decide_eq_true_eq,List.mem_range] at this
  have h5:=this.2 i hij
  rw [hi] at h5
  simp only [Bool.and_eq_true,Bool.or_eq_true,Bool.not_eq_true',Bool.or_eq_false_iff,Bool.and_eq_false_iff,Bool.not_eq_false',Bool.and_eq_true,Bool.not_eq_true'] at h5
  refine ⟨?_,λ hf d hd hm=>?_⟩
  ·rcases h5.1 with h6 | h6
   ·exact .inl h6
   ·exact .inr (by simpa using h6)
  ·rcases h5.2 with h6 | h6
   ·rcases hf with (hf | hf) | hf
    ·rw [h6.1.1] at hf; cases hf
    ·rw [h6.1.2] at hf; cases hf
    ·rw [h6.2] at hf; cases hf
   ·rw [hd] at h6
    simp only at h6
    rw [List.contains_iff_mem.2 hm] at h6
    cases h6
 refine ⟨⟨λ i o e hi he=>h1 e (mem i o e hi he),λ i j o o' e hi hj he he'=>g0h h2 i j o o' e (by simpa using hi) (by simpa using hj) he he',λ i hi=>(by cases hi),λ j o hj e he hbd=>?_⟩,by simpa using h3.1,λ i j x y hij hi hj hio=>?_,λ i j x y hij hi hj=>?_,λ i j x y hij hi hj=>(both i j x y hij hi hj).2,λ i x hi hf d hd hm=>?_⟩
 ·have:=h4 j (lt j o hj)
  rw [hj] at this
  simp only [Bool.and_eq_true,List.all_eq_true,decide_eq_true_eq] at this
  have h9:=this.1 e he
  simp only [Bool.or_eq_true,decide_eq_true_eq,Bool.not_eq_true'] at h9
  exact h9.resolve_right (by rw [hbd]; decide)
 ·rcases (both i j x y hij hi hj).1 with h | h
  ·rcases h.2 with h' | h'
   ·rcases hio with h'' | h''
    ·rw [h'.1] at h''; cases h''
    ·rw [h'.2] at h''; cases h''
   ·exact .inl h'
  ·exact .inr h
 ·rcases (both i j x y hij hi hj).1 with h | h
  ·cases hx:d0q x with
   | true=>
    have:=h.1
    rw [hx] at this
    exact .inl (by simpa using this)
   | false=>
    cases hy:d0q y with
    | true=>
     have:=h.1
     rw [hx,hy] at this
     exact .inl (by simpa using this)
    | false=>
     cases hl:i0e ops x y with
     | false=>
      have:=h.1
      rw [hx,hy,hl] at this
      exact .inl (by simpa using this)
     | true=>
      have:=h.1
      rw [hx,hy,hl] at this
      exact .inr (.inl ⟨rfl,rfl,rfl,by simpa using this⟩)
  ·exact .inr (.inr h)
 ·have h6:=h3.2 x (List.mem_of_getElem? (i:=i) (by simpa using hi))
  rw [hd] at h6
  simp only [Bool.not_eq_true',Bool.and_eq_false_iff,Bool.or_eq_false_iff] at h6
  rcases h6 with h6 | h6
  ·rcases hf with (hf | hf) | hf
   ·rw [h6.1.1] at hf; cases hf
   ·rw [h6.1.2] at hf; cases hf
   ·rw [h6.2] at hf; cases hf
  ·rw [List.contains_iff_mem.2 hm] at h6; cases h6
theorem x0c {io:Nat→Option Io}(hR:RegB io ops)(hreal:b1n st)(hclean:y0t st)(hent:b0t ops [] st=true)(L:List Nat):Inv ops [] L st:=by
 unfold b0t at hent
 rw [Bool.and_eq_true,List.all_eq_true,List.all_eq_true] at hent
 obtain ⟨_,he2⟩:=hent
 refine ⟨hreal,λ i hi o e ho he=>?_,λ i hi=>(by cases hi),λ ha=>?_,λ ha=>?_⟩
 ·have hlt:=hR.reg.lt i o e ho he
  obtain ⟨hc1,hc2⟩:=hclean e hlt
  have hmem:o∈ops.toList:=List.mem_of_getElem? (i:=i) (by simpa using ho)
  have hb:=he2 o hmem
  simp only [he,Bool.or_eq_true,Bool.not_eq_true',Bool.and_eq_true] at hb
  intro v hv
  refine ⟨?_,?_⟩
  ·rcases hv with hv | hv
   ·exact a0u hc1 v hv
   ·exact i0o hc2 v hv
  ·cases hbx:l0z o.op with
   | false=>simp only [Bool.false_and]; exact a0z v
   | true=>
    rw [hbx] at hb
    simp only [Bool.true_eq_false,false_or] at hb
    simp only [Bool.true_and]
    rcases hv with hv | hv
    ·exact c0o hb.1 v hv
    ·exact l0k hb.2 v hv
 ·rw [hR.no] at ha; cases ha
 ·rw [hR.no] at ha; cases ha
theorem p1o (hA:b0l P c)(hD:a0r P den)(hIo:b0w P c den){i:Nat}(hi:ops[i]? = some o)(hs:Sim Γ st a w)(h:a0k c den ops st o=some st'){Q:Exit→Act→World→Prop}{K:Act→World→Prop}(hK:∀ a' w',Sims Γ st' a' w' → K a' w'):wpOp P ops Q i K a w:=by
 unfold wpOp
 simp only [hi]
 unfold a0k at h
 cases hw:wanted ops st.t o with
 | none=>rw [hw] at h; cases h
 | some b=>
  rw [hw] at h
  rw [m0p hs hw]
  cases b with
  | true=>
   simp only [if_true] at h ⊢
   refine .inl ?_
   unfold stepB at h
   cases hio:i0h c o.op with
   | none=>rw [hio] at h; exact j0x hA hD hs h K Q hK
   | some z=>
    obtain ⟨f,s,az⟩:=z
    rw [hio] at h
    simp only at h
    cases hq:c0c c den (st.head ([],[])) o.dst f s az with
    | none=>rw [hq] at h; cases h
    | some s1=>
     rw [hq] at h
     simp only at h
     cases he:b0t ops [] (s1.head ([],[])) with
     | false=>rw [he] at h; cases h
     | true=>
      rw [he] at h
      simp only [sj_] at h
      subst h
      obtain ⟨Γ1,hsame,hs1⟩:=hs.head ([],[])
      refine v0j hIo hs1 (λ b=>by rw [h0d]) (j0r _ _) hio hq K Q (λ a' w' ⟨Γ2,hsame2,hs2⟩=>?_)
      obtain ⟨Γ3,hsame3,hs3⟩:=hs2.head ([],[])
      exact hK _ _ (Sims.of hsame (Sims.of hsame2 ⟨Γ3,hsame3,hs3⟩))
  | false=>
   simp only [Bool.false_eq_true,if_false] at h ⊢
   cases hd:o.dst with
   | none=>rw [hd] at h; simp only [sj_] at h; subst h; exact hK _ _ ⟨Γ,Same.rfl',hs⟩
   | some d=>rw [hd] at h; simp only [sj_] at h; subst h; exact hK _ _ ⟨Γ,Same.rfl',q0u hs d⟩
theorem b1b {f:Nat}{sI:Io}{az:List Operand}{s:St}(hio:i0h c o.op=some (f,sI,az))(h:stepB c den ops st o=some s):b0t ops [] s=true∧y0t s:=by
 unfold stepB at h
 rw [hio] at h
 simp only at h
 cases hq:c0c c den (st.head ([],[])) o.dst f sI az with
 | none=>rw [hq] at h; cases h
 | some s1=>
  rw [hq] at h
  simp only at h
  cases he:b0t ops [] (s1.head ([],[])) with
  | false=>rw [he] at h; cases h
  | true=>
   rw [he] at h
   simp only [sj_] at h
   subst h
   exact ⟨he,m0v _ _⟩
theorem e1z (hA:b0l P c)(hD:a0r P den)(hIo:b0w P c den)(hs:b1n st)(h:a0k c den ops st o=some st'):b1n st':=by
 obtain ⟨Γ,a,w,hs⟩:=hs
 unfold a0k at h
 cases hw:wanted ops st.t o with
 | none=>rw [hw] at h; cases h
 | some b=>
  rw [hw] at h
  cases b with
  | false=>
   simp only at h
   cases hd:o.dst with
   | none=>rw [hd] at h; simp only [sj_] at h; subst h; exact ⟨Γ,a,w,hs⟩
   | some d=>rw [hd] at h; simp only [sj_] at h; subst h; exact ⟨Γ,_,w,q0u hs d⟩
  | true=>
   simp only at h
   unfold stepB at h
   cases hio:i0h c o.op with
   | none=>rw [hio] at h; exact x0q hA hD ⟨Γ,a,w,hs⟩ h
   | some z=>
    obtain ⟨f,s,az⟩:=z
    rw [hio] at h
    simp only at h
    cases hq:c0c c den (st.head ([],[])) o.dst f s az with
    | none=>rw [hq] at h; cases h
    | some s1=>
     rw [hq] at h
     simp only at h
     cases he:b0t ops [] (s1.head ([],[])) with
     | false=>rw [he] at h; cases h
     | true=>
      rw [he] at h
      simp only [sj_] at h
      subst h
      obtain ⟨Γ1,hsame,hs1⟩:=hs.head ([],[])
      obtain ⟨a',w',Γ',_,h'⟩:=l1h (v0j hIo hs1 (λ b=>by rw [h0d]) (j0r _ _) hio hq (λ a' w'=>Sims Γ1 (s1.head ([],[])) a' w') (λ _ _ _=>False) (λ a' w' ⟨Γ2,hsame2,hs2⟩=>Sims.of hsame2 (hs2.head ([],[]))))
      exact ⟨Γ',a',w',h'⟩
theorem Inv.stepB (hA:b0l P c)(hD:a0r P den)(hIo:b0w P c den)(hB:RegB c.io ops){L L':List Nat}{j:Nat}{y:Oper}(hj:ops[j]? = some y)(hI:Inv ops [] L st)(h:a0k c den ops st y=some st')(hL:∀ i,i∈L' → i∈L∧i ≠ j)(hL2:∀ i,i∈L→i ≠ j→i∈L')(hr:Rdy ops L j):Inv ops [] L' st':=by
 by_cases hpl:a0m c den ops st y=some st'
 ·exact hI.step hA hD hB.reg hj hpl hL hL2 hr
 ·have hent:b0t ops [] st' = true∧y0t st':=by
   have h1:=h
   unfold a0k at h1
   unfold a0m at hpl
   cases hw:wanted ops st.t y with
   | none=>rw [hw] at h1; cases h1
   | some b=>
    rw [hw] at h1 hpl
    cases b with
    | false=>exact absurd h1 hpl
    | true=>
     simp only at h1 hpl
     cases hio:i0h c y.op with
     | none=>unfold Go.Am.stepB at h1; rw [hio] at h1; exact absurd h1 hpl
     | some z=>obtain ⟨f,sI,az⟩:=z; exact b1b hio h1
  exact x0c hB (e1z hA hD hIo hI.real h) hent.2 hent.1 _
theorem z0x (b:Nat):Nice (a0h b):=⟨d0k b,λ _=>rfl,λ _ _=>rfl,λ _=>rfl,λ _ _=>rfl,rfl⟩
theorem e1i (b:Nat)(q:Q)(ys:List V):Nice (c0v b q ys):=⟨λ v u h=>by
 unfold c0v at h
 split at h <;> first
  | (cases h; done)
  | (split at h <;> first | (cases h; done) | (simp only [sj_] at h; subst h; rfl)),λ _=>rfl,λ _ _=>rfl,λ _=>rfl,λ _ _=>rfl,rfl⟩
theorem n1t {dst:Option Nat}{op:Op}(h:b0b c st dst op=some st'):∃ fs,NiceL fs ∧ ∀ z,dst ≠ some z→st'.t.getD z .undef=c0u fs (st.t.getD z .undef):=by
 cases op with
 | store t ad x=>
  simp only [b0b] at h
  repeat' split at h
  all_goals first | (cases h; done) | skip
  ·simp only [sj_] at h
   subst h
   exact ⟨[],NiceL.nil,λ z _=>rfl⟩
  ·simp only [sj_] at h
   subst h
   exact ⟨[_],NiceL.cons (e1i _ _ _) NiceL.nil,λ z _=>b0i rfl _ _⟩
 | call cl=>
  obtain ⟨callee,args,ts⟩:=cl
  cases callee with
  | builtin bi=>
   cases bi with
   | append=>
    simp only [b0b] at h
    repeat' split at h
    all_goals first | (cases h; done) | skip
    simp only [sj_] at h
    subst h
    exact ⟨[_],NiceL.cons (z0x _) NiceL.nil,λ z hz=>(b0o (λ e=>hz (by rw [e]))).trans (b0i rfl _ _)⟩
   | _=>simp only [b0b] at h; cases h
  | _=>simp only [b0b] at h; cases h
 | _=>simp only [b0b] at h; cases h
theorem b1c {f:Nat}{sI:Io}{az:List Operand}{s:St}(hio:i0h c o.op=some (f,sI,az))(h:stepB c den ops st o=some s):∃ fs,NiceL fs ∧ ∀ z,o.dst ≠ some z→s.t.getD z .undef=c0u fs (st.t.getD z .undef):=by
 unfold stepB at h
 rw [hio] at h
 simp only at h
 cases hq:c0c c den (st.head ([],[])) o.dst f sI az with
 | none=>rw [hq] at h; cases h
 | some s1=>
  rw [hq] at h
  simp only at h
  cases he:b0t ops [] (s1.head ([],[])) with
  | false=>rw [he] at h; cases h
  | true=>
   rw [he] at h
   simp only [sj_] at h
   subst h
   unfold c0c at hq
   cases hod:o.dst with
   | none=>rw [hod] at hq; cases hq
   | some d=>
    rw [hod] at hq
    simp only at hq
    cases hp:m0w c (st.head ([],[])) f sI (az.map (ev (st.head ([],[])).t)) with
    | none=>rw [hp] at hq; cases hq
    | some p=>
     rw [hp] at hq
     simp only at hq
     cases hd:den f (h0e :: p.args) with
     | none=>rw [hd] at hq; cases hq
     | some r=>
      rw [hd] at hq
      simp only at hq
      obtain ⟨k1,_⟩:=k0x hq
      refine ⟨e0i st++([a0p p.L]++e0i s1),(b0u st).app ((NiceL.cons (f0i _) NiceL.nil).app (b0u s1)),λ z hz=>?_⟩
      rw [b0q,k1 z (λ e=>hz (by rw [e])),b0q,d0s,d0s]
theorem y0d (h:a0k c den ops st o=some st'):∃ fs,NiceL fs ∧ ∀ z,o.dst ≠ some z→st'.t.getD z .undef=c0u fs (st.t.getD z .undef):=by
 by_cases hpl:a0m c den ops st o=some st'
 ·by_cases hs:g0y ops st o
  ·cases hd:o.dst with
   | none=>obtain ⟨_,rfl⟩:=d0l hpl hs hd; exact ⟨[],NiceL.nil,λ _ _=>rfl⟩
   | some dd=>
    obtain ⟨v,bx,esc,rfl,_,_,_⟩:=j1o hpl hs hd
    exact ⟨[],NiceL.nil,λ z hz=>b0o (λ e=>hz (by rw [e]))⟩
  ·have h1:c0g st o.op=true:=by
    cases hi:c0g st o.op with
    | true=>rfl
    | false=>exact absurd (.inl hi) hs
   unfold a0m at hpl
   cases hw:wanted ops st.t o with
   | none=>rw [hw] at hpl; cases hpl
   | some b=>
    rw [hw] at hpl
    cases b with
    | false=>exact absurd (.inr hw) hs
    | true=>
     simp only at hpl
     unfold step at hpl
     rw [if_pos h1] at hpl
     exact n1t hpl
 ·unfold a0k at h
  unfold a0m at hpl
  cases hw:wanted ops st.t o with
  | none=>rw [hw] at h; cases h
  | some b=>
   rw [hw] at h hpl
   cases b with
   | false=>exact absurd h hpl
   | true=>
    simp only at h hpl
    cases hio:i0h c o.op with
    | none=>unfold stepB at h; rw [hio] at h; exact absurd h hpl
    | some z=>obtain ⟨f,sI,az⟩:=z; exact b1c hio h
theorem c0j {x X:Nat}(h:h0s st x=some X):∃ n,st.t.getD x .undef = .ptr X n:=by
 unfold h0s at h
 split at h
 ·rename_i Y n hp
  injection h with h
  subst h
  exact ⟨n,hp⟩
 ·cases h
theorem o0x {x X n:Nat}(h:st.t.getD x .undef = .ptr X n):h0s st x=some X:=by unfold h0s; rw [h]
theorem b1g {x:Nat}(h:unw ops x=true){i:Nat}{o:Oper}(hi:ops[i]? = some o):o.dst ≠ some x:=by
 unfold unw at h
 rw [List.all_eq_true] at h
 have:=h o (List.mem_of_getElem? (i:=i) (by simpa using hi))
 simpa using this
structure Loo (ops:Array Oper) (st0:St) (L:List Nat) (st:St):Prop where
  und:∀ i,i∈L → ∀ (o:Oper) (e:Nat),ops[i]? = some o→d0d ops o=true→o.dst=some e→st.t.getD e .undef = .undef
  keep:∀ x,unw ops x=true→g0d (st0.t.getD x .undef)=true→st.t.getD x .undef=st0.t.getD x .undef
  root:∀ (i:Nat) (o:Oper) (e r X:Nat),i ∉ L→ops[i]? = some o→o.dst=some e→m0f ops e=some r→h0s st0 r=some X→e < st.t.length→h0s st e=some X
theorem Loo.addr {st0:St}{L:List Nat}(hL:Loo ops st0 L st){x r X:Nat}(h:m0f ops x=some r)(h0:h0s st0 r=some X)(hx:∀ (w:Nat) (ow:Oper),ops[w]? = some ow→ow.dst=some x→w ∉ L)(hlt:x < st.t.length):h0s st x=some X:=by
 have h':=h
 unfold m0f at h'
 split at h'
 ·rename_i hu
  injection h' with h'
  subst h'
  obtain ⟨n,hn⟩:=c0j h0
  exact o0x (n:=n) (by rw [hL.keep x hu (by rw [hn]; rfl),hn])
 ·split at h'
  ·rename_i ow hf
   have hd:ow.dst=some x:=by simpa using List.find?_some hf
   obtain ⟨w,hw⟩:=List.getElem?_of_mem (List.mem_of_find?_eq_some hf)
   have hw':ops[w]? = some ow:=by simpa using hw
   exact hL.root w ow x r X (hx w ow hw' hd) hw' hd h h0 hlt
  ·cases h'
theorem e0z (h:a0k c den ops st o=some st'):st'.t.length=st.t.length:=by
 have hset:∀ (s:St) (d:Nat) (v:V),(s.t.set d v).length=s.t.length:=λ s d v=>List.length_set
 have hhead:∀ s:St,(s.head ([],[])).t.length=s.t.length:=λ s=>by
  rw [l0u]
  show (V.mapBs _ (V.mapBs _ s.calm.t)).length=_
  rw [a0f,a0f]
  rcases m0s s with ⟨h1,_⟩ | ⟨h1,_⟩
  ·rw [h1,a0f]
  ·rw [h1]
 have heff:∀ (dst:Option Nat) (op:Op) (s s':St),b0b c s dst op=some s' → s'.t.length=s.t.length:=λ dst op s s' h=>by
  cases op with
  | store t ad x=>
   simp only [b0b] at h
   repeat' split at h
   all_goals first | (cases h; done) | skip
   ·simp only [sj_] at h; subst h; rfl
   ·simp only [sj_] at h; subst h; exact a0f _ _
  | call cl=>
   obtain ⟨callee,args,ts⟩:=cl
   cases callee with
   | builtin bi=>
    cases bi with
    | append=>
     simp only [b0b] at h
     repeat' split at h
     all_goals first | (cases h; done) | skip
     simp only [sj_] at h
     subst h
     show (List.set _ _ _).length=_
     rw [List.length_set]
     exact a0f _ _
    | _=>simp only [b0b] at h; cases h
   | _=>simp only [b0b] at h; cases h
  | _=>simp only [b0b] at h; cases h
 unfold a0k at h
 cases hw:wanted ops st.t o with
 | none=>rw [hw] at h; cases h
 | some b=>
  rw [hw] at h
  cases b with
  | false=>
   simp only at h
   cases hd:o.dst with
   | none=>rw [hd] at h; simp only [sj_] at h; subst h; rfl
   | some d=>rw [hd] at h; simp only [sj_] at h; subst h; exact hset st d _
  | true=>
   simp only at h
   cases hio:i0h c o.op with
   | none=>
    unfold stepB at h
    rw [hio] at h
    simp only at h
    unfold step at h
    split at h
    ·exact heff _ _ _ _ h
    ·cases hd:o.dst with
     | none=>rw [hd] at h; cases h
     | some d=>
      rw [hd] at h
      simp only at h
      repeat' split at h
      all_goals first
       | (cases h; done)
       | (simp only [sj_] at h; subst h; exact hset st d _)
   | some z=>
    obtain ⟨f,sI,az⟩:=z
    unfold stepB at h
    rw [hio] at h
    simp only at h
    cases hq:c0c c den (st.head ([],[])) o.dst f sI az with
    | none=>rw [hq] at h; cases h
    | some s1=>
     rw [hq] at h
     simp only at h
     cases he:b0t ops [] (s1.head ([],[])) with
     | false=>rw [he] at h; cases h
     | true=>
      rw [he] at h
      simp only [sj_] at h
      subst h
      rw [hhead,← hhead st]
      unfold c0c at hq
      cases hod:o.dst with
      | none=>rw [hod] at hq; cases hq
      | some d=>
       rw [hod] at hq
       simp only at hq
       repeat' split at hq
       all_goals first | (cases hq; done) | skip
       unfold k0h at hq
       split at hq
       ·simp only at hq
        repeat' split at hq
        all_goals first
         | (cases hq; done)
         | (simp only [sj_] at hq; subst hq; show (List.set _ _ _).length=_; rw [List.length_set]; exact a0f _ _)
       ·cases hq
theorem Loo.stepB {st0:St}(hR:Reg ops []){L L':List Nat}{j:Nat}{y:Oper}(hj:ops[j]? = some y)(hLo:Loo ops st0 L st)(h:a0k c den ops st y=some st')(hL:∀ i,i∈L' → i∈L∧i ≠ j)(hL2:∀ i,i∈L→i ≠ j→i∈L'):Loo ops st0 L' st':=by
 obtain ⟨fs,hn,hsl⟩:=y0d h
 refine ⟨λ i hi o e ho hf he=>?_,λ x hx hin=>?_,λ i o e r X hi ho he hr h0 hlt=>?_⟩
 ·obtain ⟨h1,h2⟩:=hL i hi
  rw [hsl e (λ hd=>h2 (hR.inj i j o y e ho hj he hd)),hLo.und i h1 o e ho hf he,j0b hn]
 ·have hk:=hLo.keep x hx hin
  rw [hsl x (b1g hx hj),hk,c0x hn hin]
 ·by_cases hij:i=j
  ·subst hij
   rw [hj] at ho
   injection ho with ho
   subst ho
   have hr':=hr
   unfold m0f at hr'
   split at hr'
   ·rename_i hu
    exact absurd he (b1g hu hj)
   ·split at hr'
    ·rename_i ow hf
     have hd:ow.dst=some e:=by simpa using List.find?_some hf
     obtain ⟨w,hw⟩:=List.getElem?_of_mem (List.mem_of_find?_eq_some hf)
     have hw':ops[w]? = some ow:=by simpa using hw
     have hwi:=hR.inj w i ow y e hw' hj hd he
     subst hwi
     rw [hj] at hw'
     injection hw' with hw'
     subst hw'
     have hwant:y.guard=none→wanted ops st.t y=some true:=λ hg=>by unfold wanted; rw [hg]
     split at hr'
     ·rename_i r' hg hop
      split at hr'
      ·rename_i hu
       injection hr' with hr'
       subst hr'
       obtain ⟨n,hp⟩:=c0j h0
       have hv:st.t.getD r' .undef = .ptr X n:=by rw [hLo.keep r' hu (by rw [hp]; rfl),hp]
       have hlt':e < st.t.length:=by rw [← e0z h]; exact hlt
       unfold a0k at h
       rw [hwant hg] at h
       simp only at h
       unfold Go.Am.stepB at h
       rw [show i0h c y.op=none by unfold i0h; rw [hop]] at h
       simp only at h
       unfold step at h
       rw [hop] at h
       simp only [c0g,Bool.false_eq_true,if_false,he,a0d,plain,ev,hv,sj_] at h
       subst h
       refine o0x (n:=n) ?_
       show (st.t.set e (.ptr X n)).getD e .undef=_
       rw [List.getD_eq_getElem?_getD,List.getElem?_set_self hlt']
       rfl
      ·cases hr'
     ·rename_i t r' fx hg hop
      split at hr'
      ·rename_i hu
       injection hr' with hr'
       subst hr'
       obtain ⟨n,hp⟩:=c0j h0
       have hv:st.t.getD r' .undef = .ptr X n:=by rw [hLo.keep r' hu (by rw [hp]; rfl),hp]
       have hlt':e < st.t.length:=by rw [← e0z h]; exact hlt
       unfold a0k at h
       rw [hwant hg] at h
       simp only at h
       unfold Go.Am.stepB at h
       rw [show i0h c y.op=none by unfold i0h; rw [hop]] at h
       simp only at h
       unfold step at h
       rw [hop] at h
       simp only [c0g,Bool.false_eq_true,if_false,he] at h
       cases hvo:a0d c den (ev st.t) (λ b=>st.h.getD b none) e (.fieldAddr t (.tmp r') fx) with
       | none=>rw [hvo] at h; cases h
       | some out=>
        rw [hvo] at h
        simp only [a0d,plain,ev,hv] at hvo
        repeat' split at hvo
        all_goals first | (cases hvo; done) | skip
        rename_i hadd
        simp only [f0f,sj_] at hadd
        subst hadd
        injection hvo with hvo
        subst hvo
        simp only [sj_] at h
        subst h
        have hgs:∀ u:V,(st.t.set e u).getD e .undef=u:=λ u=>by rw [List.getD_eq_getElem?_getD,List.getElem?_set_self hlt']; rfl
        exact o0x (hgs _)
      ·cases hr'
     ·cases hr'
    ·cases hr'
  ·obtain ⟨n,hp⟩:=c0j (hLo.root i o e r X (λ hi'=>hi (hL2 i hi' hij)) ho he hr h0 (by rw [← e0z h]; exact hlt))
   exact o0x (n:=n) (by rw [hsl e (λ hd=>hij (hR.inj i j o y e ho hj he hd)),hp,c0x hn rfl])
end
end Go.Am
namespace Go.Am
open Go Go.RowKit
section
variable {P:Program}{c:Cfg}{Γ Γ':Ctx}{st st2 st' A S:St}{a:Act}{w w':World}{den:Nat→List V→Option V}{η η':Nat→Option V}{d e x:Nat}{p q r:Nat→Bool}{ops:Array Oper}{o k b:Oper}{B:List Nat}{v pv:V}
def rdK (c:Cfg)(op:Op)(pv:V)(η:Nat→Option V):Option V:=
 match op with
 | .move _=>some pv
 | .fieldAddr t _ f=>match c.ty t with
  | some ⟨.struct fs,_,_,_,_,_,_⟩=>match fs[f]? with
   | some (o,ft)=>match c.ty ft with
    | some j=>if j.size=0 then none else f0f pv o
    | none=>none
   | none=>none
  | _=>none
 | .load t _=>match c.ty t with
  | some i=>i0f η i pv
  | none=>none
 | _=>none
inductive FreeK (ops:Array Oper) (k:Oper) (x:Nat):Prop
  | move (h:k.op = .move (.tmp x)) (hu:unw ops x=true)
  | addr (t:TypeId) (f:Nat) (h:k.op = .fieldAddr t (.tmp x) f) (hu:unw ops x=true)
  | load (t:TypeId) (r:Nat) (h:k.op = .load t (.tmp x)) (hr:m0f ops x=some r)
theorem j0p (h:d0d ops k=true):k.guard=none ∧ ∃ e x,k.dst=some e∧FreeK ops k x:=by
 unfold d0d at h
 split at h
 ·rename_i x e hg hop hd; exact ⟨hg,e,x,hd,.move hop h⟩
 ·rename_i t x f e hg hop hd; exact ⟨hg,e,x,hd,.addr t f hop h⟩
 ·rename_i t x e hg hop hd
  obtain ⟨r,hr⟩:=Option.isSome_iff_exists.1 h
  exact ⟨hg,e,x,hd,.load t r hop hr⟩
 ·cases h
theorem b0p (hg:k.guard=none)(hd:k.dst=some e)(hk:FreeK ops k x):a0k c den ops st k=(rdK c k.op (st.t.getD x .undef) (λ b=>st.h.getD b none)).map (λ v=>st.slot e v):=by
 unfold a0k
 rw [show wanted ops st.t k=some true by unfold wanted; rw [hg]]
 simp only
 unfold stepB
 have hno:i0h c k.op=none:=by
  unfold i0h
  cases hk with
  | move h=>rw [h]
  | addr t f h=>rw [h]
  | load t r h=>rw [h]
 rw [hno]
 simp only
 unfold step
 cases hk with
 | move h hu=>rw [h]; simp only [c0g,Bool.false_eq_true,if_false,hd,a0d,plain,rdK,Option.map_some]; rfl
 | addr t f h hu=>
  rw [h]
  simp only [c0g,Bool.false_eq_true,if_false,hd]
  have hvo:a0d c den (ev st.t) (λ b=>st.h.getD b none) e (.fieldAddr t (.tmp x) f)=(rdK c (.fieldAddr t (.tmp x) f) (st.t.getD x .undef) (λ b=>st.h.getD b none)).map Out.val:=by
   simp only [a0d,rdK,ev,plain]
   cases c.ty t with
   | none=>rfl
   | some i=>
    obtain ⟨dd,_,_,_,_,_,_⟩:=i
    cases dd with
    | struct fs=>
     simp only
     cases fs[f]? with
     | none=>rfl
     | some z=>
      obtain ⟨o,ft⟩:=z
      simp only
      cases c.ty ft with
      | none=>rfl
      | some j=>
       simp only
       by_cases hz:j.size=0
       ·rw [if_pos hz,if_pos hz]; rfl
       ·rw [if_neg hz,if_neg hz]
        cases f0f (st.t.getD x .undef) o <;> rfl
    | _=>rfl
  rw [hvo]
  cases rdK c (.fieldAddr t (.tmp x) f) (st.t.getD x .undef) (λ b=>st.h.getD b none) <;> rfl
 | load t r h hr=>
  rw [h]
  simp only [c0g,Bool.false_eq_true,if_false,hd]
  have hvo:a0d c den (ev st.t) (λ b=>st.h.getD b none) e (.load t (.tmp x))=(rdK c (.load t (.tmp x)) (st.t.getD x .undef) (λ b=>st.h.getD b none)).map Out.val:=by
   simp only [a0d,rdK,ev,plain]
   repeat' split
   all_goals first
    | rfl
    | simp_all
  rw [hvo]
  cases rdK c (.load t (.tmp x)) (st.t.getD x .undef) (λ b=>st.h.getD b none) <;> rfl
def w0h (c:Cfg)(op:Op)(pv:V)(js:List Nat)(d:Nat):Prop:=
 match op with
 | .move _=>g0d pv=true
 | .fieldAddr _ _ _=>∃ X n,pv = .ptr X n
 | .load _ _=>∃ X n,pv = .ptr X n∧X ∉ js∧X ≠ d
 | _=>False
theorem v0h {fs:List (V→Option V)}(hn:NiceL fs){js:List Nat}{op:Op}(hv:w0h c op pv js d){h h':Nat→Option V}(hh:∀ X,X ∉ js→X ≠ d→h' X=(h X).map (c0u fs)):rdK c op pv h' = (rdK c op pv h).map (c0u fs):=by
 unfold w0h at hv
 split at hv
 ·simp only [rdK,Option.map_some,c0x hn hv]
 ·obtain ⟨X,n,rfl⟩:=hv
  simp only [rdK]
  repeat' split
  all_goals first
   | rfl
   | (simp only [f0f,Option.map_some]; rw [c0x hn rfl])
 ·obtain ⟨X,n,rfl,h1,h2⟩:=hv
  simp only [rdK]
  split
  ·rename_i i hi
   simp only [i0f,c0i]
   rw [hh X h1 h2]
   cases h X with
   | none=>rfl
   | some r=>simp only [Option.map_some]; exact q0l hn _ _ _ _
  ·rfl
 ·exact hv.elim
theorem k1q {js:List Nat}(hk:FreeK ops k x)(hv:w0h c k.op (A.t.getD x .undef) js d)(hd:k.dst=some e)(hxd:unw ops x=true→x ≠ e∧x ≠ d)(hr:rdK c k.op (A.t.getD x .undef) (λ b=>A.h.getD b none)=some v):Src A e d js v:=by
 cases hk with
 | move h hu=>
  rw [h] at hv hr
  simp only [rdK,sj_] at hr
  subst hr
  exact .inert x hv (hxd hu).1 (hxd hu).2 hv (λ _ h=>h)
 | addr t f h hu=>
  rw [h] at hv hr
  obtain ⟨X,n,hp⟩:=hv
  rw [hp] at hr
  simp only [rdK] at hr
  repeat' split at hr
  all_goals first | (cases hr; done) | skip
  simp only [f0f,sj_] at hr
  subst hr
  exact .inert x rfl (hxd hu).1 (hxd hu).2 (by rw [hp]; rfl) (λ q hq=>by rw [hp]; exact hq)
 | load t r h hroot=>
  rw [h] at hv hr
  obtain ⟨X,n,hp,h1,h2⟩:=hv
  rw [hp] at hr
  simp only [rdK] at hr
  split at hr
  ·simp only [i0f,c0i] at hr
   cases hX:A.h.getD X none with
   | none=>rw [hX] at hr; cases hr
   | some rr=>
    rw [hX] at hr
    simp only [Option.map_some] at hr
    exact .load X rr _ _ n hX hr h1 h2
  ·cases hr
theorem c1x {f:Nat}{sI:Io}{az:List Operand}(hio:i0h c b.op=some (f,sI,az))(h:stepB c den ops st b=some S):∃ js,o1d sI az (st.head ([],[])).t=some js:=by
 unfold stepB at h
 rw [hio] at h
 simp only at h
 cases hq:c0c c den (st.head ([],[])) b.dst f sI az with
 | none=>rw [hq] at h; cases h
 | some s1=>
  unfold c0c at hq
  cases hod:b.dst with
  | none=>rw [hod] at hq; cases hq
  | some d=>
   rw [hod] at hq
   simp only at hq
   cases hp:m0w c (st.head ([],[])) f sI (az.map (ev (st.head ([],[])).t)) with
   | none=>rw [hp] at hq; cases hq
   | some p=>exact ⟨p.js,u0t hp⟩
theorem k1u {f:Nat}{sI:Io}{az:List Operand}(hio:i0h c b.op=some (f,sI,az))(h:stepB c den ops st b=some S):∃ d,b.dst=some d:=by
 unfold stepB at h
 rw [hio] at h
 simp only at h
 cases hod:b.dst with
 | some d=>exact ⟨d,rfl⟩
 | none=>rw [hod] at h; simp only [c0c] at h; cases h
theorem b1a {f:Nat}{sI:Io}{az:List Operand}{js:List Nat}(hio:i0h c b.op=some (f,sI,az))(hd:b.dst=some d)(hj:o1d sI az (st.head ([],[])).t=some js)(h:stepB c den ops st b=some S):∃ fs,NiceL fs∧(∀ z,z ≠ d→S.t.getD z .undef=c0u fs (st.t.getD z .undef)) ∧ ∀ X,X ∉ js→X ≠ d→S.h.getD X none=(st.h.getD X none).map (c0u fs):=by
 unfold stepB at h
 rw [hio,hd] at h
 simp only at h
 cases hq:c0c c den (st.head ([],[])) (some d) f sI az with
 | none=>rw [hq] at h; cases h
 | some s1=>
  rw [hq] at h
  simp only at h
  cases he:b0t ops [] (s1.head ([],[])) with
  | false=>rw [he] at h; cases h
  | true=>
   rw [he] at h
   simp only [sj_] at h
   subst h
   unfold c0c at hq
   simp only at hq
   cases hp:m0w c (st.head ([],[])) f sI (az.map (ev (st.head ([],[])).t)) with
   | none=>rw [hp] at hq; cases hq
   | some p=>
    rw [hp] at hq
    simp only at hq
    have hjs:=u0t hp
    rw [show g1a (c0b Mode.isPt sI.md (az.map (ev (st.head ([],[])).t)))=some js from hj] at hjs
    injection hjs with hjs
    subst hjs
    cases hdn:den f (h0e :: p.args) with
    | none=>rw [hdn] at hq; cases hq
    | some r=>
     rw [hdn] at hq
     simp only at hq
     obtain ⟨k1,k2⟩:=k0x hq
     refine ⟨e0i st++([a0p p.L]++e0i s1),(b0u st).app ((NiceL.cons (f0i _) NiceL.nil).app (b0u s1)),λ z hz=>?_,λ X hX hXd=>?_⟩
     ·rw [b0q,k1 z hz,b0q,d0s,d0s]
     ·rw [e0r,k2 X hX hXd,e0r]
      cases st.h.getD X none with
      | none=>rfl
      | some r=>simp only [Option.map_some,d0s]
theorem j1b {sI:Io}{az:List Operand}(hr:∀ t,Operand.tmp t∈az→t ≠ e):o1d sI az (st.slot e v).t=o1d sI az st.t:=by
 unfold o1d
 rw [List.map_congr_left (g:=ev st.t) (λ x hx=>b1y (λ t ht=>hr t (ht ▸ hx)))]
theorem d1u {op:Op}{js:List Nat}(hv:w0h c op pv js d):g0d pv=true:=by
 unfold w0h at hv
 split at hv
 ·exact hv
 ·obtain ⟨X,n,rfl⟩:=hv; rfl
 ·obtain ⟨X,n,rfl,_⟩:=hv; rfl
 ·exact hv.elim
theorem e1e {f:Nat}{sI:Io}{az:List Operand}(hkg:k.guard=none)(hkd:k.dst=some e)(hk:FreeK ops k x)(hio:i0h c b.op=some (f,sI,az))(hbg:b.guard=none)(hbd:b.dst=some d)(hed:e ≠ d)(hxd:x ≠ d)(hxe:unw ops x=true→x ≠ e)
  (har:∀ t,Operand.tmp t∈az→t ≠ e) (he:A.t.getD e .undef = .undef) (hP:w0h c k.op (A.t.getD x .undef) [] d) (hJ:∀ js,o1d sI az (A.head ([],[])).t=some js→w0h c k.op (A.t.getD x .undef) js d) :
  (∀ s1 s2,a0k c den ops A k=some s1→a0k c den ops s1 b=some s2 → ∃ s,a0k c den ops A b=some s∧a0k c den ops s k=some s2) ∧
  (∀ s1 s2,a0k c den ops A b=some s1→a0k c den ops s1 k=some s2 → ∃ s,a0k c den ops A k=some s∧a0k c den ops s b=some s2):=by
 have hb:∀ s:St,a0k c den ops s b=stepB c den ops s b:=λ s=>by
  unfold a0k
  rw [show wanted ops s.t b=some true by unfold wanted; rw [hbg]]
 have hin:=d1u hP
 have hxd':unw ops x=true→x ≠ e∧x ≠ d:=λ hu=>⟨hxe hu,hxd⟩
 refine ⟨λ s1 s2 h1 h2=>?_,λ s1 s2 h1 h2=>?_⟩
 ·rw [b0p hkg hkd hk] at h1
  cases hr:rdK c k.op (A.t.getD x .undef) (λ b=>A.h.getD b none) with
  | none=>rw [hr] at h1; cases h1
  | some v=>
   rw [hr] at h1
   simp only [Option.map_some,sj_] at h1
   subst h1
   rw [hb] at h2
   obtain ⟨js,hj⟩:=c1x hio h2
   have hcov:=(k1q hk hP hkd hxd' hr).cov
   rw [p0x A he hcov,j1b har] at hj
   have hsrc:=k1q hk (hJ js hj) hkd hxd' hr
   rcases t0r (den:=den) (ops:=ops) hio hbd he hed har hj hsrc with ⟨_,h⟩ | ⟨S,fs,hn,k1,k2,k3,k4⟩
   ·rw [h] at h2; cases h2
   ·rw [k2] at h2
    injection h2 with h2
    subst h2
    refine ⟨S,by rw [hb]; exact k1,?_⟩
    rw [b0p hkg hkd hk,k3 x hxd,c0x hn hin,v0h hn (hJ js hj) k4,hr]
    rfl
 ·rw [hb] at h1
  obtain ⟨js,hj⟩:=c1x hio h1
  obtain ⟨fs,hn,k3,k4⟩:=b1a hio hbd hj h1
  rw [b0p hkg hkd hk,k3 x hxd,c0x hn hin,v0h hn (hJ js hj) k4] at h2
  cases hr:rdK c k.op (A.t.getD x .undef) (λ b=>A.h.getD b none) with
  | none=>rw [hr] at h2; cases h2
  | some v=>
   refine ⟨A.slot e v,by rw [b0p hkg hkd hk,hr]; rfl,?_⟩
   have hsrc:=k1q hk (hJ js hj) hkd hxd' hr
   rcases t0r (den:=den) (ops:=ops) hio hbd he hed har hj hsrc with ⟨h,_⟩ | ⟨S,fs',hn',m1,m2,m3,m4⟩
   ·rw [h] at h1; cases h1
   ·rw [m1] at h1
    injection h1 with h1
    subst h1
    rw [hb,m2]
    have:=v0h hn' (hJ js hj) m4
    rw [v0h hn (hJ js hj) k4,hr] at this
    simp only [Option.map_some,sj_] at this
    rw [hr] at h2
    simp only [Option.map_some,sj_] at h2
    rw [← h2,this]
theorem i1y {α:Type}{p:Mode→Bool}{z:α}:∀ {ms:List Mode} {l:List α},z∈c0b p ms l→z∈l:=by
 intro ms
 induction ms with
 | nil=>intro l h; cases l <;> cases h
 | cons m ms ih=>
  intro l h
  cases l with
  | nil=>cases h
  | cons a l=>
   simp only [c0b] at h
   cases hp:p m with
   | true=>
    rw [hp] at h
    rcases List.mem_cons.1 h with rfl | h
    ·simp
    ·exact List.mem_cons_of_mem _ (ih h)
   | false=>rw [hp] at h; exact List.mem_cons_of_mem _ (ih h)
theorem f1o:∀ {l:List Operand} {ys:List Nat},y0m l=some ys→l=ys.map Operand.tmp:=by
 intro l
 induction l with
 | nil=>intro ys h; simp only [y0m,sj_] at h; subst h; rfl
 | cons z l ih=>
  intro ys h
  cases z with
  | tmp y=>
   simp only [y0m] at h
   obtain ⟨l',h1,h2⟩:=Option.map_eq_some_iff.1 h
   subst h2
   rw [ih h1]
   rfl
  | _=>cases h
theorem i1x {α β:Type}(g:α→β)(p:Mode→Bool):∀ (ms:List Mode) (l:List α),c0b p ms (l.map g)=(c0b p ms l).map g:=by
 intro ms
 induction ms with
 | nil=>intro l; cases l <;> rfl
 | cons m ms ih=>
  intro l
  cases l with
  | nil=>rfl
  | cons a l=>
   simp only [List.map_cons,c0b]
   cases p m with
   | true=>simp only [List.map_cons,ih]
   | false=>simp only [ih]
theorem o1r:∀ {vs:List V} {js:List Nat},g1a vs=some js → ∀ j∈js,V.ptr j 0∈vs:=by
 intro vs
 induction vs with
 | nil=>intro js h j hj; simp only [g1a,sj_] at h; subst h; cases hj
 | cons v vs ih=>
  intro js h j hj
  unfold g1a at h
  split at h
  ·rename_i e; cases e
  ·rename_i j' vs' e
   injection e with e1 e2
   subst e1 e2
   obtain ⟨l,h1,h2⟩:=Option.map_eq_some_iff.1 h
   subst h2
   rcases List.mem_cons.1 hj with rfl | hj
   ·simp
   ·exact List.mem_cons_of_mem _ (ih h1 j hj)
  ·cases h
def RdL (ops:Array Oper)(L:List Nat)(z:Oper):Prop:=∀ x,x∈b0h ops z → ∀ (w:Nat) (ow:Oper),ops[w]? = some ow→ow.dst=some x→w ∉ L
theorem t1o {t:List V}{x:Nat}(h:t.getD x .undef ≠ .undef):x < t.length:=by
 rcases Nat.lt_or_ge x t.length with h' | h'
 ·exact h'
 ·rw [List.getD_eq_getElem?_getD,List.getElem?_eq_none h'] at h; exact absurd rfl h
theorem s0z {st0:St}{L:List Nat}{i j:Nat}(hB:RegB c.io ops)(hl0:h0q c.io ops st0=true)(hk:ops[i]? = some k)(hb:ops[j]? = some b)(hfree:d0d ops k=true)(hio:c0d c.io b.op=true)(hbg:b.guard=none)(hcl:(i < j∧g0m ops false k b=false)∨(j < i∧g0m ops false b k=false))(hnp:(i < j→r0q ops ops.size j i=false)∧(j < i→r0q ops ops.size i j=false))
  (hL:Loo ops st0 L A) (hi:i∈L) (hrk:RdL ops L k) (hrb:RdL ops L b) :
  (∀ s1 s2,a0k c den ops A k=some s1→a0k c den ops s1 b=some s2 → ∃ s,a0k c den ops A b=some s∧a0k c den ops s k=some s2) ∧
  (∀ s1 s2,a0k c den ops A b=some s1→a0k c den ops s1 k=some s2 → ∃ s,a0k c den ops A k=some s∧a0k c den ops s b=some s2):=by
 obtain ⟨hkg,e,x,hkd,hK⟩:=j0p hfree
 have hilt:=(Array.getElem?_eq_some_iff.1 hk).1
 have hjlt:=(Array.getElem?_eq_some_iff.1 hb).1
 obtain ⟨f,sI,az,hioo⟩:∃ f sI az,i0h c b.op=some (f,sI,az):=by
  unfold c0d at hio
  unfold i0h
  split at hio
  ·cases hc:c.io _ with
   | none=>rw [hc] at hio; cases hio
   | some s=>exact ⟨_,_,_,rfl⟩
  ·cases hio
 have hno:∀ s,a0k c den ops s b=stepB c den ops s b:=λ s=>by
  unfold a0k
  rw [show wanted ops s.t b=some true by unfold wanted; rw [hbg]]
 cases hbd:b.dst with
 | none=>
  have hN:∀ s,a0k c den ops s b=none:=λ s=>by
   rw [hno]
   cases hs:stepB c den ops s b with
   | none=>rfl
   | some z=>obtain ⟨d,hd⟩:=k1u hioo hs; rw [hbd] at hd; cases hd
  exact ⟨λ s1 s2 _ h=>(by rw [hN] at h; cases h),λ s1 s2 h _=>(by rw [hN] at h; cases h)⟩
 | some d=>
  have hxr:x∈b0h ops k:=by
   cases hK with
   | move h _=>exact b0j (by rw [h]; simp [Op.operands])
   | addr t f h _=>exact b0j (by rw [h]; simp [Op.operands])
   | load t r h _=>exact b0j (by rw [h]; simp [Op.operands])
  have hazr:∀ t,Operand.tmp t∈az→t∈b0h ops b:=λ t ht=>by
   refine b0j ?_
   unfold i0h at hioo
   split at hioo
   ·rename_i ff args tt hop
    rw [hop]
    split at hioo
    ·simp only [sj_,Prod.mk.injEq] at hioo
     obtain ⟨_,_,rfl⟩:=hioo
     simp [Op.operands,Call.operands,ht]
    ·cases hioo
   ·cases hioo
  have hcl':e ∉ b0h ops b∧e ≠ d∧d ∉ b0h ops k:=by
   rcases hcl with ⟨_,h⟩ | ⟨_,h⟩
   ·obtain ⟨k1,k2,_⟩:=f0y h
    exact ⟨(k1 e hkd).1,λ h=>(k1 e hkd).2 (by rw [hbd,h]),k2 d hbd⟩
   ·obtain ⟨k1,k2,_⟩:=f0y h
    exact ⟨k2 e hkd,λ h=>(k1 d hbd).2 (by rw [hkd,h]),(k1 d hbd).1⟩
  obtain ⟨hc1,hc2,hc3⟩:=hcl'
  have hfv:k0w c.io ops st0 k b=true:=by
   unfold h0q at hl0
   simp only [List.all_eq_true,List.mem_range] at hl0
   have hkio:c0d c.io k.op=false:=by cases hK with
    | move h _=>rw [h]; rfl
    | addr t f h _=>rw [h]; rfl
    | load t r h _=>rw [h]; rfl
   rcases hcl with ⟨hij,_⟩ | ⟨hij,_⟩
   ·have:=hl0 j hjlt
    rw [hb] at this
    simp only [List.all_eq_true,List.mem_range] at this
    have h2:=this i hij
    rw [hk] at h2
    rw [Bool.and_eq_true] at h2
    have h2:=h2.1
    simp only [hio,hkio,hnp.1 hij,Bool.or_true,Bool.not_true,Bool.false_or,if_true] at h2
    exact h2
   ·have:=hl0 i hilt
    rw [hk] at this
    simp only [List.all_eq_true,List.mem_range] at this
    have h2:=this j hij
    rw [hb] at h2
    rw [Bool.and_eq_true] at h2
    have h2:=h2.1
    simp only [hio,hkio,hnp.2 hij,Bool.true_or,Bool.not_true,Bool.false_or,Bool.false_eq_true,if_false] at h2
    exact h2
  have hxd:x ≠ d:=λ h=>hc3 (h ▸ hxr)
  have hund:=hL.und i hi k e hk hfree hkd
  -- the value
  by_cases hbad:(∃ t r,k.op = .load t (.tmp x)∧m0f ops x=some r) ∧ ¬ x < A.t.length
  ·obtain ⟨⟨t,r,hop,_⟩,hge⟩:=hbad
   have hu:∀ s:St,s.t.length=A.t.length→a0k c den ops s k=none:=λ s hs=>by
    rw [b0p hkg hkd hK,hop]
    have:s.t.getD x .undef = .undef:=by rw [List.getD_eq_getElem?_getD,List.getElem?_eq_none (by omega)]; rfl
    rw [this]
    simp only [rdK,i0f,c0i]
    cases c.ty t <;> rfl
   exact ⟨λ s1 s2 h _=>(by rw [hu A rfl] at h; cases h),λ s1 s2 h h2=>(by rw [hu s1 (e0z h)] at h2; cases h2)⟩
  ·have hpair:∃ G:List Nat→Prop,True:=⟨λ _=>True,trivial⟩
   have hG:∀ js,(∀ X r,(∃ t,k.op = .load t (.tmp x))→m0f ops x=some r→h0s st0 r=some X→X ∉ js)→w0h c k.op (A.t.getD x .undef) js d:=λ js hjs=>by
    cases hK with
    | move h hu=>
     rw [h]
     unfold k0w at hfv
     rw [h] at hfv
     show g0d _=true
     rw [hL.keep x hu hfv]
     exact hfv
    | addr t f h hu=>
     unfold k0w at hfv
     rw [h] at hfv
     obtain ⟨X,hX⟩:=Option.isSome_iff_exists.1 hfv
     obtain ⟨n,hn⟩:=c0j hX
     rw [h]
     exact ⟨X,n,by rw [hL.keep x hu (by rw [hn]; rfl),hn]⟩
    | load t r h hroot=>
     unfold k0w at hfv
     rw [h] at hfv
     simp only [hroot,Option.bind_some] at hfv
     have hlt:x < A.t.length:=by
      rcases Nat.lt_or_ge x A.t.length with h' | h'
      ·exact h'
      ·exact absurd ⟨⟨t,r,h,hroot⟩,by omega⟩ hbad
     cases hX:h0s st0 r with
     | none=>rw [hX] at hfv; cases hfv
     | some X=>
      rw [hX] at hfv
      obtain ⟨n,hn⟩:=c0j (hL.addr hroot hX (hrk x hxr) hlt)
      rw [h]
      refine ⟨X,n,hn,hjs X r ⟨t,h⟩ hroot hX,λ hXd=>?_⟩
      cases hp:o1b c.io b.op with
      | none=>rw [hp] at hfv; cases hfv
      | some ys=>
       rw [hp] at hfv
       simp only [Bool.and_eq_true,bne_iff_ne] at hfv
       exact hfv.1 (by rw [hbd,hXd])
   refine e1e hkg hkd hK hioo hbg hbd hc2 hxd (λ hu hxe=>b1g hu hk (by rw [hkd,hxe])) (λ t ht h=>hc1 (h ▸ hazr t ht)) hund (hG [] (λ _ _ _ _ _ h=>by cases h)) (λ js hj=>hG js (λ X r ⟨t,hop⟩ hroot hX hXj=>?_))
   -- the boxes that are handed o0v are others
   unfold k0w at hfv
   rw [hop] at hfv
   simp only [hroot,Option.bind_some,hX] at hfv
   cases hp:o1b c.io b.op with
   | none=>rw [hp] at hfv; cases hfv
   | some ys=>
    rw [hp] at hfv
    simp only [Bool.and_eq_true,List.all_eq_true] at hfv
    have hys:c0b Mode.isPt sI.md az=ys.map Operand.tmp:=by
     unfold o1b at hp
     unfold i0h at hioo
     split at hp
     ·rename_i ff args tt hop'
      rw [hop'] at hioo
      simp only at hioo
      split at hp
      ·rename_i s hs
       rw [hs] at hioo
       simp only [sj_,Prod.mk.injEq] at hioo
       obtain ⟨_,rfl,rfl⟩:=hioo
       exact f1o hp
      ·cases hp
     ·cases hp
    have hmem:=o1r hj X hXj
    rw [i1x,hys,List.map_map] at hmem
    obtain ⟨y,hy,hyv⟩:=List.mem_map.1 hmem
    have hyv':(A.head ([],[])).t.getD y .undef = .ptr X 0:=hyv
    rw [b0q] at hyv'
    have hylt:y < A.t.length:=t1o (λ h0=>by rw [h0,j0b (b0u A)] at hyv'; cases hyv')
    have hyc:=hfv.2 y hy
    cases hry:m0f ops y with
    | none=>rw [hry] at hyc; cases hyc
    | some r'=>
     rw [hry] at hyc
     simp only [Option.bind_some] at hyc
     cases hJ:h0s st0 r' with
     | none=>rw [hJ] at hyc; cases hyc
     | some J=>
      rw [hJ] at hyc
      simp only [bne_iff_ne] at hyc
      have hyaz:Operand.tmp y∈az:=by
       have:Operand.tmp y∈c0b Mode.isPt sI.md az:=by rw [hys]; exact List.mem_map.2 ⟨y,hy,rfl⟩
       exact i1y this
      obtain ⟨n,hn⟩:=c0j (hL.addr hry hJ (hrb y (hazr y hyaz)) hylt)
      rw [hn,c0x (b0u A) rfl] at hyv'
      injection hyv' with h1 h2
      exact hyc h1
end
end Go.Am
namespace Go.Am
open Go Go.RowKit
section
variable {P:Program}{c:Cfg}{Γ Γ':Ctx}{st st2 st':St}{a:Act}{w w':World}{den:Nat→List V→Option V}{d e:Nat}{ops:Array Oper}{o:Oper}
theorem i1k {io:Nat→Option Io}(h:d0d ops o=true):c0d io o.op=false:=by
 obtain ⟨_,e,x,_,hk⟩:=j0p h
 cases hk with
 | move h _=>rw [h]; rfl
 | addr t f h _=>rw [h]; rfl
 | load t r h _=>rw [h]; rfl
theorem x0h {io:Nat→Option Io}{x y:Oper}(h:j1i io ops x y=true):(d0d ops x=true∧c0d io y.op=true∧y.guard=none)∨(d0d ops y=true∧c0d io x.op=true∧x.guard=none):=by
 unfold j1i at h
 simp only [Bool.or_eq_true,Bool.and_eq_true,Option.isNone_iff_eq_none] at h
 rcases h with ⟨⟨h1,h2⟩,h3⟩ | ⟨⟨h1,h2⟩,h3⟩
 ·exact .inl ⟨h1,h2,h3⟩
 ·exact .inr ⟨h1,h2,h3⟩
theorem e1d {x y:Oper}(h:i0e ops x y=true):(d0d ops x=true∧(r0e y).isSome=true)∨(d0d ops y=true∧(r0e x).isSome=true):=by
 unfold i0e at h
 simp only [Bool.or_eq_true,Bool.and_eq_true] at h
 exact h
theorem q0d (x y:Oper):i0e ops x y=i0e ops y x:=by unfold i0e; exact Bool.or_comm _ _
theorem c1w {b:Oper}(h:(r0e b).isSome=true):b.guard=none ∧ ∃ t y xv,b.op = .store t (.tmp y) xv∧r0e b=some y:=by
 unfold r0e at h ⊢
 split at h
 ·rename_i t y xv hg hop
  exact ⟨hg,t,y,xv,hop,rfl⟩
 ·cases h
theorem i1l {k:Oper}(h:d0d ops k=true):(r0e k).isSome=false:=by
 obtain ⟨_,e,x,_,hk⟩:=j0p h
 cases hs:(r0e k).isSome with
 | false=>rfl
 | true=>
  obtain ⟨_,t,y,xv,hop,_⟩:=c1w hs
  cases hk with
  | move h _=>rw [h] at hop; cases hop
  | addr t f h _=>rw [h] at hop; cases hop
  | load t r h _=>rw [h] at hop; cases hop
theorem t0t {st0:St}{L:List Nat}{i j:Nat}{k b:Oper}(hl0:h0q c.io ops st0=true)(hk:ops[i]? = some k)(hb:ops[j]? = some b)(hfree:d0d ops k=true)(hst:(r0e b).isSome=true)(hcl:(i < j∧g0m ops true k b=false)∨(j < i∧g0m ops true b k=false))(hl:i0e ops k b=true)(ek:d0q k=false)(eb:d0q b=false)
  (hnp:(i < j→r0q ops ops.size j i=false)∧(j < i→r0q ops ops.size i j=false)) (hL:Loo ops st0 L st) (hi:i∈L) (hrk:RdL ops L k) (hrb:RdL ops L b) :
  (∀ s1 s2,a0k c den ops st k=some s1→a0k c den ops s1 b=some s2 → ∃ s,a0k c den ops st b=some s∧a0k c den ops s k=some s2) ∧
  (∀ s1 s2,a0k c den ops st b=some s1→a0k c den ops s1 k=some s2 → ∃ s,a0k c den ops st k=some s∧a0k c den ops s b=some s2):=by
 obtain ⟨hkg,e,x,hkd,hK⟩:=j0p hfree
 obtain ⟨hbg,t,y,xv,hbop,hby⟩:=c1w hst
 have hilt:=(Array.getElem?_eq_some_iff.1 hk).1
 have hjlt:=(Array.getElem?_eq_some_iff.1 hb).1
 have hstep:∀ s:St,a0k c den ops s b=b0b c s b.dst (.store t (.tmp y) xv):=λ s=>by
  rw [d0h (by rw [hbop]; rfl)]
  rw [q0z (by rw [hbop]; rfl) (by unfold wanted; rw [hbg]),hbop]
 have hyr:y∈b0h ops b:=b0j (by rw [hbop]; simp [Op.operands])
 have hxvr:∀ z,xv = .tmp z→z∈b0h ops b:=λ z hz=>b0j (by rw [hbop,hz]; simp [Op.operands])
 have hxr:x∈b0h ops k:=by
  cases hK with
  | move h _=>exact b0j (by rw [h]; simp [Op.operands])
  | addr t f h _=>exact b0j (by rw [h]; simp [Op.operands])
  | load t r h _=>exact b0j (by rw [h]; simp [Op.operands])
 obtain ⟨hc1,hc2,hc3⟩:e ∉ b0h ops b∧b.dst ≠ some e ∧ ∀ d,b.dst=some d→d ∉ b0h ops k:=by
  rcases hcl with ⟨_,h⟩ | ⟨_,h⟩
  ·obtain ⟨k1,k2,_⟩:=f0y h
   exact ⟨(k1 e hkd).1,(k1 e hkd).2,k2⟩
  ·obtain ⟨k1,k2,_⟩:=f0y h
   exact ⟨k2 e hkd,λ h=>(k1 e h).2 (by rw [hkd]),λ d hd=>(k1 d hd).1⟩
 have hfv:j0q ops st0 k b=true:=by
  unfold h0q at hl0
  simp only [List.all_eq_true,List.mem_range] at hl0
  rcases hcl with ⟨hij,_⟩ | ⟨hij,_⟩
  ·have:=hl0 j hjlt
   rw [hb] at this
   simp only [List.all_eq_true,List.mem_range] at this
   have h2:=this i hij
   rw [hk] at h2
   rw [Bool.and_eq_true] at h2
   have h2:=h2.2
   simp only [hl,ek,eb,hst,hnp.1 hij,Bool.not_false,Bool.and_true,Bool.not_true,Bool.false_or,if_true] at h2
   exact h2
  ·have:=hl0 i hilt
   rw [hk] at this
   simp only [List.all_eq_true,List.mem_range] at this
   have h2:=this j hij
   rw [hb] at h2
   rw [Bool.and_eq_true] at h2
   have h2:=h2.2
   simp only [q0d b k,hl,ek,eb,i1l hfree,hnp.2 hij,Bool.not_false,Bool.and_true,Bool.not_true,Bool.false_or,Bool.false_eq_true,if_false] at h2
   exact h2
 have hxb:b.dst ≠ some x:=λ h=>hc3 x h hxr
 have hro:∀ t',Operand.tmp t' ∈ (Op.store t (.tmp y) xv).operands.toList→t' ≠ e:=λ t' ht h=>hc1 (h ▸ b0j (by rw [hbop]; exact ht))
 -- what leads nowhere
 have plain:g0d (st.t.getD x .undef)=true→(∀ h h':Nat→Option V,rdK c k.op (st.t.getD x .undef) h=rdK c k.op (st.t.getD x .undef) h')→(∀ v h,rdK c k.op (st.t.getD x .undef) h=some v→g0d v=true) →
   (∀ s1 s2,a0k c den ops st k=some s1→a0k c den ops s1 b=some s2 → ∃ s,a0k c den ops st b=some s∧a0k c den ops s k=some s2) ∧
   (∀ s1 s2,a0k c den ops st b=some s1→a0k c den ops s1 k=some s2 → ∃ s,a0k c den ops st k=some s∧a0k c den ops s b=some s2):=λ hin hh hv=>by
  have fixI:∀ (f:V→Option V) (v:V),Quietf f→g0d v=true→v.mapB f=v:=λ f v hf hvi=>by
   cases v with
   | bool b=>simp only [V.mapB,hf.bool]; rfl
   | int k n=>simp only [V.mapB,hf.int]; rfl
   | str s=>simp only [V.mapB,hf.str]; rfl
   | ptr d n=>simp only [V.mapB,hf.ptr]; rfl
   | _=>cases hvi
  refine ⟨λ s1 s2 h1 h2=>?_,λ s1 s2 h1 h2=>?_⟩
  ·rw [b0p hkg hkd hK] at h1
   cases hr:rdK c k.op (st.t.getD x .undef) (λ b=>st.h.getD b none) with
   | none=>rw [hr] at h1; cases h1
   | some v=>
    rw [hr] at h1
    simp only [Option.map_some,sj_] at h1
    subst h1
    rw [hstep] at h2
    rcases h0l (c:=c) (v:=v) (st:=st) (d:=e) (dst:=b.dst) hro hc2 with ⟨_,h⟩ | ⟨s,f,hf,e1,e2,e3⟩
    ·rw [h] at h2; cases h2
    ·rw [e2,fixI f v hf (hv v _ hr)] at h2
     injection h2 with h2
     subst h2
     refine ⟨s,by rw [hstep,e1],?_⟩
     rw [b0p hkg hkd hK,e3 x hxb,fixI f _ hf hin,hh _ (λ b=>st.h.getD b none),hr]
     rfl
  ·rw [hstep] at h1
   rw [b0p hkg hkd hK] at h2
   rcases h0l (c:=c) (v:=(rdK c k.op (st.t.getD x .undef) (λ b=>st.h.getD b none)).getD .undef) (st:=st) (d:=e) (dst:=b.dst) hro hc2 with ⟨h,_⟩ | ⟨s,f,hf,e1,e2,e3⟩
   ·rw [h] at h1; cases h1
   ·rw [e1] at h1
    injection h1 with h1
    subst h1
    rw [e3 x hxb,fixI f _ hf hin,hh _ (λ b=>st.h.getD b none)] at h2
    cases hr:rdK c k.op (st.t.getD x .undef) (λ b=>st.h.getD b none) with
    | none=>rw [hr] at h2; cases h2
    | some v=>
     rw [hr] at h2 e2
     simp only [Option.map_some,sj_,Option.getD_some] at h2 e2
     subst h2
     refine ⟨st.slot e v,by rw [b0p hkg hkd hK,hr]; rfl,?_⟩
     rw [hstep,e2,fixI f v hf (hv v _ hr)]
 cases hK with
 | move h hu=>
  unfold j0q at hfv
  rw [h] at hfv
  have hin:g0d (st.t.getD x .undef)=true:=by rw [hL.keep x hu hfv]; exact hfv
  refine plain hin (λ _ _=>by rw [h]; rfl) (λ v hh hr=>?_)
  rw [h] at hr
  simp only [rdK,sj_] at hr
  subst hr
  exact hin
 | addr t' f h hu=>
  unfold j0q at hfv
  rw [h] at hfv
  obtain ⟨X,hX⟩:=Option.isSome_iff_exists.1 hfv
  obtain ⟨n,hn⟩:=c0j hX
  have hv:st.t.getD x .undef = .ptr X n:=by rw [hL.keep x hu (by rw [hn]; rfl),hn]
  refine plain (by rw [hv]; rfl) (λ _ _=>by rw [h]; rfl) (λ v hh hr=>?_)
  rw [h,hv] at hr
  simp only [rdK] at hr
  repeat' split at hr
  all_goals first | (cases hr; done) | skip
  simp only [f0f,sj_] at hr
  subst hr
  rfl
 | load t' r h hroot=>
  have hK':FreeK ops k x:=.load t' r h hroot
  have hlen:∀ s s':St,a0k c den ops s b=some s' → s'.t.length=s.t.length:=λ s s' hs=>e0z hs
  by_cases hlt:x < st.t.length∧y < st.t.length
  ·unfold j0q at hfv
   rw [h] at hfv
   simp only [hroot,hby,Option.bind_some] at hfv
   cases hX:h0s st0 r with
   | none=>rw [hX] at hfv; cases hfv
   | some X=>
    rw [hX] at hfv
    cases hry:m0f ops y with
    | none=>rw [hry] at hfv; cases hfv
    | some r'=>
     rw [hry] at hfv
     simp only [Option.bind_some] at hfv
     cases hY:h0s st0 r' with
     | none=>rw [hY] at hfv; cases hfv
     | some Y=>
      rw [hY] at hfv
      simp only [bne_iff_ne] at hfv
      obtain ⟨n,hn⟩:=c0j (hL.addr hroot hX (hrk x hxr) hlt.1)
      obtain ⟨m,hm⟩:=c0j (hL.addr hry hY (hrb y hyr) hlt.2)
      have hye:y ≠ e:=λ h'=>hc1 (h' ▸ hyr)
      have hxe:∀ z,xv = .tmp z→z ≠ e:=λ z hz h'=>hc1 (h' ▸ hxvr z hz)
      have hrd:∀ s:St,s.t=st.t→(∀ X,X ≠ Y→s.h.getD X none=st.h.getD X none)→rdK c k.op (s.t.getD x .undef) (λ b=>s.h.getD b none)=rdK c k.op (st.t.getD x .undef) (λ b=>st.h.getD b none):=λ s e1 e2=>by
       rw [e1,h,hn]
       simp only [rdK,i0f,c0i,e2 X hfv]
      refine ⟨λ s1 s2 h1 h2=>?_,λ s1 s2 h1 h2=>?_⟩
      ·rw [b0p hkg hkd hK'] at h1
       cases hr:rdK c k.op (st.t.getD x .undef) (λ b=>st.h.getD b none) with
       | none=>rw [hr] at h1; cases h1
       | some v=>
        rw [hr] at h1
        simp only [Option.map_some,sj_] at h1
        subst h1
        rw [hstep,k0k hm hye hxe] at h2
        cases hs:b0b c st b.dst (.store t (.tmp y) xv) with
        | none=>rw [hs] at h2; cases h2
        | some s=>
         rw [hs] at h2
         simp only [Option.map_some,sj_] at h2
         subst h2
         obtain ⟨e1,e2⟩:=y0f hm hs
         refine ⟨s,by rw [hstep,hs],?_⟩
         rw [b0p hkg hkd hK',hrd s e1 e2,hr]
         rfl
      ·rw [hstep] at h1
       obtain ⟨e1,e2⟩:=y0f hm h1
       rw [b0p hkg hkd hK',hrd s1 e1 e2] at h2
       cases hr:rdK c k.op (st.t.getD x .undef) (λ b=>st.h.getD b none) with
       | none=>rw [hr] at h2; cases h2
       | some v=>
        rw [hr] at h2
        simp only [Option.map_some,sj_] at h2
        subst h2
        refine ⟨st.slot e v,by rw [b0p hkg hkd hK',hr]; rfl,?_⟩
        rw [hstep,k0k hm hye hxe,h1]
        rfl
  · -- a slot that is not there
   have hbad:(∀ s:St,s.t.length=st.t.length→a0k c den ops s k=none)∨(∀ s:St,s.t.length=st.t.length→a0k c den ops s b=none):=by
    by_cases hx:x < st.t.length
    ·refine .inr (λ s hs=>?_)
     rw [hstep]
     have:ev s.t (.tmp y) = .undef:=by
      show s.t.getD y .undef=_
      rw [List.getD_eq_getElem?_getD,List.getElem?_eq_none (by have h9:¬ y < st.t.length:=λ h'=>hlt ⟨hx,h'⟩; rw [hs]; exact Nat.le_of_not_lt h9)]; rfl
     simp only [b0b,this]
     cases c.ty t with
     | none=>rfl
     | some i=>simp only; split <;> rfl
    ·refine .inl (λ s hs=>?_)
     rw [b0p hkg hkd hK',h]
     have:s.t.getD x .undef = .undef:=by rw [List.getD_eq_getElem?_getD,List.getElem?_eq_none (by omega)]; rfl
     rw [this]
     simp only [rdK,i0f,c0i]
     cases c.ty t' <;> rfl
   rcases hbad with hbad | hbad
   ·exact ⟨λ s1 s2 h1 _=>(by rw [hbad st rfl] at h1; cases h1),λ s1 s2 h1 h2=>(by rw [hbad s1 (e0z h1)] at h2; cases h2)⟩
   ·exact ⟨λ s1 s2 h1 h2=>(by rw [hbad s1 (e0z h1)] at h2; cases h2),λ s1 s2 h1 _=>(by rw [hbad st rfl] at h1; cases h1)⟩
theorem s1v (hA:b0l P c)(hD:a0r P den)(hIo:b0w P c den)(hB:RegB c.io ops){st0:St}(hl0:h0q c.io ops st0=true){i:Nat}{x:Oper}(hi:ops[i]? = some x):∀ (pre suf:List Nat) (st st':St),Inv ops [] (pre++i :: suf) st→Loo ops st0 (pre++i :: suf) st→(pre++i :: suf).Pairwise (· < ·)→Rdy ops (pre++i :: suf) i →
  (((d0d ops x=true∨c0d c.io x.op=true)∨(r0e x).isSome=true)→RdL ops (pre++i :: suf) x)→(∀ j,j∈pre → ∀ y,ops[j]? = some y → ¬ r0q ops ops.size i j=true)→n0e c den ops (pre++i :: suf) st=some st' → ∃ s,a0k c den ops st x=some s∧n0e c den ops (pre++suf) s=some st':=by
 have hR:=hB.reg
 intro pre
 induction pre with
 | nil=>
  intro suf st st' hI _ _ _ _ _ h
  rw [List.nil_append,j0v hi] at h
  cases hs:a0k c den ops st x with
  | none=>rw [hs] at h; cases h
  | some s=>rw [hs] at h; exact ⟨s,rfl,h⟩
 | cons j pre ih=>
  intro suf st st' hI hLo hS hri hrx hnp h
  cases hj:ops[j]? with
  | none=>simp only [List.cons_append,n0e,hj] at h; cases h
  | some y=>
   rw [List.cons_append,j0v hj] at h
   cases hs:a0k c den ops st y with
   | none=>rw [hs] at h; cases h
   | some s1=>
    rw [hs] at h
    have hN:(j :: (pre++i :: suf)).Nodup:=List.Pairwise.imp (λ h=>Nat.ne_of_lt h) hS
    rw [List.nodup_cons] at hN
    have hS':=List.pairwise_cons.1 hS
    have hji:j < i:=hS'.1 i (by simp)
    have hrj:Rdy ops (j :: (pre++i :: suf)) j:=λ o ed ho hed hbd hm=>by
     have h1:=hR.back j o ho ed hed hbd
     rcases List.mem_cons.1 hm with h2 | h2
     ·omega
     ·have:=hS'.1 _ h2
      omega
    have hsub:∀ k,k∈pre++i :: suf→k∈j :: pre++i :: suf∧k ≠ j:=λ k hk=>⟨by simp only [List.cons_append,List.mem_cons]; exact .inr hk,λ e=>hN.1 (e ▸ hk)⟩
    have hsub2:∀ k,k∈j :: pre++i :: suf→k ≠ j→k∈pre++i :: suf:=λ k hk hkj=>by simp only [List.cons_append,List.mem_cons] at hk; exact hk.resolve_left hkj
    have hI1:Inv ops [] (pre++i :: suf) s1:=hI.stepB hA hD hIo hB hj hs hsub hsub2 hrj
    have hLo1:Loo ops st0 (pre++i :: suf) s1:=hLo.stepB hR hj hs hsub hsub2
    obtain ⟨s2,h1,h2⟩:=ih suf s1 st' hI1 hLo1 hS'.2 (λ o ed ho hed hb hm=>hri o ed ho hed hb (by simp only [List.cons_append,List.mem_cons]; exact .inr hm)) (λ hf z hz w ow hw hd hm=>hrx hf z hz w ow hw hd (by simp only [List.cons_append,List.mem_cons]; exact .inr hm)) (λ k hk=>hnp k (by simp [hk])) h
    have hry:((d0d ops y=true∨c0d c.io y.op=true)∨(r0e y).isSome=true)→RdL ops (j :: (pre++i :: suf)) y:=λ hf z hz w ow hw hd hm=>by
     rcases List.mem_cons.1 hm with h3 | h3
     ·subst h3
      rw [hj] at hw
      injection hw with hw
      subst hw
      exact hB.self w y hj hf z hd hz
     ·exact hB.late j w y ow (hS'.1 _ h3) hj hw hf z hd hz
    have hnpj:=hnp j (by simp) y hj
    have hpf:r0q ops ops.size i j=false:=by
     cases hp:r0q ops ops.size i j with
     | true=>exact absurd hp hnpj
     | false=>rfl
    obtain ⟨s,h3,h4⟩:∃ s,a0k c den ops st x=some s∧a0k c den ops s y=some s2:=by
     cases hioy:c0d c.io y.op with
     | false=>
      cases hiox:c0d c.io x.op with
      | false=>
       rw [d0h hioy] at hs
       rw [d0h hiox] at h1
       rcases hB.ordP j i y x hji hj hi with hcl | ⟨hl,ey,ex,hcl⟩ | hp
       ·obtain ⟨s,h3,h4⟩:=u2t hA hD hR hj hi (z0f hcl) hI (by simp) (by simp) hrj hri hs h1
        exact ⟨s,by rw [d0h hiox]; exact h3,by rw [d0h hioy]; exact h4⟩
       ·rw [← d0h (c:=c) (den:=den) (ops:=ops) hioy] at hs
        rw [← d0h (c:=c) (den:=den) (ops:=ops) hiox] at h1
        rcases e1d hl with ⟨f1,f2⟩ | ⟨f1,f2⟩
        ·exact (t0t (den:=den) hl0 hj hi f1 f2 (.inl ⟨hji,hcl⟩) hl ey ex ⟨λ _=>hpf,λ h=>absurd h (by omega)⟩ hLo (by simp) (hry (.inl (.inl f1))) (hrx (.inr f2))).1 s1 s2 hs h1
        ·exact (t0t (den:=den) hl0 hi hj f1 f2 (.inr ⟨hji,hcl⟩) (by rw [q0d]; exact hl) ex ey ⟨λ h=>absurd h (by omega),λ _=>hpf⟩ hLo (by simp) (hrx (.inl (.inl f1))) (hry (.inr f2))).2 s1 s2 hs h1
       ·exact absurd hp hnpj
      | true=>
       obtain ⟨hl,hcl⟩:=(hB.ordB j i y x hji hj hi (.inr hiox)).resolve_right hnpj
       rcases x0h hl with ⟨f1,f2,f3⟩ | ⟨f1,f2,f3⟩
       ·exact (s0z (den:=den) hB hl0 hj hi f1 f2 f3 (.inl ⟨hji,hcl⟩) ⟨λ _=>hpf,λ h=>absurd h (by omega)⟩ hLo (by simp) (hry (.inl (.inl f1))) (hrx (.inl (.inr hiox)))).1 s1 s2 hs h1
       ·rw [hioy] at f2; cases f2
     | true=>
      obtain ⟨hl,hcl⟩:=(hB.ordB j i y x hji hj hi (.inl hioy)).resolve_right hnpj
      rcases x0h hl with ⟨f1,f2,f3⟩ | ⟨f1,f2,f3⟩
      ·rw [i1k f1] at hioy; cases hioy
      ·exact (s0z (den:=den) hB hl0 hi hj f1 f2 f3 (.inr ⟨hji,hcl⟩) ⟨λ h=>absurd h (by omega),λ _=>hpf⟩ hLo (by simp) (hrx (.inl (.inl f1))) (hry (.inl (.inr hioy)))).2 s1 s2 hs h1
    refine ⟨s,h3,?_⟩
    rw [List.cons_append,j0v hj,h4]
    exact h2
theorem s1p (hA:b0l P c)(hD:a0r P den)(hIo:b0w P c den)(hB:RegB c.io ops){st0:St}(hl0:h0q c.io ops st0=true){Q:Exit→Act→World→Prop}:∀ (fuel:Nat) (listed:Array Bool) (Γ:Ctx) (st:St) (a:Act) (w:World) (st':St),Sim Γ st a w→Inv ops [] (e0v ops listed) st→Loo ops st0 (e0v ops listed) st→listed.size=ops.size →
  (∀ j o,listed.getD j false=true→ops[j]? = some o → ∀ e∈o.after.toList,Region.binds .any e=true→listed.getD e.on false=true)→(e0v ops listed).length≤fuel→n0e c den ops (e0v ops listed) st=some st' →
  (∀ a' w',Sims Γ st' a' w' → Q .normal a' w')→wpAny P .any ops Q fuel listed a w:=by
 intro fuel
 have hR:=hB.reg
 have l0h:∀ (listed:Array Bool),listed.size=ops.size → ∀ j,j < ops.size → ∀ b,listed.getD j true=b→listed.getD j false=b:=by
  intro listed hz j hj b h
  have:j < listed.size:=by omega
  simpa [this] using h
 -- where nothing is ready nothing is pending
 have hdone:∀ (listed:Array Bool),listed.size=ops.size→Region.ready .any ops listed=[]→e0v ops listed=[]:=by
  intro listed hz hr
  cases hp:e0v ops listed with
  | nil=>rfl
  | cons j rest=>
   exfalso
   have hj:=mem_pend.1 (show j∈e0v ops listed by rw [hp]; simp)
   have hsome:ops[j]? = some ops[j]:=by simp [hj.1]
   have:j∈Region.ready .any ops listed:=by
    refine mem_ready.2 ⟨hj.2,ops[j],hsome,λ e he hbd=>?_⟩
    have hlt:=hR.back j _ hsome e (by simpa using he) hbd
    have hlt2:e.on < ops.size:=by omega
    cases hb:listed.getD e.on true with
    | true=>exact l0h listed hz e.on hlt2 true hb
    | false=>
     exfalso
     have hm:e.on∈e0v ops listed:=mem_pend.2 ⟨hlt2,hb⟩
     have hs:=e0w (ops:=ops) listed
     rw [hp] at hm hs
     rcases List.mem_cons.1 hm with h | h
     ·omega
     ·have:=(List.pairwise_cons.1 hs).1 _ h
      omega
   rw [hr] at this
   cases this
 induction fuel with
 | zero=>
  intro listed Γ st a w st' hs hI hLo hz hcl hlen h hQ
  have hp:e0v ops listed=[]:=List.eq_nil_of_length_eq_zero (by omega)
  rw [hp] at h
  simp only [n0e,sj_] at h
  subst h
  refine ⟨?_,hQ a w ⟨Γ,Same.rfl',hs⟩⟩
  cases hr:Region.ready .any ops listed with
  | nil=>rfl
  | cons i rest=>
   exfalso
   obtain ⟨h0,o,ho,_⟩:=mem_ready.1 (show i∈Region.ready .any ops listed by rw [hr]; simp)
   have:i∈e0v ops listed:=mem_pend.2 ⟨(Array.getElem?_eq_some_iff.1 ho).1,h0⟩
   rw [hp] at this
   cases this
 | succ fuel ih=>
  intro listed Γ st a w st' hs hI hLo hz hcl hlen h hQ
  refine ⟨λ hr=>?_,λ i hi=>?_⟩
  ·rw [hdone listed hz hr] at h
   simp only [n0e,sj_] at h
   subst h
   exact hQ a w ⟨Γ,Same.rfl',hs⟩
  ·obtain ⟨h0,o,ho,hall⟩:=mem_ready.1 hi
   have hilt:=(Array.getElem?_eq_some_iff.1 ho).1
   have him:i∈e0v ops listed:=mem_pend.2 ⟨hilt,h0⟩
   obtain ⟨pre,suf,hsplit⟩:=List.append_of_mem him
   have hnd:=n0a (ops:=ops) listed
   have hsrt:=e0w (ops:=ops) listed
   have hset:e0v ops (listed.setIfInBounds i true)=pre++suf:=by
    rw [h0r,hsplit,i0t (by rw [← hsplit]; exact hnd)]
   have hrdy:Rdy ops (e0v ops listed) i:=λ o' ed ho' hed hb hm=>by
    rw [ho] at ho'
    injection ho' with ho'
    subst ho'
    have h3:=hall ed (by simpa using hed) hb
    have h4:=mem_pend.1 hm
    have h5:=l0h listed hz ed.on h4.1 false h4.2
    rw [h3] at h5
    cases h5
   have hnpw:∀ w,w∈e0v ops listed → ¬ r0q ops ops.size i w=true:=λ w hw hp=>by
    have hlj:=q0n (listed:=λ k=>listed.getD k false) hcl ops.size i w o ho (λ e he hb=>hall e (by simpa using he) hb) hp
    have:=l0h listed hz w (mem_pend.1 hw).1 false (mem_pend.1 hw).2
    simp only [this] at hlj
    cases hlj
   have hrx:((d0d ops o=true∨c0d c.io o.op=true)∨(r0e o).isSome=true)→RdL ops (e0v ops listed) o:=λ hf z hz w ow hw hd hm=>by
    rcases Nat.lt_trichotomy w i with h3 | h3 | h3
    ·rcases hB.ordP w i ow o h3 hw ho with h4 | ⟨_,_,_,h4⟩ | h4
     ·exact ((f0y h4).1 z hd).1 hz
     ·exact ((f0y h4).1 z hd).1 hz
     ·exact hnpw w hm h4
    ·subst h3
     rw [ho] at hw
     injection hw with hw
     subst hw
     exact hB.self w o ho hf z hd hz
    ·exact hB.late i w o ow h3 ho hw hf z hd hz
   obtain ⟨s,h1,h2⟩:∃ s,a0k c den ops st o=some s∧n0e c den ops (pre++suf) s=some st':=by
    rw [hsplit] at h hnd hsrt hrdy hrx
    refine s1v hA hD hIo hB hl0 ho pre suf st st' (by rw [← hsplit]; exact hI) (by rw [← hsplit]; exact hLo) hsrt hrdy hrx (λ j hj y hy=>hnpw j (by rw [hsplit]; simp [hj])) h
   refine p1o hA hD hIo ho hs h1 (λ a' w' hs'=>?_)
   obtain ⟨Γ',hsame,hs''⟩:=hs'
   have hilt2:i < listed.size:=by omega
   have hsub:∀ k,k∈e0v ops (listed.setIfInBounds i true)→k∈e0v ops listed∧k ≠ i:=λ k hk=>by
    rw [h0r,List.mem_filter] at hk
    exact ⟨hk.1,by simpa using hk.2⟩
   have hsub2:∀ k,k∈e0v ops listed→k ≠ i→k∈e0v ops (listed.setIfInBounds i true):=λ k hk hki=>by
    rw [h0r,List.mem_filter]
    exact ⟨hk,by simpa using hki⟩
   refine ih (listed.setIfInBounds i true) Γ' s a' w' st' hs'' (hI.stepB hA hD hIo hB ho h1 hsub hsub2 hrdy) (hLo.stepB hR ho h1 hsub hsub2) (by simpa using hz) ?_ ?_ (by rw [hset]; exact h2) (λ a2 w2 h'=>hQ _ _ (Sims.of hsame h'))
   ·intro j oj hj hoj e he hb
    by_cases hji:j=i
    ·subst hji
     rw [ho] at hoj
     injection hoj with hoj
     subst hoj
     exact getD_set_true (hall e (by simpa using he) hb)
    ·rw [getD_set_ne false (Ne.symm hji)] at hj
     exact getD_set_true (hcl j oj hj hoj e he hb)
   ·have:(e0v ops listed).length=(pre++suf).length+1:=by rw [hsplit]; simp; omega
    rw [hset]
    omega
theorem q1x (hA:b0l P c)(hm:P.follows .mixedOrders=true)(hD:a0r P den)(hIo:b0w P c den):o0y P c den:=by
 refine ⟨t1b hA hm hD,?_⟩
 intro id ops Γ st st' a w Q hs hclean hreg hent hl0 hund h hQ
 have hB:=u1w hreg
 refine wp_region_any hm ?_
 have hs':=hs.drawn (w.drawn+1)
 refine s1p hA hD hIo hB hl0 ops.size (Array.replicate ops.size false) Γ st a _ st' hs' (x0c hB ⟨Γ,a,w,hs⟩ hclean hent _) ⟨λ i hi o e ho hf he=>hund e ?_,λ _ _ _=>rfl,λ i o e r X hi ho _ _ _ _=>?_⟩ (by simp) ?_ ?_ (by rw [e0x,k1j]; exact h) hQ
 ·unfold n0o
  refine List.mem_filterMap.2 ⟨o,List.mem_of_getElem? (i:=i) (by simpa using ho),?_⟩
  rw [if_pos hf]
  exact he
 ·exfalso
  apply hi
  rw [e0x,List.mem_range]
  exact (Array.getElem?_eq_some_iff.1 ho).1
 ·intro j o hj
  by_cases hjl:j < ops.size
  ·simp [hjl] at hj
  ·simp [hjl] at hj
 ·rw [e0x]; simp
end
end Go.Am

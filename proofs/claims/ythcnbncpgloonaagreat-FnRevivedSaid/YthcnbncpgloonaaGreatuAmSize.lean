/-
  Sizes, copies and comparisons of data, the steps that all types share.
-/
import Derived.Test.YthcnbncpgloonaaGreatuAmEvOk
import Derived.Test.YthcnbncpgloonaaGreatuAmDraw
import Derived.ReadAgain
import Derived.ChangeSame
import Derived.Handed
section
set_option linter.unusedVariables false
set_option linter.unusedSimpArgs false
namespace Go.Am
open Go
section
variable {c:Cfg}{den:Nat→List V→Option V}{α:Type}
theorem t1f {st:St}{d:Option Nat}{op:Op}{k:St→Option α}{r:α}(h:t1e c st d op k=some r):∃ s,b0b c st d op=some s∧k s=some r:=by
 cases op with
 | store t a x=>
  simp only [t1e] at h
  split at h
  ·rename_i i hi
   split at h
   ·rename_i hc
    split at h
    ·rename_i b o ha
     split at h
     ·rename_i rr hr
      split at h
      ·rename_i cs hcs
       refine ⟨_,?_,h⟩
       simp only [b0b,hi]
       rw [if_pos hc]
       simp only [ha,hr,hcs]
      ·cases h
     ·cases h
    ·rename_i b s q xs j o ha
     split at h
     ·rename_i hcc
      split at h
      ·rename_i new hn
       unfold c0z at h
       split at h
       ·rename_i ys hys
        refine ⟨_,?_,h⟩
        simp only [b0b,hi]
        rw [if_pos hc]
        simp only [ha]
        rw [if_pos hcc]
        simp only [hn,hys]
       ·cases h
      ·cases h
     ·cases h
    ·cases h
   ·cases h
  ·cases h
 | call cl=>
  obtain ⟨callee,args,ts⟩:=cl
  cases callee with
  | builtin bi=>
   cases bi with
   | append=>
    simp only [t1e] at h
    split at h
    ·rename_i x y t t' d' hx ht'
     split at h
     ·rename_i e sz by_ z0 cm nz_ qz_ hti
      split at h
      ·rename_i i b s q xs hi hxv
       split at h
       ·rename_i q' ys hsrc
        split at h
        ·rename_i hc
         obtain ⟨h1,h2⟩:=c0l h
         refine ⟨_,?_,h2⟩
         simp only [b0b,hx,ht',hti,hi,hxv,hsrc]
         rw [if_pos ⟨hc.1,hc.2.1,hc.2.2.1,hc.2.2.2.1,h1.1,h1.2,hc.2.2.2.2⟩]
        ·cases h
       ·cases h
      ·cases h
     ·cases h
    ·cases h
   | _=>simp only [t1e] at h; cases h
  | _=>simp only [t1e] at h; cases h
 | _=>simp only [t1e] at h; cases h
theorem v0l {tab:Nat→List V→(V→Option α)→Option α}(ht:g0w den tab){st:St}{o:Oper}{k:St→Option α}{r:α}(h:y0e c tab st o k=some r):∃ s,step c den st o=some s∧k s=some r:=by
 unfold y0e at h
 unfold step
 split at h
 ·rename_i he
  rw [if_pos he]
  exact t1f h
 ·rename_i he
  rw [if_neg he]
  split at h
  ·cases h
  ·rename_i d hd
   obtain ⟨out,h1,h2⟩:=v1g ht h
   simp only [hd,h1]
   cases out with
   | val v=>exact ⟨_,rfl,h2⟩
   | box rr=>
    simp only [m2a] at h2
    split at h2
    ·rename_i hc; exact ⟨_,by simp only []; rw [if_pos hc],h2⟩
    ·cases h2
   | fresh v esc n=>
    simp only [m2a] at h2
    split at h2
    ·rename_i hc; exact ⟨_,by simp only []; rw [if_pos hc],h2⟩
    ·cases h2
theorem u0w {st:St}{d:Nat}{b:Bool}(h:st.t.getD d .undef = .bool b):st.know d b=st:=by
 unfold St.know
 rw [List.getD_eq_getElem?_getD] at h
 cases hd:st.t[d]? with
 | none=>rw [hd] at h; cases h
 | some v=>
  rw [hd] at h
  simp only [Option.getD_some] at h
  subst h
  have hlt:=(gs_ hd).1
  have:st.t.set d (.bool b)=st.t:=by
   apply List.ext_getElem?
   intro i
   rw [List.getElem?_set]
   split
   ·rename_i e
    subst e
    simp [hd]
   ·rfl
  rw [this]
theorem p0h {b:Bool}{x y:Option α}{r:α}(h:br b x y=some r):(b=true∧x=some r)∨(b=false∧y=some r):=by
 cases b with
 | true=>exact .inl ⟨rfl,h⟩
 | false=>exact .inr ⟨rfl,h⟩
theorem a1p {ops:Array Oper}{o:Oper}{os:List Oper}{st:St}(hw:wanted ops st.t o=some false):b0x c den ops (o :: os) st=b0x c den ops os (st.skip o):=by
 simp only [b0x,hw,St.skip]
 cases o.dst <;> rfl
theorem k1l {ops:Array Oper}{o:Oper}{os:List Oper}{st s:St}(hw:wanted ops st.t o=some true)(hs:step c den st o=some s):b0x c den ops (o :: os) st=b0x c den ops os s:=by
 simp only [b0x,hw,hs]
theorem v1a {tab:Nat→List V→(V→Option α)→Option α}(ht:g0w den tab){ops:Array Oper}:∀ (l:List Oper) (st:St) (k:St→Option α) (r:α),g1c c tab ops l st k=some r → ∃ s,b0x c den ops l st=some s∧k s=some r:=by
 intro l
 induction l with
 | nil=>intro st k r h; exact ⟨st,rfl,h⟩
 | cons o l ih=>
  intro st k r h
  have doit:∀ st',wanted ops st'.t o=some true→y0e c tab st' o (λ s=>g1c c tab ops l s k)=some r → ∃ s,b0x c den ops (o :: l) st' = some s∧k s=some r:=by
   intro st' hw h
   obtain ⟨s,h1,h2⟩:=v0l ht h
   obtain ⟨s',h3,h4⟩:=ih s k r h2
   exact ⟨s',by rw [k1l hw h1]; exact h3,h4⟩
  have pass:∀ st',wanted ops st'.t o=some false→g1c c tab ops l (st'.skip o) k=some r → ∃ s,b0x c den ops (o :: l) st' = some s∧k s=some r:=by
   intro st' hw h
   obtain ⟨s',h3,h4⟩:=ih _ k r h
   exact ⟨s',by rw [a1p hw]; exact h3,h4⟩
  rw [g1c] at h
  split at h
  ·rename_i hg
   exact doit st (by unfold wanted; rw [hg]) h
  ·rename_i j want hg
   split at h
   ·rename_i hd
    exact pass st (by unfold wanted; rw [hg]; simp only [hd]) h
   ·rename_i dd hd
    split at h
    ·rename_i b hb
     have hk:=u0w hb
     have hw:wanted ops st.t o=some (b == want):=by unfold wanted; rw [hg]; simp only [hd,hb]
     rcases p0h h with ⟨rfl,h⟩ | ⟨rfl,h⟩
     ·cases want with
      | true=>simp only at h; rw [hk] at h; exact doit st hw h
      | false=>simp only at h; rw [hk] at h; exact pass st hw h
     ·cases want with
      | true=>simp only at h; rw [hk] at h; exact pass st hw h
      | false=>simp only at h; rw [hk] at h; exact doit st hw h
    ·rename_i hb
     exact pass st (by unfold wanted; rw [hg]; simp only [hd,hb]) h
    ·cases h
theorem c2d {st:St}{d:Option Nat}{g:Wr}{x:Operand}{k:St→Option α}{r:α}(h:wrK st d g x k=some r):∃ s,y0p st d g x=some s∧k s=some r:=by
 unfold wrK at h
 unfold y0p
 split at h
 ·rename_i b s q xs d hx
  split at h
  ·rename_i hc
   unfold wrO at h
   split at h
   ·rename_i ys n hg
    refine ⟨_,?_,h⟩
    simp only [hx]
    rw [if_pos hc,hg]
    rfl
   ·cases h
  ·cases h
 ·cases h
theorem r1d {tab:Nat→List V→(V→Option α)→Option α}(ht:g0w den tab){st:St}{d:Option Nat}{f:Nat}{s:Io}{az:List Operand}{k:St→Option α}{r:α}(h:ioK c tab st d f s az k=some r):∃ s',c0c c den st d f s az=some s' ∧ k s' = some r:=by
 unfold ioK at h
 unfold c0c
 split at h
 ·rename_i d
  split at h
  ·rename_i p hp
   obtain ⟨v,h1,h2⟩:=ht _ _ _ _ h
   split at h2
   ·rename_i s' hs'
    exact ⟨s',by simp only [hp,h1,hs'],h2⟩
   ·cases h2
  ·cases h
 ·cases h
theorem k1w {tab:Nat→List V→(V→Option α)→Option α}(ht:g0w den tab){st:St}{o:Oper}{k:St→Option α}{r:α}(h:t0s c tab st o k=some r):∃ s,m0o c den st o=some s∧k s=some r:=by
 unfold t0s at h
 unfold m0o
 cases hw:v1j c o.op with
 | none=>
  rw [hw] at h
  simp only at h ⊢
  cases hi:i0h c o.op with
  | none=>rw [hi] at h; exact v0l ht h
  | some z=>rw [hi] at h; exact r1d ht h
 | some z=>rw [hw] at h; exact c2d h
theorem x0w {ops:Array Oper}{o:Oper}{os:List Oper}{st:St}(hw:wanted ops st.t o=some false):b0n c den ops (o :: os) st=b0n c den ops os (st.skip o):=by
 simp only [b0n,hw,St.skip]
 cases o.dst <;> rfl
theorem f1d {ops:Array Oper}{o:Oper}{os:List Oper}{st s:St}(hw:wanted ops st.t o=some true)(hs:m0o c den st o=some s):b0n c den ops (o :: os) st=b0n c den ops os s:=by
 simp only [b0n,hw,hs]
theorem p1b {tab:Nat→List V→(V→Option α)→Option α}(ht:g0w den tab){ops:Array Oper}:∀ (l:List Oper) (st:St) (k:St→Option α) (r:α),o0l c tab ops l st k=some r → ∃ s,b0n c den ops l st=some s∧k s=some r:=by
 intro l
 induction l with
 | nil=>intro st k r h; exact ⟨st,rfl,h⟩
 | cons o l ih=>
  intro st k r h
  have doit:∀ st',wanted ops st'.t o=some true→t0s c tab st' o (λ s=>o0l c tab ops l s k)=some r → ∃ s,b0n c den ops (o :: l) st' = some s∧k s=some r:=by
   intro st' hw h
   obtain ⟨s,h1,h2⟩:=k1w ht h
   obtain ⟨s',h3,h4⟩:=ih s k r h2
   exact ⟨s',by rw [f1d hw h1]; exact h3,h4⟩
  have pass:∀ st',wanted ops st'.t o=some false→o0l c tab ops l (st'.skip o) k=some r → ∃ s,b0n c den ops (o :: l) st' = some s∧k s=some r:=by
   intro st' hw h
   obtain ⟨s',h3,h4⟩:=ih _ k r h
   exact ⟨s',by rw [x0w hw]; exact h3,h4⟩
  rw [o0l] at h
  split at h
  ·rename_i hg
   exact doit st (by unfold wanted; rw [hg]) h
  ·rename_i j want hg
   split at h
   ·rename_i hd
    exact pass st (by unfold wanted; rw [hg]; simp only [hd]) h
   ·rename_i dd hd
    split at h
    ·rename_i b hb
     have hk:=u0w hb
     have hw:wanted ops st.t o=some (b == want):=by unfold wanted; rw [hg]; simp only [hd,hb]
     rcases p0h h with ⟨rfl,h⟩ | ⟨rfl,h⟩
     ·cases want with
      | true=>simp only at h; rw [hk] at h; exact doit st hw h
      | false=>simp only at h; rw [hk] at h; exact pass st hw h
     ·cases want with
      | true=>simp only at h; rw [hk] at h; exact pass st hw h
      | false=>simp only at h; rw [hk] at h; exact doit st hw h
    ·rename_i hb
     exact pass st (by unfold wanted; rw [hg]; simp only [hd,hb]) h
    ·cases h
theorem k1t {tab:Nat→List V→(V→Option α)→Option α}(ht:g0w den tab){ops:Array Oper}{st:St}{o:Oper}{k:St→Option α}{r:α}(h:t0q c tab ops st o k=some r):∃ s,stepB c den ops st o=some s∧k s=some r:=by
 unfold t0q at h
 unfold stepB
 cases hi:i0h c o.op with
 | none=>rw [hi] at h; exact v0l ht h
 | some z=>
  obtain ⟨f,s,az⟩:=z
  rw [hi] at h
  simp only at h ⊢
  obtain ⟨s',h1,h2⟩:=r1d ht h
  rw [h1]
  simp only at h2 ⊢
  cases he:b0t ops [] (s'.head ([],[])) with
  | true=>rw [he] at h2; exact ⟨_,rfl,h2⟩
  | false=>rw [he] at h2; cases h2
theorem x0v {ops:Array Oper}{o:Oper}{os:List Oper}{st:St}(hw:wanted ops st.t o=some false):b0g c den ops (o :: os) st=b0g c den ops os (st.skip o):=by
 simp only [b0g,hw,St.skip]
 cases o.dst <;> rfl
theorem f1c {ops:Array Oper}{o:Oper}{os:List Oper}{st s:St}(hw:wanted ops st.t o=some true)(hs:stepB c den ops st o=some s):b0g c den ops (o :: os) st=b0g c den ops os s:=by
 simp only [b0g,hw,hs]
theorem o1z {tab:Nat→List V→(V→Option α)→Option α}(ht:g0w den tab){ops:Array Oper}:∀ (l:List Oper) (st:St) (k:St→Option α) (r:α),o0k c tab ops l st k=some r → ∃ s,b0g c den ops l st=some s∧k s=some r:=by
 intro l
 induction l with
 | nil=>intro st k r h; exact ⟨st,rfl,h⟩
 | cons o l ih=>
  intro st k r h
  have doit:∀ st',wanted ops st'.t o=some true→t0q c tab ops st' o (λ s=>o0k c tab ops l s k)=some r → ∃ s,b0g c den ops (o :: l) st' = some s∧k s=some r:=by
   intro st' hw h
   obtain ⟨s,h1,h2⟩:=k1t ht h
   obtain ⟨s',h3,h4⟩:=ih s k r h2
   exact ⟨s',by rw [f1c hw h1]; exact h3,h4⟩
  have pass:∀ st',wanted ops st'.t o=some false→o0k c tab ops l (st'.skip o) k=some r → ∃ s,b0g c den ops (o :: l) st' = some s∧k s=some r:=by
   intro st' hw h
   obtain ⟨s',h3,h4⟩:=ih _ k r h
   exact ⟨s',by rw [x0v hw]; exact h3,h4⟩
  rw [o0k] at h
  split at h
  ·rename_i hg
   exact doit st (by unfold wanted; rw [hg]) h
  ·rename_i j want hg
   split at h
   ·rename_i hd
    exact pass st (by unfold wanted; rw [hg]; simp only [hd]) h
   ·rename_i dd hd
    split at h
    ·rename_i b hb
     have hk:=u0w hb
     have hw:wanted ops st.t o=some (b == want):=by unfold wanted; rw [hg]; simp only [hd,hb]
     rcases p0h h with ⟨rfl,h⟩ | ⟨rfl,h⟩
     ·cases want with
      | true=>simp only at h; rw [hk] at h; exact doit st hw h
      | false=>simp only at h; rw [hk] at h; exact pass st hw h
     ·cases want with
      | true=>simp only at h; rw [hk] at h; exact pass st hw h
      | false=>simp only at h; rw [hk] at h; exact doit st hw h
    ·rename_i hb
     exact pass st (by unfold wanted; rw [hg]; simp only [hd,hb]) h
    ·cases h
theorem s1t (v:V):∀ (pre post:List Leaf),V.bd (pre++v.lv++post) v.sk pre.length=(v,pre.length+v.lv.length):=by
 have g1:∀ {pre post:List Leaf} {a:Leaf},(pre++[a]++post)[pre.length]? = some a:=λ {pre post a}=>by simp
 refine V.rec (motive_1:=λ v=>∀ (pre post:List Leaf),V.bd (pre++v.lv++post) v.sk pre.length=(v,pre.length+v.lv.length))
  (motive_2:=λ vs=>∀ (pre post:List Leaf),V.bds (pre++V.lvs vs++post) (V.sks vs) pre.length=(vs,pre.length+(V.lvs vs).length))
  ?_ ?_ ?_ ?_ ?_ ?_ ?_ ?_ ?_ ?_ ?_ ?_ ?_ ?_ ?_ ?_ ?_ v
 ·intro pre post; rfl
 ·intro b pre post; simp only [V.lv,V.sk,V.bd,lB,g1]; rfl
 ·intro k n pre post; simp only [V.lv,V.sk,V.bd,lI,g1]; rfl
 ·intro s pre post; simp only [V.lv,V.sk,V.bd,lS,g1]; rfl
 ·intro pre post; rfl
 ·intro s f xs _ pre post; simp only [V.lv,V.sk,V.bd,lL,g1]; rfl
 ·intro b s q xs _ pre post; simp only [V.lv,V.sk,V.bd,lL,g1]; rfl
 ·intro b s q xs _ pre post; simp only [V.lv,V.sk,V.bd,lL,g1]; rfl
 ·intro d o pre post; rfl
 ·intro b s q xs i o _ pre post
  have e1:(pre++[Leaf.l xs,Leaf.i i]++post)[pre.length]? = some (.l xs):=by simp
  have e2:(pre++[Leaf.l xs,Leaf.i i]++post)[pre.length+1]? = some (.i i):=by simp
  simp only [V.lv,V.sk,V.bd,lL,lI,e1,e2]
  rfl
 ·intro b x o ih pre post; simp only [V.lv,V.sk,V.bd,ih]
 ·intro x o ih pre post; simp only [V.lv,V.sk,V.bd,ih]
 ·intro cs ih pre post; simp only [V.lv,V.sk,V.bd,ih]
 ·intro cs ih pre post; simp only [V.lv,V.sk,V.bd,ih]
 ·intro f cs ih pre post; simp only [V.lv,V.sk,V.bd,ih]
 ·intro pre post; rfl
 ·intro u us hu hus pre post
  have h1:=hu pre (V.lvs us++post)
  have h2:=hus (pre++u.lv) post
  rw [← List.append_assoc] at h1
  rw [List.length_append] at h2
  simp only [V.lvs,V.sks,V.bds,← List.append_assoc,h1,h2,List.length_append,Nat.add_assoc]
theorem y1j (vs:List V)(pre post:List Leaf):V.bds (pre++V.lvs vs++post) (V.sks vs) pre.length=(vs,pre.length+(V.lvs vs).length):=by
 have:=s1t (.agg vs) pre post
 simp only [V.lv,V.sk,V.bd,Prod.mk.injEq,V.agg.injEq] at this
 exact Prod.ext this.1 this.2
theorem y1i:∀ (hs:List (Option V)) (pre post:List Leaf),bdo (pre++lvo hs++post) (sko hs) pre.length=hs:=by
 intro hs
 induction hs with
 | nil=>intro pre post; rfl
 | cons x hs ih=>
  intro pre post
  cases x with
  | none=>simp only [lvo,sko,bdo,ih]
  | some v=>
   have h1:=s1t v pre (lvo hs++post)
   have h2:=ih (pre++v.lv) post
   rw [← List.append_assoc] at h1
   rw [List.length_append] at h2
   simp only [lvo,sko,bdo,← List.append_assoc,h1,h2]
theorem y0y {st:St}(hd:st.dead=λ _=>false)(hp:st.dup=false):s1s st.lv st.sk=st:=by
 obtain ⟨t,h,dead,dup⟩:=st
 simp only at hd hp
 subst hd
 subst hp
 have h1:=y1j t [] (lvo h)
 have h2:=y1i h (V.lvs t) []
 simp only [List.nil_append,List.length_nil,Nat.zero_add,List.append_nil] at h1 h2
 simp only [s1s,St.lv,St.sk,h1,h2]
theorem k1m (v:V):∀ w,V.same v w=true→v=w:=by
 refine V.rec (motive_1:=λ v=>∀ w,V.same v w=true→v=w) (motive_2:=λ vs=>∀ ws,V.sames vs ws=true→vs=ws)
  ?_ ?_ ?_ ?_ ?_ ?_ ?_ ?_ ?_ ?_ ?_ ?_ ?_ ?_ ?_ ?_ ?_ v
 ·intro w h; cases w <;> first | rfl | simp [V.same] at h
 ·intro b w h; cases w <;> simp [V.same] at h ⊢; exact h
 ·intro k n w h; cases w <;> simp [V.same] at h ⊢; exact h
 ·intro s w h
  cases s with
  | nil=>cases w with
   | str s=>cases s with
    | nil=>rfl
    | cons _ _=>simp [V.same] at h
   | _=>simp [V.same] at h
  | cons _ _=>cases w <;> simp [V.same] at h
 ·intro w h; cases w <;> first | rfl | simp [V.same] at h
 ·intro s f xs _ w h
  cases xs with
  | nil=>cases w with
   | sl s' f' ys=>cases ys with
    | nil=>simp [V.same] at h; rw [h.1,h.2]
    | cons _ _=>simp [V.same] at h
   | _=>simp [V.same] at h
  | cons _ _=>cases w <;> simp [V.same] at h
 ·intro b s q xs _ w h
  cases xs with
  | nil=>cases w with
   | own b' s' q' ys=>cases ys with
    | nil=>simp [V.same] at h; rw [h.1.1,h.1.2,h.2]
    | cons _ _=>simp [V.same] at h
   | _=>simp [V.same] at h
  | cons _ _=>cases w <;> simp [V.same] at h
 ·intro b s q xs _ w h
  cases xs with
  | nil=>cases w with
   | view b' s' q' ys=>cases ys with
    | nil=>simp [V.same] at h; rw [h.1.1,h.1.2,h.2]
    | cons _ _=>simp [V.same] at h
   | _=>simp [V.same] at h
  | cons _ _=>cases w <;> simp [V.same] at h
 ·intro d o w h; cases w <;> simp [V.same] at h ⊢; exact h
 ·intro b s q xs i o _ w h
  cases xs with
  | nil=>cases w with
   | eptr b' s' q' ys i' o'=>cases ys with
    | nil=>simp [V.same] at h; rw [h.1.1.1.1,h.1.1.1.2,h.1.1.2,h.1.2,h.2]
    | cons _ _=>simp [V.same] at h
   | _=>simp [V.same] at h
  | cons _ _=>cases w <;> simp [V.same] at h
 ·intro b x o ih w h; cases w <;> simp [V.same] at h ⊢; exact ⟨h.1.1,ih _ h.1.2,h.2⟩
 ·intro x o ih w h; cases w <;> simp [V.same] at h ⊢; exact ⟨ih _ h.1,h.2⟩
 ·intro cs ih w h; cases w <;> simp [V.same] at h ⊢; exact ih _ h
 ·intro cs ih w h; cases w <;> simp [V.same] at h ⊢; exact ih _ h
 ·intro f cs ih w h; cases w <;> simp [V.same] at h ⊢; exact ⟨h.1,ih _ h.2⟩
 ·intro ws h; cases ws <;> first | rfl | simp [V.sames] at h
 ·intro u us hu hus ws h
  cases ws with
  | nil=>simp [V.sames] at h
  | cons w ws=>simp [V.sames] at h; rw [hu _ h.1,hus _ h.2]
theorem c1u {vs ws:List V}(h:V.sames vs ws=true):vs=ws:=by
 have:=k1m (.agg vs) (.agg ws) (by simpa [V.same] using h)
 injection this
theorem p1c:∀ {a b:List (Option V)},a1q a b=true→a=b:=by
 intro a
 induction a with
 | nil=>intro b h; cases b with
  | nil=>rfl
  | cons _ _=>simp [a1q] at h
 | cons x a ih=>
  intro b h
  cases b with
  | nil=>cases x <;> simp [a1q] at h
  | cons y b=>
   cases x <;> cases y <;> simp [a1q] at h
   ·rw [ih h]
   ·rw [k1m _ _ h.1,ih h.2]
theorem x0z {k k':List V × List (Option V)}(h:x0y k k' = true):k=k':=by
 unfold x0y at h
 rw [Bool.and_eq_true] at h
 exact Prod.ext (c1u h.1) (p1c h.2)
theorem h1y {e e':Ex}(h:e.same e' = true):e=e':=by
 cases e <;> cases e' <;> simp [Ex.same] at h ⊢; exact h
theorem z0i {e:Ex}{k:List V × List (Option V)}:∀ {l:List (Ex × List V × List (Option V))} {n j:Nat},s0n e k n l=some j→n≤j∧l[j - n]? = some (e,k):=by
 intro l
 induction l with
 | nil=>intro n j h; cases h
 | cons x l ih=>
  intro n j h
  obtain ⟨e',k'⟩:=x
  rw [s0n] at h
  split at h
  ·rename_i hc
   rw [Bool.and_eq_true] at hc
   injection h with h
   subst h
   rw [h1y hc.1,x0z hc.2]
   exact ⟨Nat.le_refl _,by simp⟩
  ·obtain ⟨h1,h2⟩:=ih h
   refine ⟨by omega,?_⟩
   rw [show j - n=(j - (n+1))+1 by omega,List.getElem?_cons_succ]
   exact h2
theorem e1m {lv:List Leaf}{e:Ex}{k:List V × List (Option V)}{K:Ex→St→Option α}{r:α}:∀ {l:List (Ex × List V × List (Option V))} {n j:Nat},n≤j→l[j - n]? = some (e,k)→o1n lv j K n l=some r→K e (s1s lv k)=some r:=by
 intro l
 induction l with
 | nil=>intro n j _ h; simp at h
 | cons x l ih=>
  intro n j hn hj h
  obtain ⟨e',k'⟩:=x
  cases l with
  | nil=>
   have:j - n=0:=by
    have:=(gs_ hj).1
    simp at this
    omega
   rw [this] at hj
   simp only [List.getElem?_cons_zero,sj_,Prod.mk.injEq] at hj
   obtain ⟨rfl,rfl⟩:=hj
   exact h
  | cons y l=>
   simp only [o1n] at h
   split at h
   ·rename_i e1
    subst e1
    simp only [Nat.sub_self,List.getElem?_cons_zero,sj_,Prod.mk.injEq] at hj
    obtain ⟨rfl,rfl⟩:=hj
    exact h
   ·rename_i e1
    refine ih (n:=n+1) (by omega) ?_ h
    rw [show j - n=(j - (n+1))+1 by omega,List.getElem?_cons_succ] at hj
    exact hj
theorem b1v {tab:Tab}(ht:∀ β,g0w den (tab β)){g:s1l}{X:a0y}:∀ (code:Code) (α:Type) (st:St) (k:Ex→St→Option α) (r:α),h0k c tab g X code α st k=some r → ∃ e s,d0p c den b0z g code st=some (e,s)∧k e s=some r:=by
 intro code
 induction code with
 | skip=>intro α st k r h; exact ⟨_,_,rfl,h⟩
 | region i ops draw=>
  intro α st k r h
  cases draw with
  | true=>
   cases hio:z0t c.io ops with
   | true=>
    simp only [h0k,u0n,hio] at h
    split at h
    ·rename_i hc
     obtain ⟨s,h1,h2⟩:=o1z (ht α) _ _ _ _ h
     exact ⟨.normal,s,by simp only [d0p,if_true,hio,hc,h1,Option.map_some],h2⟩
    ·cases h
   | false=>
    simp only [h0k,u0n,hio] at h
    split at h
    ·rename_i hc
     obtain ⟨s,h1,h2⟩:=v1a (ht α) _ _ _ _ h
     exact ⟨.normal,s,by simp only [d0p,if_true,hio,hc,h1,Option.map_some],h2⟩
    ·cases h
  | false=>
   simp only [h0k,u0n] at h
   obtain ⟨s,h1,h2⟩:=p1b (ht α) _ _ _ _ h
   exact ⟨.normal,s,by simp only [d0p,Bool.false_eq_true,if_false,h1,Option.map_some],h2⟩
 | seq a b iha ihb=>
  intro α st k r h
  simp only [h0k] at h
  obtain ⟨e,s,h1,h2⟩:=iha α _ _ _ h
  cases e with
  | normal=>
   obtain ⟨e',s',h3,h4⟩:=ihb α _ _ _ h2
   exact ⟨e',s',by simp only [d0p,h1,h3],h4⟩
  | exit i=>exact ⟨_,s,by simp only [d0p,h1],h2⟩
  | ret=>exact ⟨_,s,by simp only [d0p,h1],h2⟩
 | cond x a b iha ihb=>
  intro α st k r h
  simp only [h0k] at h
  split at h
  ·rename_i d t hx
   have hk:st.know d t=st:=u0w hx
   rcases p0h h with ⟨rfl,h⟩ | ⟨rfl,h⟩
   ·rw [hk] at h
    obtain ⟨e,s,h1,h2⟩:=iha α _ _ _ h
    exact ⟨e,s,by simp only [d0p,hx,h1],h2⟩
   ·rw [hk] at h
    obtain ⟨e,s,h1,h2⟩:=ihb α _ _ _ h
    exact ⟨e,s,by simp only [d0p,hx,h1],h2⟩
  ·rename_i t hne hx
   rcases p0h h with ⟨rfl,h⟩ | ⟨rfl,h⟩
   ·obtain ⟨e,s,h1,h2⟩:=iha α _ _ _ h
    exact ⟨e,s,by simp only [d0p,hx,h1],h2⟩
   ·obtain ⟨e,s,h1,h2⟩:=ihb α _ _ _ h
    exact ⟨e,s,by simp only [d0p,hx,h1],h2⟩
  ·cases h
 | block i b ih=>
  intro α st k r h
  simp only [h0k] at h
  obtain ⟨e,s,h1,h2⟩:=ih α _ _ _ h
  cases e with
  | normal=>exact ⟨_,s,by simp only [d0p,h1],h2⟩
  | ret=>exact ⟨_,s,by simp only [d0p,h1],h2⟩
  | exit j=>
   simp only at h2
   split at h2
   ·rename_i hj; exact ⟨.normal,s,by simp only [d0p,h1,if_pos hj],h2⟩
   ·rename_i hj; exact ⟨.exit j,s,by simp only [d0p,h1,if_neg hj],h2⟩
 | loop b ih=>
  intro α st k r h
  simp only [h0k] at h
  unfold t0w at h
  split at h
  ·rename_i z hw
   obtain ⟨n,hn⟩:=f0u hw
   clear hw
   have key:∀ (n:Nat) (s1:St) (z:Nat × List Leaf),(s1.head ((g (a0g b)).1,(g (a0g b)).2.1)).sk=(st.head ((g (a0g b)).1,(g (a0g b)).2.1)).sk →
     g0l (λ σ=>h0k c tab g X b (List Leaf ⊕ (Nat × List Leaf)) (s1s σ (st.head ((g (a0g b)).1,(g (a0g b)).2.1)).sk) (λ e s=>match e with
      | .normal=>if x0y (s.head ((g (a0g b)).1,(g (a0g b)).2.1)).sk (st.head ((g (a0g b)).1,(g (a0g b)).2.1)).sk then some (.inl (s.head ((g (a0g b)).1,(g (a0g b)).2.1)).lv) else none
      | e=>match s0n e (s.head ((g (1000+a0g b)).1,(g (1000+a0g b)).2.1)).sk 0 (X (a0g b)) with
       | some j=>some (.inr (j,(s.head ((g (1000+a0g b)).1,(g (1000+a0g b)).2.1)).lv))
       | none=>none)) n (s1.head ((g (a0g b)).1,(g (a0g b)).2.1)).lv=some z →
     ∃ e s2,b0z (d0p c den b0z g b) (λ s=>s.head ((g (a0g b)).1,(g (a0g b)).2.1)) s1=some (e,s2) ∧
      s0n e (s2.head ((g (1000+a0g b)).1,(g (1000+a0g b)).2.1)).sk 0 (X (a0g b))=some z.1∧z.2=(s2.head ((g (1000+a0g b)).1,(g (1000+a0g b)).2.1)).lv:=by
    intro n
    induction n with
    | zero=>intro s1 z _ h; cases h
    | succ n ihn=>
     intro s1 z hsk h
     rw [g0l] at h
     rw [x0g]
     split at h
     ·rename_i σ' hb
      rw [← hsk,y0y (h0d _ _) (j0r _ _)] at hb
      obtain ⟨e,s,h1,h2⟩:=ih _ _ _ _ hb
      cases e with
      | normal=>
       simp only at h2
       split at h2
       ·rename_i hs
        simp only [sj_,Sum.inl.injEq] at h2
        subst h2
        have hsk':=(x0z hs).trans hsk
        obtain ⟨e2,s2,g1,g2,g3⟩:=ihn s z hsk' h
        exact ⟨e2,s2,by rw [h1]; exact g1,g2,g3⟩
       ·cases h2
      | exit i=>simp only at h2; split at h2 <;> cases h2
      | ret=>simp only at h2; split at h2 <;> cases h2
     ·rename_i rr hb
      injection h with h
      subst h
      rw [← hsk,y0y (h0d _ _) (j0r _ _)] at hb
      obtain ⟨e,s,h1,h2⟩:=ih _ _ _ _ hb
      cases e with
      | normal=>simp only at h2; split at h2 <;> cases h2
      | exit i=>
       simp only at h2
       split at h2
       ·rename_i j hj
        simp only [sj_,Sum.inr.injEq] at h2
        subst h2
        exact ⟨.exit i,s,by rw [h1],hj,rfl⟩
       ·cases h2
      | ret=>
       simp only at h2
       split at h2
       ·rename_i j hj
        simp only [sj_,Sum.inr.injEq] at h2
        subst h2
        exact ⟨.ret,s,by rw [h1],hj,rfl⟩
       ·cases h2
     ·cases h
   obtain ⟨e,s2,g1,g2,g3⟩:=key n st z rfl hn
   obtain ⟨_,hj⟩:=z0i g2
   have hout:=e1m (Nat.zero_le _) hj h
   rw [g3,y0y (h0d _ _) (j0r _ _)] at hout
   exact ⟨e,_,by simp only [d0p,g1,Option.map_some],hout⟩
  ·cases h
 | exit i=>intro α st k r h; exact ⟨_,_,rfl,h⟩
 | ret=>intro α st k r h; exact ⟨_,_,rfl,h⟩
 | _=>intro α st k r h; cases h
theorem z1b {tab:Tab}(ht:∀ β,g0w den (tab β)){X:a0y}{f:Nat}{fn:Func}{args:List V}{k:V→Option α}{r:α}(h:fnK c tab X f fn α args k=some r):∃ v,o0j c den b0z f fn args=some v∧k v=some r:=by
 unfold fnK at h
 split at h
 ·cases h
 ·rename_i code hcode
  split at h
  ·cases h
  ·rename_i hdr
   obtain ⟨e,s,h1,h2⟩:=b1v ht _ _ _ _ _ h
   unfold o0j
   rw [hcode]
   simp only
   rw [if_neg hdr,h1]
   cases e with
   | exit i=>cases h2
   | normal=>
    simp only at h2 ⊢
    split at h2
    ·rename_i v hv; exact ⟨v,hv,h2⟩
    ·cases h2
   | ret=>
    simp only at h2 ⊢
    split at h2
    ·rename_i v hv; exact ⟨v,hv,h2⟩
    ·cases h2
theorem n1v {tab:Tab}(ht:∀ β,g0w den (tab β)){X:a0y}{f:Nat}{s:Io}{fn:Func}{args:List V}{k:V→Option α}{r:α}(h:i1e c tab X f s fn α args k=some r):∃ v,g0a c den b0z f s fn args=some v∧k v=some r:=by
 unfold i1e at h
 split at h
 ·cases h
 ·rename_i code hcode
  split at h
  ·cases h
  ·rename_i hdr
   split at h
   ·rename_i hnt
    obtain ⟨e,st,h1,h2⟩:=b1v ht _ _ _ _ _ h
    unfold g0a
    rw [hcode]
    simp only
    rw [if_neg hdr,if_pos hnt,h1]
    cases e with
    | exit i=>cases h2
    | normal=>
     simp only at h2 ⊢
     split at h2
     ·rename_i v hv; exact ⟨v,hv,h2⟩
     ·cases h2
    | ret=>
     simp only at h2 ⊢
     split at h2
     ·rename_i v hv; exact ⟨v,hv,h2⟩
     ·cases h2
   ·cases h
end
def s1r (k:Nat):List (Nat × V)→Option V
 | []=>none
 | (i,a) :: r=>if i=k then some a else s1r k r
def xkT (l:List (Nat × V)):Nat→Nat→List V
 | _,0=>[]
 | i,n+1=>(s1r i l).getD .undef :: xkT l (i+1) n
def xkH (l:List (Nat × V)):Nat→Nat→List (Option V)
 | _,0=>[]
 | i,n+1=>s1r i l :: xkH l (i+1) n
def xk (n:Nat)(ts hs:List (Nat × V)):List V × List (Option V):=(xkT ts 0 n,xkH hs 0 n)
def xkb (n m:Nat)(ts hs:List (Nat × V)):List V × List (Option V):=(xkT ts 0 n,xkH hs 0 m)
def noX:a0y:=λ _=>[]
def v0w:List (Nat × ((β:Type)→List V→(V→Option β)→Option β))→Tab
 | [],_,_,_,_=>none
 | (f,w) :: r,β,g,args,k=>if g=f then w β args k else v0w r β g args k
def a0l (den:Nat→List V→Option V)(f:Nat)(w:(β:Type)→List V→(V→Option β)→Option β):Prop:=∀ β args k r,w β args k=some r → ∃ v,den f args=some v∧k v=some r
theorem p1i {den:Nat→List V→Option V}:∀ β,g0w den (v0w [] β):=λ β g args k r h=>by cases h
theorem l1b {den:Nat→List V→Option V}{f:Nat}{w:(β:Type)→List V→(V→Option β)→Option β}{l:List (Nat × ((β:Type)→List V→(V→Option β)→Option β))}(hf:a0l den f w)(hl:∀ β,g0w den (v0w l β)):∀ β,g0w den (v0w ((f,w) :: l) β):=by
 intro β g args k r h
 simp only [v0w] at h
 split at h
 ·rename_i e
  subst e
  exact hf β args k r h
 ·exact hl β g args k r h
def u0h:List (Bool × List CK)→Type
 | []=>Unit
 | s :: r=>c0k s.2 × u0h r
def p0e:(sh:List (Bool × List CK))→u0h sh→List V
 | [],_=>[]
 | s :: r,e=>g0u s.1 s.2 e.1 :: p0e r e.2
def h0h:(sh:List (Bool × List CK))→List V→Option (u0h sh)
 | [],[]=>some ()
 | s :: r,v :: vs=>match m0g s.1 s.2 v,h0h r vs with
  | some a,some b=>some (a,b)
  | _,_=>none
 | _,_=>none
theorem b1p:∀ {sh:List (Bool × List CK)} {vs:List V} {e:u0h sh},h0h sh vs=some e→p0e sh e=vs:=by
 intro sh
 induction sh with
 | nil=>
  intro vs e h
  cases vs with
  | nil=>rfl
  | cons v vs=>simp [h0h] at h
 | cons s sh ih=>
  intro vs e h
  cases vs with
  | nil=>simp [h0h] at h
  | cons v vs=>
   simp only [h0h] at h
   split at h
   ·rename_i a b ha hb
    injection h with h
    subst h
    show g0u s.1 s.2 a :: p0e sh b=_
    rw [k1h ha,ih hb]
   ·cases h
def wrap (sh:List (Bool × List CK))(G:(β:Type)→u0h sh→(V→Option β)→Option β):(β:Type)→List V→(V→Option β)→Option β:=λ β args k=>
 match h0h sh args with
 | some e=>G β e k
 | none=>none
theorem d1x {sh:List (Bool × List CK)}{args:List V}{e:u0h sh}(h:h0h sh args=some e):g0r args=none:=by
 cases args with
 | nil=>rfl
 | cons v vs=>
  cases v with
  | ptr d o=>
   exfalso
   cases sh with
   | nil=>simp [h0h] at h
   | cons s sh=>
    obtain ⟨ag,ks⟩:=s
    simp only [h0h] at h
    split at h
    ·rename_i a b ha _
     cases ag with
     | true=>simp [m0g] at ha
     | false=>
      simp only [m0g] at ha
      cases ks with
      | nil=>simp [c0w] at ha
      | cons k ks=>
       simp only [c0w] at ha
       split at ha
       ·rename_i x y hx _
        cases k <;> simp [CK.dec] at hx
       ·cases ha
    ·cases h
  | _=>rfl
theorem j2d {P:Program}{c:Cfg}{ext:Nat→List V→Option V}{f:Nat}{fn:Func}{l:List (Nat × ((β:Type)→List V→(V→Option β)→Option β))}{X:a0y}{w:(β:Type)→List V→(V→Option β)→Option β}(he:∀ args,ext f args=none)(hf:P.funcs[f]? = some fn)(hnm:(fn.name == "runtime.NumGoroutine")=false)
  (hl:∀ β,g0w (den P c ext) (v0w l β)) (hw:∀ β args k r,w β args k=some r→fnK c (v0w l) X f fn β args k=some r∧g0r args=none):a0l (den P c ext) f w:=by
 intro β args k r h
 obtain ⟨v,h1,h2⟩:=z1b hl (hw β args k r h).1
 exact ⟨v,t1a (hw β args k r h).2 (he args) hf hnm h1,h2⟩
def ioW (w:(β:Type)→List V→(V→Option β)→Option β):(β:Type)→List V→(V→Option β)→Option β:=λ β args k=>
 match args with
 | .ptr 0 0 :: r=>w β r k
 | _=>none
theorem t1l {P:Program}{c:Cfg}{ext:Nat→List V→Option V}{f:Nat}{s:Io}{fn:Func}(l:List (Nat × ((β:Type)→List V→(V→Option β)→Option β)))(X:a0y){w:(β:Type)→List V→(V→Option β)→Option β}(hs:c.io f=some s)(hf:P.funcs[f]? = some fn)(hnm:(fn.name == "runtime.NumGoroutine")=false)
  (hl:∀ β,g0w (den P c ext) (v0w l β)) (hw:∀ β args k r,w β args k=some r→i1e c (v0w l) X f s fn β args k=some r):a0l (den P c ext) f (ioW w):=by
 intro β args k r h
 unfold ioW at h
 split at h
 ·rename_i rest
  obtain ⟨v,h1,h2⟩:=n1v hl (hw β _ k r h)
  exact ⟨v,h1u hs hf hnm h1,h2⟩
 ·cases h
theorem n1x {D:Nat→List V→Option V}{f:Nat}{w:(β:Type)→List V→(V→Option β)→Option β}(hw:∀ β args k,w β args k=none):a0l D f (ioW w):=by
 intro β args k r h
 unfold ioW at h
 split at h
 ·rw [hw] at h; cases h
 ·cases h
end Go.Am
end
section
set_option linter.unusedVariables false
set_option linter.unusedSimpArgs false
namespace Go.Am
open Go
section
variable {α:Type}
theorem y1m {k:CK}(e:k.T):k.dec (k.enc e)=some e:=by
 cases k with
 | bool=>rfl
 | int k=>simp [CK.dec,CK.enc]
 | str=>rfl
 | sl s f=>simp [CK.dec,CK.enc]
theorem h1m:∀ {ks:List CK} (e:c0k ks),c0w ks (d0j ks e)=some e:=by
 intro ks
 induction ks with
 | nil=>intro e; rfl
 | cons k ks ih=>
  intro e
  show (match k.dec (k.enc e.1),c0w ks (d0j ks e.2) with
   | some a,some b=>some (a,b)
   | _,_=>none)=some e
  rw [y1m,ih]
  rfl
theorem x0t {ks:List CK}(e:c0k ks):m0g true ks (g0u true ks e)=some e:=h1m e
def rows {T:Type}(ks:List CK)(g:T→c0k ks)(ys:List T):List V:=ys.map (λ y=>g0u true ks (g y))
def u1y {T:Type}(k:CK)(g:T→k.T)(ys:List T):List V:=ys.map (λ y=>k.enc (g y))
section
variable {T:Type}{ks:List CK}{g:T→c0k ks}{kd:CK}{g1:T→kd.T}
@[simp] theorem d2x (ys:List T):(rows ks g ys).length=ys.length:=List.length_map _
@[simp] theorem b2s (ys:List T):(u1y kd g1 ys).length=ys.length:=List.length_map _
@[simp] theorem d2y:rows ks g []=[]:=rfl
@[simp] theorem b2t:u1y kd g1 []=[]:=rfl
theorem n1z {ys:List T}{i:Nat}{y:T}{k:c0k ks→Option α}(h:ys[i]? = some y):idx true ks (rows ks g ys) i k=k (g y):=by
 unfold idx rows
 rw [List.getElem?_map,h]
 simp only [Option.map_some,Option.bind_some,x0t]
end
@[simp] theorem h2u (x y:Option α):br true x y=x:=rfl
@[simp] theorem c2t (x y:Option α):br false x y=y:=rfl
theorem chkE {p:Prop}{d:Decidable p}{x y:Option α}(h:p)(e:x=y):@chk α p d x=y:=(if_pos h).trans e
theorem z2n {T:Type}{ks:List CK}{g:T→c0k ks}{ys:List T}{i:Nat}{y:T}{k:c0k ks→Option α}{z:Option α}(h:ys[i]? = some y)(e:k (g y)=z):idx true ks (rows ks g ys) i k=z:=(n1z h).trans e
section
variable {T A R σ β:Type}
end
end
end Go.Am
end
section
set_option linter.unusedVariables false
set_option linter.unusedSimpArgs false
namespace Go.Am
open Go Go.RowKit
variable {P:Program}{c:Cfg}{w w':World}
def n0s (P:Program):List Field→Nat
 | []=>0
 | f :: fs=>P.cellsOf f.type+n0s P fs
def n0y (P:Program):Nat→List Field→Bool
 | _,[]=>true
 | n,f :: fs=>f.offset == n && n0y P (n+P.cellsOf f.type) fs
def k0i (P:Program)(L:List Nat):Bool:=L.all λ t=>match P.underlying t with
 | some .bool=>P.cellsOf t == 1
 | some (.int _)=>P.cellsOf t == 1
 | some .string=>P.cellsOf t == 1
 | some (.slice e)=>P.cellsOf t == 1 && L.contains e && decide (0 < P.cellsOf e)
 | some (.struct fs)=>fs.toList.all (λ f=>L.contains f.type) && P.cellsOf t == n0s P fs.toList && n0y P 0 fs.toList
 | _=>false
theorem j1g (fs:List Field):(fs.map λ f=>P.cellsOf f.type).sum=n0s P fs:=by
 induction fs with
 | nil=>rfl
 | cons f fs ih=>rw [List.map_cons,List.sum_cons,ih]; rfl
theorem e1j:∀ {fs:List Field} {n:Nat},n0y P n fs=true → ∀ (j:Nat) f,fs[j]? = some f→f.offset=n+((fs.take j).map λ f=>P.cellsOf f.type).sum:=by
 intro fs
 induction fs with
 | nil=>intro n _ j f h; simp at h
 | cons g fs ih=>
  intro n h j f hf
  rw [n0y,Bool.and_eq_true,beq_iff_eq] at h
  cases j with
  | zero=>simp only [List.getElem?_cons_zero,sj_] at hf; subst hf; simp [h.1]
  | succ j=>
   have:=ih h.2 j f (by simpa using hf)
   simp [this]
   omega
theorem t1r {L:List Nat}(h:k0i P L=true):Kids P (· ∈ L):=by
 unfold k0i at h
 rw [List.all_eq_true] at h
 refine ⟨λ {t e} ht hu=>?_,λ {t e} ht hu=>?_,λ {t e n} ht hu=>?_,λ {t fs} ht hu=>?_,λ {t k e} ht hu=>?_⟩
 ·have:=h t ht; rw [hu] at this; cases this
 ·have:=h t ht
  rw [hu] at this
  simp only [Bool.and_eq_true] at this
  exact List.contains_iff_mem.1 this.1.2
 ·have:=h t ht; rw [hu] at this; cases this
 ·have:=h t ht
  rw [hu] at this
  simp only [Bool.and_eq_true,List.all_eq_true,beq_iff_eq] at this
  refine ⟨λ f hf=>List.contains_iff_mem.1 (this.1.1 f hf),by rw [j1g]; exact this.1.2,λ j f hf=>?_⟩
  have:=e1j this.2 j f hf
  rwa [Nat.zero_add] at this
 ·have:=h t ht; rw [hu] at this; cases this
theorem o1e {L:List Nat}(h:k0i P L=true):∀ t e,t∈L→P.underlying t=some (.slice e)→0 < P.cellsOf e:=by
 intro t e ht hu
 unfold k0i at h
 rw [List.all_eq_true] at h
 have:=h t ht
 rw [hu] at this
 simp only [Bool.and_eq_true,decide_eq_true_eq] at this
 exact this.2
def Cn (P:Program)(fl:Nat→Bool):Nat→Nat→List V→Prop
 | 0,_,_=>False
 | n+1,t,vs=>match P.underlying t with
  | some .bool=>∃ b,vs=[.bool b]
  | some (.int k)=>∃ m,vs=[.int k m]∧(Lit.int k m).wf=true
  | some .string=>∃ s,vs=[.str s]∧s.length≤maxLen
  | some (.slice e)=>∃ rows,vs=[.sl (P.cellsOf e) (fl e) rows]∧rows.length≤maxLen ∧ ∀ r∈rows,∃ us,us.length=P.cellsOf e∧Cn P fl n e us∧r=(match P.underlying e with
    | some (.struct _)=>.agg us
    | _=>us.headD .undef)
  | some (.struct fs)=>vs.length=P.cellsOf t ∧ ∀ f∈fs.toList,Cn P fl n f.type ((vs.drop f.offset).take (P.cellsOf f.type))
  | _=>False
def w1r (P:Program)(L:List Nat)(fl:Nat→Bool):Bool:=L.all λ t=>!fl t || (match P.underlying t with
 | some .bool=>true
 | some (.int _)=>true
 | some .string=>true
 | some (.struct fs)=>fs.toList.all λ f=>fl f.type
 | _=>false)
theorem c1g {P:Program}{fs:List Field}:∀ {o:Nat} {vs:List V},n0y P o fs=true → ∀ (j:Nat),o≤j→j < o+n0s P fs → ∃ f∈fs,f.offset≤j∧j < f.offset+P.cellsOf f.type:=by
 induction fs with
 | nil=>intro o vs _ j h1 h2; simp [n0s] at h2; omega
 | cons f fs ih=>
  intro o vs h j h1 h2
  rw [n0y,Bool.and_eq_true,beq_iff_eq] at h
  rw [n0s] at h2
  by_cases hj:j < o+P.cellsOf f.type
  ·exact ⟨f,by simp,by omega,by omega⟩
  ·obtain ⟨g,hg,h3⟩:=ih (vs:=vs) h.2 j (by omega) (by omega)
   exact ⟨g,by simp [hg],h3⟩
theorem s1w {L:List Nat}{fl:Nat→Bool}(hk:k0i P L=true)(hf:w1r P L fl=true):∀ (n t:Nat) (vs:List V),t∈L→Cn P fl n t vs→fl t=true → ∀ v∈vs,r0o v:=by
 intro n
 induction n with
 | zero=>intro t vs _ h; cases h
 | succ n ih=>
  intro t vs ht h hfl v hv
  have h1:=List.all_eq_true.1 hf t ht
  rw [hfl] at h1
  simp only [Bool.not_true,Bool.false_or] at h1
  have hkt:=List.all_eq_true.1 hk t ht
  unfold Cn at h
  split at h
  ·obtain ⟨b,rfl⟩:=h; rw [List.mem_singleton.1 hv]; trivial
  ·obtain ⟨b,rfl,_⟩:=h; rw [List.mem_singleton.1 hv]; trivial
  ·obtain ⟨b,rfl,_⟩:=h; rw [List.mem_singleton.1 hv]; trivial
  ·rename_i e hu; rw [hu] at h1; cases h1
  ·rename_i fs hu
   rw [hu] at h1 hkt
   simp only [List.all_eq_true,Bool.and_eq_true,beq_iff_eq] at h1 hkt
   obtain ⟨hl,hfs⟩:=h
   obtain ⟨j,hj⟩:=List.getElem?_of_mem hv
   have hlt:=(gs_ hj).1
   obtain ⟨f,hfm,g1,g2⟩:=c1g (vs:=vs) hkt.2 j (by omega) (by omega)
   refine ih f.type _ (List.contains_iff_mem.1 (hkt.1.1 f hfm)) (hfs f hfm) (h1 f hfm) v ?_
   have:((vs.drop f.offset).take (P.cellsOf f.type))[j - f.offset]? = some v:=by
    rw [List.getElem?_take_of_lt (by omega),List.getElem?_drop,← hj]
    congr 1
    omega
   exact List.mem_of_getElem? this
  ·cases h
theorem e1y {H:Type}{enc:TypeId × Value→H}{base:Nat}{spare:Nat→Bool}{held:Bool}{L:List Nat}{fl:Nat→Bool}(hk:k0i P L=true)(hf:w1r P L fl=true) :
  ∀ (n t:Nat) (cs:List Value) (x:DataW H × List MemPlace),t∈L→DataW.trod enc P w base spare held n t cs=some x →
   ∃ vs:List V,vs.length=cs.length∧cs.length=P.cellsOf t∧Cn P fl n t vs∧(∀ u∈cs,u.oneCell' = true) ∧ ∀ (j:Nat) (v:V) (u:Value),vs[j]? = some v→cs[j]? = some u→Rd w (λ k=>k < w.heap.size) v u:=by
 intro n
 induction n with
 | zero=>intro t cs x _ h; simp [DataW.trod] at h
 | succ n ih=>
  intro t cs x ht h
  have hkt:=List.all_eq_true.1 hk t ht
  have single:∀ {v:V} {u:Value},Rd w (λ k=>k < w.heap.size) v u → ∀ (j:Nat) (v':V) (u':Value),[v][j]? = some v' → [u][j]? = some u' → Rd w (λ k=>k < w.heap.size) v' u':=by
   intro v u h j v' u' h1 h2
   cases j with
   | zero=>simp only [List.getElem?_cons_zero,sj_] at h1 h2; subst h1; subst h2; exact h
   | succ j=>simp at h1
  cases hu:P.underlying t with
  | none=>rw [hu] at hkt; cases hkt
  | some d=>
   rw [hu] at hkt
   cases d with
   | bool=>
    simp only [beq_iff_eq] at hkt
    obtain ⟨b,rfl,_⟩:=DataW.trod_bool hu h
    exact ⟨[.bool b],rfl,hkt.symm,by unfold Cn; rw [hu]; exact ⟨b,rfl⟩,by simp [Value.oneCell'],single (.bool b)⟩
   | int k=>
    simp only [beq_iff_eq] at hkt
    obtain ⟨m,rfl,_,hw⟩:=DataW.trod_int hu h
    exact ⟨[.int k m],rfl,hkt.symm,by unfold Cn; rw [hu]; exact ⟨m,rfl,hw⟩,by simp [Value.oneCell'],single (.int k m)⟩
   | string=>
    simp only [beq_iff_eq] at hkt
    obtain ⟨s,rfl,_,hl⟩:=DataW.trod_string hu h
    refine ⟨[.str s.data.toList],rfl,hkt.symm,by unfold Cn; rw [hu]; exact ⟨_,rfl,by rw [Array.length_toList]; exact hl⟩,by simp [Value.oneCell'],single (.str _ s rfl)⟩
   | slice e=>
    simp only [Bool.and_eq_true,beq_iff_eq,decide_eq_true_eq] at hkt
    obtain ⟨⟨hc1,he⟩,hpos⟩:=hkt
    have he:=List.contains_iff_mem.1 he
    rcases DataW.trod_slice hu h with ⟨rfl,_⟩ | ⟨a,len,cap,elems,rest,m,hm,rfl,_,hb,hlc,hcm,hel,hget,_,_⟩
    ·refine ⟨[.sl (P.cellsOf e) (fl e) []],rfl,hc1.symm,by unfold Cn; rw [hu]; exact ⟨[],rfl,Nat.zero_le _,λ r hr=>by cases hr⟩,by simp [Value.oneCell'],single (.empty _ _ _ _)⟩
    ·obtain rfl:m=n:=by omega
     -- the rows
     have hrow:∀ i,i < len → ∃ us cs' ,us.length=P.cellsOf e∧Cn P fl m e us∧cs'.length=P.cellsOf e∧w.cells? base (a.add (i * P.cellsOf e)) (P.cellsOf e)=some cs' ∧ (∀ u∈cs',u.oneCell' = true) ∧
       ∀ (j:Nat) (v:V) (u:Value),us[j]? = some v→cs'[j]? = some u→Rd w (λ k=>k < w.heap.size) v u:=by
      intro i hi
      have h1:=hget i hi
      cases hcs:w.cells? base (a.add (i * P.cellsOf e)) (P.cellsOf e) with
      | none=>rw [hcs] at h1; simp at h1; omega
      | some cs'=>
       rw [hcs] at h1
       have hsome:∃ y,elems[i]? = some y:=⟨_,List.getElem?_eq_getElem (by omega)⟩
       obtain ⟨y,hy⟩:=hsome
       rw [hy] at h1
       obtain ⟨us,g1,g2,g3,g4,g5⟩:=ih e cs' y he h1
       exact ⟨us,cs',by omega,g3,g2,rfl,g4,g5⟩
     have hch:∀ i:Nat,∃ us:List V,i < len→us.length=P.cellsOf e∧Cn P fl m e us ∧ ∃ cs',cs'.length=P.cellsOf e∧w.cells? base (a.add (i * P.cellsOf e)) (P.cellsOf e)=some cs' ∧ (∀ u∈cs',u.oneCell' = true) ∧
       ∀ (j:Nat) (v:V) (u:Value),us[j]? = some v→cs'[j]? = some u→Rd w (λ k=>k < w.heap.size) v u:=by
      intro i
      by_cases hi:i < len
      ·obtain ⟨us,cs',g1,g2,g3,g4,g5,g6⟩:=hrow i hi
       exact ⟨us,λ _=>⟨g1,g2,cs',g3,g4,g5,g6⟩⟩
      ·exact ⟨[],λ h=>absurd h hi⟩
     let F:Nat→List V:=λ i=>(hch i).choose
     have hF:∀ i,i < len→_:=λ i hi=>(hch i).choose_spec hi
     let mk:List V→V:=λ us=>match P.underlying e with
      | some (.struct _)=>.agg us
      | _=>us.headD .undef
     have hmk:∀ i,i < len→(mk (F i)).cells=F i:=by
      intro i hi
      obtain ⟨g1,g2,_⟩:=hF i hi
      show (match P.underlying e with
       | some (.struct _)=>V.agg (F i)
       | _=>(F i).headD .undef).cells=F i
      change (F i).length=P.cellsOf e at g1
      change Cn P fl m e (F i) at g2
      cases m with
      | zero=>cases g2
      | succ m=>
       unfold Cn at g2
       split at g2
       ·rename_i hue; obtain ⟨b,hb⟩:=g2; rw [hue,hb]; rfl
       ·rename_i k hue; obtain ⟨b,hb,_⟩:=g2; rw [hue,hb]; rfl
       ·rename_i hue; obtain ⟨b,hb,_⟩:=g2; rw [hue,hb]; rfl
       ·rename_i e' hue; obtain ⟨b,hb,_⟩:=g2; rw [hue,hb]; rfl
       ·rename_i fs hue; rw [hue]; rfl
       ·cases g2
     let rows:List V:=(List.range len).map λ i=>mk (F i)
     have hrl:rows.length=len:=by simp [rows]
     have hrg:∀ (i:Nat) (r:V),rows[i]? = some r→i < len∧r=mk (F i):=by
      intro i r hr
      have hi:i < len:=by have:=(gs_ hr).1; omega
      refine ⟨hi,?_⟩
      simp only [rows,List.getElem?_map,List.getElem?_range hi,Option.map_some,sj_] at hr
      exact hr.symm
     refine ⟨[.sl (P.cellsOf e) (fl e) rows],rfl,hc1.symm,?_,by simp [Value.oneCell'],single ?_⟩
     ·unfold Cn
      rw [hu]
      refine ⟨rows,rfl,by omega,λ r hr=>?_⟩
      obtain ⟨i,hi⟩:=List.getElem?_of_mem hr
      obtain ⟨h1,rfl⟩:=hrg i r hi
      obtain ⟨g1,g2,_⟩:=hF i h1
      exact ⟨F i,g1,g2,rfl⟩
     ·by_cases h0:len=0
      ·subst h0
       have:rows=[]:=List.eq_nil_of_length_eq_zero hrl
       rw [this]
       exact .empty _ _ _ _
      · -- the address is plain
       have hplain:a.spot=none∧a.block < w.heap.size:=by
        obtain ⟨_,_,cs',g3,g4,_⟩:=hF 0 (by omega)
        unfold World.cells? at g4
        split at g4
        ·have g5:=mapM_some_get g4 0 0 (List.getElem?_range hpos)
         have g6:∃ z,cs'[0]? = some z:=⟨_,List.getElem?_eq_getElem (by omega)⟩
         obtain ⟨z,hz⟩:=g6
         rw [hz] at g5
         have e0:(a.add (0 * P.cellsOf e)).add 0=a:=by simp [Addr.add]
         rw [e0] at g5
         unfold World.cell? at g5
         split at g5
         ·rename_i cc _ _ hh
          split at g5
          ·cases g5
          ·rename_i hs
           refine ⟨by simpa using hs,?_⟩
           exact (Array.getElem?_eq_some_iff.1 hh).1
         ·cases g5
        ·cases g4
       obtain ⟨ablk,aoff,aspot⟩:=a
       simp only at hplain
       obtain ⟨rfl,hblk⟩:=hplain
       have haddr:∀ i j:Nat,((⟨ablk,aoff,none⟩:Addr).add i).add j=⟨ablk,aoff+i+j,none⟩:=by
        intro i j
        by_cases hi:i=0 <;> by_cases hj:j=0 <;> simp [Addr.add,hi,hj]
       have hcellat:∀ i j:Nat,i < len→j < P.cellsOf e → ∃ u,w.cell? ⟨ablk,aoff+i * P.cellsOf e+j,none⟩=some u∧u.oneCell' = true ∧ ∀ v,(F i)[j]? = some v→Rd w (λ k=>k < w.heap.size) v u:=by
        intro i j hi hj
        obtain ⟨_,_,cs',g3,g4,g5,g6⟩:=hF i hi
        unfold World.cells? at g4
        split at g4
        ·have g7:=mapM_some_get g4 j j (List.getElem?_range hj)
         obtain ⟨z,hz⟩:∃ z,cs'[j]? = some z:=⟨_,List.getElem?_eq_getElem (by omega)⟩
         rw [hz,haddr] at g7
         exact ⟨z,g7,g5 z (List.mem_of_getElem? hz),λ v hv=>g6 j v z hv hz⟩
        ·cases g4
       refine hrl ▸ .sl (P.cellsOf e) (fl e) rows ablk aoff cap (λ i j=>(w.cell? ⟨ablk,aoff+i * P.cellsOf e+j,none⟩).getD undef) (by omega) (by omega) hblk (λ r hr=>?_) (λ hfl r hr v hv=>?_) (λ i j hi hj=>?_) (λ i r j v hr hv=>?_)
       ·obtain ⟨i,hi⟩:=List.getElem?_of_mem hr
        obtain ⟨h1,rfl⟩:=hrg i r hi
        rw [hmk i h1]
        exact (hF i h1).1
       ·obtain ⟨i,hi⟩:=List.getElem?_of_mem hr
        obtain ⟨h1,rfl⟩:=hrg i r hi
        rw [hmk i h1] at hv
        exact s1w hk hf m e _ he (hF i h1).2.1 hfl v hv
       ·obtain ⟨u,h1,h2,_⟩:=hcellat i j (by omega) hj
        rw [h1]
        exact ⟨rfl,h2⟩
       ·obtain ⟨h1,rfl⟩:=hrg i r hr
        rw [hmk i h1] at hv
        have hj:j < P.cellsOf e:=by rw [← (hF i h1).1]; exact (gs_ hv).1
        obtain ⟨u,h2,_,h3⟩:=hcellat i j h1 hj
        rw [h2]
        exact h3 v hv
   | struct fs=>
    simp only [Bool.and_eq_true,beq_iff_eq,List.all_eq_true] at hkt
    obtain ⟨⟨hfm,hsz⟩,hoff⟩:=hkt
    obtain ⟨xs,m,hm,_,hlen,hxl,hget⟩:=DataW.trod_struct hu h
    obtain rfl:m=n:=by omega
    -- the fields
    have hfld:∀ (i:Nat) (f:Field),fs.toList[i]? = some f → ∃ us:List V,us.length=P.cellsOf f.type∧Cn P fl m f.type us∧(∀ u∈(cs.drop f.offset).take (P.cellsOf f.type),u.oneCell' = true) ∧
      ∀ (j:Nat) (v:V) (u:Value),us[j]? = some v→((cs.drop f.offset).take (P.cellsOf f.type))[j]? = some u→Rd w (λ k=>k < w.heap.size) v u:=by
     intro i f hf'
     have hi:i < fs.size:=by have:=(gs_ hf').1; rwa [Array.length_toList] at this
     have h1:=hget i f (by simpa using hf')
     obtain ⟨y,hy⟩:∃ y,xs[i]? = some y:=⟨_,List.getElem?_eq_getElem (by omega)⟩
     rw [hy] at h1
     obtain ⟨us,g1,g2,g3,g4,g5⟩:=ih f.type _ y (List.contains_iff_mem.1 (hfm f (List.mem_of_getElem? hf'))) h1
     exact ⟨us,by omega,g3,g4,g5⟩
    have build:∀ (gs:List Field) (o:Nat),n0y P o gs=true→(∀ f∈gs,∃ i:Nat,fs.toList[i]? = some f) → ∃ vs:List V,vs.length=n0s P gs∧(∀ f∈gs,o≤f.offset∧Cn P fl m f.type ((vs.drop (f.offset - o)).take (P.cellsOf f.type))) ∧
      ∀ (j:Nat) (v:V) (u:Value),vs[j]? = some v→cs[o+j]? = some u→Rd w (λ k=>k < w.heap.size) v u:=by
     intro gs
     induction gs with
     | nil=>intro o _ _; exact ⟨[],rfl,λ f hf=>by simp at hf,λ j v u h=>by simp at h⟩
     | cons f gs ihg=>
      intro o ho hin
      rw [n0y,Bool.and_eq_true,beq_iff_eq] at ho
      obtain ⟨rfl,ho⟩:=ho
      obtain ⟨i,hi⟩:=hin f (by simp)
      obtain ⟨us,g1,g2,g3,g4⟩:=hfld i f hi
      obtain ⟨vs,k1,k2,k3⟩:=ihg _ ho (λ f hf=>hin f (by simp [hf]))
      refine ⟨us++vs,by rw [List.length_append,n0s]; omega,λ f' hf'=>?_,λ j v u hj hu'=>?_⟩
      ·rcases List.mem_cons.1 hf' with rfl | hf'
       ·refine ⟨Nat.le_refl _,?_⟩
        rw [Nat.sub_self,List.drop_zero,← g1,List.take_left']
        ·exact g2
        ·rfl
       ·obtain ⟨k4,k5⟩:=k2 f' hf'
        refine ⟨by omega,?_⟩
        rw [List.drop_append,List.drop_eq_nil_of_le (by omega),List.nil_append,show f'.offset - f.offset - us.length=f'.offset - (f.offset+P.cellsOf f.type) by omega]
        exact k5
      ·rcases Nat.lt_or_ge j us.length with hlt | hge
       ·rw [List.getElem?_append_left hlt] at hj
        refine g4 j v u hj ?_
        rw [List.getElem?_take_of_lt (by omega),List.getElem?_drop]
        exact hu'
       ·rw [List.getElem?_append_right hge] at hj
        refine k3 _ v u hj ?_
        rw [← hu']
        congr 1
        omega
    obtain ⟨vs,k1,k2,k3⟩:=build fs.toList 0 hoff (λ f hf=>List.getElem?_of_mem hf)
    refine ⟨vs,by omega,hlen,?_,λ u hu'=>?_,λ j v u h1 h2=>k3 j v u h1 (by rw [Nat.zero_add]; exact h2)⟩
    ·unfold Cn
     rw [hu]
     exact ⟨by omega,λ f hf=>by simpa using (k2 f hf).2⟩
    ·obtain ⟨j,hj⟩:=List.getElem?_of_mem hu'
     have hlt:=(gs_ hj).1
     obtain ⟨f,hfm',g1,g2⟩:=c1g (vs:=vs) hoff j (by omega) (by omega)
     obtain ⟨i,hi⟩:=List.getElem?_of_mem hfm'
     obtain ⟨us,q1,q2,q3,q4⟩:=hfld i f hi
     refine q3 u ?_
     have:((cs.drop f.offset).take (P.cellsOf f.type))[j - f.offset]? = some u:=by
      rw [List.getElem?_take_of_lt (by omega),List.getElem?_drop,← hj]
      congr 1
      omega
     exact List.mem_of_getElem? this
   | _=>cases hkt
end Go.Am
end
section
set_option linter.unusedVariables false
set_option linter.unusedSimpArgs false
namespace Go.Am
open Go Go.RowKit Go.ChangeShapes Go.WideShapes
section
variable {P:Program}{w w':World}{H:Type}{enc:TypeId × Value→H}
def e1p (P:Program)(t:Nat)(vs:List V):V:=
 match P.underlying t with
 | some (.struct _)=>.agg vs
 | _=>vs.headD .undef
theorem n1n {L:List Nat}{fl:Nat→Bool}(hk:k0i P L=true)(hf:w1r P L fl=true){t base:Nat}{v:Value}{d:DataW H}{ps:List MemPlace}(ht:t∈L)(hok:Value.okWide P w .any base t v)
  (h:DataW.Trod enc P w 0 (λ _=>true) true t v d ps):∃ (n:Nat) (vs:List V),Cn P fl n t vs∧Rd w (λ k=>k < w.heap.size) (e1p P t vs) v:=by
 obtain ⟨n,hn⟩:=h
 obtain ⟨vs,h1,h2,h3,h4,h5⟩:=e1y hk hf n t _ _ ht hn
 refine ⟨n,vs,h3,?_⟩
 have hkt:=List.all_eq_true.1 hk t ht
 unfold e1p
 cases hu:P.underlying t with
 | none=>rw [hu] at hkt; cases hkt
 | some dd=>
  have one:P.cellsOf t=1→v.cells = #[v]→Rd w (λ k=>k < w.heap.size) (vs.headD .undef) v:=by
   intro e1 e2
   rw [e2] at h5 h1
   cases vs with
   | nil=>simp at h1
   | cons x xs=>exact h5 0 x v rfl rfl
  rw [hu] at hkt
  unfold Value.okWide at hok
  rw [hu] at hok
  cases dd with
  | struct fs=>
   obtain ⟨cs,rfl,h6,_⟩:=hok
   refine .agg vs cs ?_ (λ i c u h7 h8=>h5 i c u h7 (by simpa [Value.cells] using h8))
   rw [h1]
   simp [Value.cells]
  | bool=>
   simp only [beq_iff_eq] at hkt
   refine one hkt ?_
   cases v <;> first | rfl | simp [Cell.okWide,Cell.ok,hu] at hok
  | int k=>
   simp only [beq_iff_eq] at hkt
   refine one hkt ?_
   cases v <;> first | rfl | simp [Cell.okWide,Cell.ok,hu] at hok
  | string=>
   simp only [beq_iff_eq] at hkt
   refine one hkt ?_
   cases v <;> first | rfl | simp [Cell.okWide,Cell.ok,hu] at hok
  | slice e=>
   simp only [Bool.and_eq_true,beq_iff_eq] at hkt
   refine one hkt.1.1 ?_
   cases v <;> first | rfl | simp [Cell.okWide,Cell.ok,hu] at hok
  | _=>cases hkt
def o0z (P:Program)(fl:Nat→Bool):List Nat→List V→Prop
 | [],[]=>True
 | t :: ts,v :: vs=>(∃ (n:Nat) (us:List V),Cn P fl n t us∧v=e1p P t us)∧o0z P fl ts vs
 | _,_=>False
theorem h1h {L:List Nat}{fl:Nat→Bool}(hk:k0i P L=true)(hf:w1r P L fl=true){base:Nat}:∀ {ts:List Nat} {vs:List Value} {ds:List (DataW H)} {ps:List MemPlace},(∀ t∈ts,t∈L) →
  (∀ (j:Nat) t v,ts[j]? = some t→vs[j]? = some v→Value.okWide P w .any base t v)→DataW.TrodAll enc P w 0 (λ _=>true) true ts vs ds ps →
  ∃ az:List V,o0z P fl ts az∧az.length=vs.length ∧ ∀ (i:Nat) (c:V) (v:Value),az[i]? = some c→vs[i]? = some v→Rd w (λ k=>k < w.heap.size) c v:=by
 intro ts
 induction ts with
 | nil=>
  intro vs ds ps _ _ h
  obtain ⟨rfl,rfl,rfl⟩:=trodAll_nil h
  exact ⟨[],trivial,rfl,λ i c v h=>by simp at h⟩
 | cons t ts ih=>
  intro vs ds ps hL hok h
  obtain ⟨v,vs1,d,ds1,a,b,rfl,rfl,rfl,h1,h2⟩:=trodAll_cons h
  obtain ⟨n,us,g1,g2⟩:=n1n hk hf (hL t (by simp)) (hok 0 t v rfl rfl) h1
  obtain ⟨az,k1,k2,k3⟩:=ih (λ t ht=>hL t (by simp [ht])) (λ j t v e1 e2=>hok (j+1) t v (by simpa using e1) (by simpa using e2)) h2
  refine ⟨e1p P t us :: az,⟨⟨n,us,g1,rfl⟩,k1⟩,by simp [k2],λ i c v e1 e2=>?_⟩
  cases i with
  | zero=>simp only [List.getElem?_cons_zero,sj_] at e1 e2; subst e1; subst e2; exact g2
  | succ i=>exact k3 i c v (by simpa using e1) (by simpa using e2)
theorem v0q {base:Nat}{spare:Nat→Bool}{held:Bool}:∀ {ts:List Nat} {vs:List Value} {ds:List (DataW H)} {ps:List MemPlace},DataW.TrodAll enc P w base spare held ts vs ds ps→(∀ p∈ps,w.sameAt w' p)→DataW.TrodAll enc P w' base spare held ts vs ds ps:=by
 intro ts
 induction ts with
 | nil=>
  intro vs ds ps h _
  obtain ⟨rfl,rfl,rfl⟩:=trodAll_nil h
  exact rfl
 | cons t ts ih=>
  intro vs ds ps h hs
  obtain ⟨v,vs1,d,ds1,a,b,rfl,rfl,rfl,⟨n,h1⟩,h2⟩:=trodAll_cons h
  exact ⟨a,b,⟨n,DataW.trod_carry n _ _ _ h1 (λ p hp=>hs p (List.mem_append_left _ hp))⟩,ih h2 (λ p hp=>hs p (List.mem_append_right _ hp)),rfl⟩
theorem j1e {D:Nat→List V→Option V}(hD:a0r P D){f:Nat}{fn:Func}{s:ChangeSpec}{L:List Nat}{fl:Nat→Bool}{tb:Nat}(hk:k0i P L=true)(hf:w1r P L fl=true)(hp:∀ t∈fn.params.toList,t∈L)
  (hr:fn.resultTypes = #[tb]) (htb:P.underlying tb=some .bool) (hv:s.vars=[]) (hs:∀ (ds:List (DataW H)),ds.length=fn.params.size→s.fn H ds = { results:=[.lit (.bool true)],args:=ds })
  (hlaw:∀ az,o0z P fl fn.params.toList az→D f az=some (.bool true))
  {W:World} {base:Nat} {args:Array Value} {ds gs:List (DataW H)} {before:List MemPlace}
  (hgl:g0c W) (hval:∀ (j:Nat) t v,fn.params[j]? = some t→args[j]? = some v→Value.okWide P W .any base t v) (hW:DataW.Whole enc P fn.params.toList s.vars false W args.toList ds gs before) :
  Calls P f args W λ e W'=>∃ v,e = .returned v∧s.post enc P fn false true false false W args v W':=by
 have hlt:=hW.lt
 have hW':=hW
 obtain ⟨p,q,hA,hV,rfl,hz,_⟩:=hW
 rw [hv] at hV
 obtain ⟨rfl,rfl⟩:=trodVars_none hV
 obtain ⟨az,g1,g2,g3⟩:=h1h (base:=base) hk hf hp (λ j t v e1 e2=>hval j t v (by simpa using e1) (by simpa using e2)) hA
 obtain ⟨_,hcall⟩:=hD f az _ (hlaw az g1)
 refine (hcall (λ k=>k < W.heap.size) W args hgl (λ k hk=>hk) (by simpa using g2) (λ i c v e1 e2=>g3 i c v e1 (by simpa using e2))).mono (λ e W' he=>?_)
 cases e with
 | returned x=>
  obtain ⟨h1,h2,h3,h4,h5,Γ,hx,_⟩:=he
  have:=hx.bool_inv
  subst this
  have hlen:ds.length=fn.params.size:=by
   have:∀ {ts:List Nat} {vs:List Value} {ds:List (DataW H)} {ps:List MemPlace},DataW.TrodAll enc P W 0 (λ _=>true) true ts vs ds ps→ds.length=ts.length:=by
    intro ts
    induction ts with
    | nil=>intro vs ds ps h; obtain ⟨_,rfl,_⟩:=trodAll_nil h; rfl
    | cons t ts ih=>intro vs ds ps h; obtain ⟨v,vs1,d,ds1,a,b,rfl,rfl,rfl,_,h2⟩:=trodAll_cons h; simp [ih h2]
   simpa using this hA
  have hfn:s.fn H (ds++[]) = { results:=[.lit (.bool true)],args:=ds }:=by rw [List.append_nil]; exact hs ds hlen
  have hsame:∀ p' ∈ p,W.sameAt W' p':=by
   intro p' hp'
   have hl:=hlt p' (by simpa using hp')
   cases p' with
   | cell b off=>exact cell?_of_heap (h5 b hl) off
   | map b=>exact h5 b hl
  refine ⟨_,rfl,ds,[],p++[],[],p,[],hW',?_,?_,?_,⟨h1,h3,λ i hi=>?_⟩,λ h=>by cases h⟩
  ·rw [hfn,hr]
   refine ⟨[],[],⟨1,?_⟩,rfl,rfl⟩
   simp [Value.cells,DataW.trod,htb]
  ·rw [hfn]
   refine v0q (DataW.TrodAll.respare (t1r hk) (o1e hk) hp hA (λ p' hp'=>?_)) hsame
   simpa using hlt p' (by simpa using hp')
  ·rw [hfn,hv]
   exact rfl
  ·rw [h5 i hi]
   cases hh:W.heap[i]? with
   | none=>rfl
   | some o=>cases o <;> first | exact ⟨rfl,rfl,rfl,λ _ _=>rfl⟩ | exact .inr ⟨rfl,rfl⟩ | rfl
 | panicked _=>exact he.elim
 | outgrown=>exact he.elim
end
end Go.Am
end
section
set_option linter.unusedVariables false
set_option linter.unusedSimpArgs false
namespace Go.Am
open Go
section
variable {β:Type}
theorem two {A B C:Type}(f:A→B→C){a a2:A}{b b2:B}(h1:a=a2)(h2:b=b2):f a b=f a2 b2:=by subst h1; subst h2; rfl
abbrev rU8 (l:List Int):List V:=u1y (.int .u8) (λ e=>e) l
end
end Go.Am
end

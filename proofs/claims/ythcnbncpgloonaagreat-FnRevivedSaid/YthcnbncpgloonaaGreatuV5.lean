/-
  Pages: what they hold, copied.
-/
import Derived.Test.YthcnbncpgloonaaGreatuUp0
import Derived.Test.YthcnbncpgloonaaGreatuAmT
import Derived.Test.YthcnbncpgloonaaGreatuUp1
section
set_option linter.unusedVariables false
namespace Go.Am
open Go
theorem q1u (x:Int):0≤b1r .and .i64 x 255∧b1r .and .i64 x 255≤255:=by
 have h:(BitVec.ofInt 64 x &&& BitVec.ofInt 64 255).toNat≤255:=by rw [BitVec.toNat_and]; exact Nat.and_le_right
 show 0≤IntKind.wrap .i64 (BitVec.ofInt 64 x &&& BitVec.ofInt 64 255).toNat∧IntKind.wrap .i64 (BitVec.ofInt 64 x &&& BitVec.ofInt 64 255).toNat≤255
 generalize (BitVec.ofInt 64 x &&& BitVec.ofInt 64 255).toNat=n at h
 simp [IntKind.wrap,IntKind.bits,IntKind.signed]
 omega
def wb (n:Int):V:=.int .u8 n
def wn (n:Int):V:=.int .i64 n
abbrev tt {A:Type}(_:A):Prop:=True
theorem r0 {P:Int→Prop}{l:LV}(h:Rw wb P l){i:Nat}(hi:i < l.length):An (λ _=>ix0 l i) (λ y=>P y∧l[i]? = some (wb y)):=h.ix (f:=ix0) (λ _ l i y k h=>by unfold ix0; exact g0e (ks:=[.int .u8]) (e:=(y,())) h rfl) hi
theorem r1 {P:Int→Prop}{l:LV}(h:Rw wn P l){i:Nat}(hi:i < l.length):An (λ _=>ix1 l i) (λ y=>P y∧l[i]? = some (wn y)):=h.ix (f:=ix1) (λ _ l i y k h=>by unfold ix1; exact g0e (ks:=[.int .i64]) (e:=(y,())) h rfl) hi
theorem r2 {P:LU→Prop}{l:LV}(h:Rw V.str P l){i:Nat}(hi:i < l.length):An (λ _=>ix2 l i) (λ y=>P y∧l[i]? = some (V.str y)):=h.ix (f:=ix2) (λ _ l i y k h=>by unfold ix2; exact g0e (ks:=[.str]) (e:=(y,())) h rfl) hi
theorem wi1 {n:Int}(h:-1152921504606846976≤n∧n≤1152921504606846976):wi (n+1)=n+1:=b1i (by omega)
theorem wim {n:Int}(h:-1152921504606846976≤n∧n≤1152921504606846976):wi (n - 1)=n - 1:=b1i (by omega)
structure Cu (c:U0):Prop where
  rw:Rw wb tt c.a
  lo:0≤c.b
  hi:c.b≤c.a.length
  le:c.a.length≤1048576
theorem t58 {c:U0}(h:Cu c):An2 (λ β=>m0r β c) λ n y=>(0≤n∧n≤255)∧Cu y:=by
 refine f3n ?_
 unfold m0r r1y
 have h1:=h.lo
 have h2:=h.le
 have h3:=h.hi
 refine g3f (λ e=>?_) (λ e=>?_)
 ·have e:c.b < c.a.length:=of_decide_eq_true e
  refine g3b h1 (f3l (r0 h.rw (by omega)) λ n _=>f3j ⟨q1u _,h.rw,?_,?_,h2⟩)
  ·show 0≤wi (c.b+1)
   rw [wi1 (by omega)]; omega
  ·show wi (c.b+1)≤(c.a.length:Int)
   rw [wi1 (by omega)]; omega
 ·exact f3j ⟨q1u _,h.rw,h1,h3,h2⟩
theorem tm {a n:Int}(h:0 < n)(ha:0≤a):0≤Int.tmod a n∧Int.tmod a n < n:=⟨Int.tmod_nonneg _ ha,Int.tmod_lt_of_pos _ h⟩
theorem t43 {c:U0}(n:Int)(h:Cu c):An2 (λ β=>a0s β n c) λ m y=>(0≤m∧(m < n∨m=0))∧Cu y:=by
 refine f3n ?_
 unfold a0s r1t
 refine g3f (λ e=>f3j ⟨⟨Int.le_refl _,.inr rfl⟩,h⟩) (λ e=>g3f (λ e2=>f3i (t58 h) λ a y ⟨ha,hy⟩=>f3s ?_ (f3j ⟨?_,hy⟩)) (λ e2=>f3i (t58 h) λ a y ⟨ha,hy⟩=>f3i (t58 hy) λ b z ⟨hb,hz⟩=>f3i (t58 hz) λ d u ⟨hd,hu⟩=>f3s ?_ (f3j ⟨?_,hu⟩)))
 ·simp at e; omega
 ·simp at e
  have:=tm (a:=a) (n:=n) (by omega) ha.1
  exact ⟨this.1,.inl this.2⟩
 ·simp at e; omega
 ·simp at e
  have:=tm (a:=wi (wi (wi (a * 65536)+wi (b * 256))+d)) (n:=n) (by omega) (by rw [b1i (n:=a * 65536) (by omega),b1i (n:=b * 256) (by omega),b1i (n:=a * 65536+b * 256) (by omega),b1i (n:=a * 65536+b * 256+d) (by omega)]; omega)
  exact ⟨this.1,.inl this.2⟩
theorem t67 {c:U0}(n:Int)(h:Cu c):An2 (λ β=>b0e β n c) λ _ y=>Cu y:=by
 refine f3n ?_
 unfold b0e s1b
 exact f3i (t43 n h) λ m y hy=>f3j hy.2
theorem t56 {c:U0}{l:LV}{P:Int→Prop}(h:Cu c)(hl:Rw wn P l)(h0:l ≠ []):An2 (λ β=>d0i β l c) λ n y=>P n∧Cu y:=by
 refine f3n ?_
 unfold d0i r1w nL
 have:=List.length_pos_iff.2 h0
 exact f3i (t43 _ h) λ m y hm=>g3b hm.1.1 (f3l (r1 hl (by omega)) λ n hn=>f3j ⟨hn.1,hm.2⟩)
theorem t77 {c:U0}{l:LV}{P:LU→Prop}(h:Cu c)(hl:Rw V.str P l)(h0:l ≠ []):An2 (λ β=>b0a β l c) λ n y=>P n∧Cu y:=by
 refine f3n ?_
 unfold b0a s1f nL
 have:=List.length_pos_iff.2 h0
 exact f3i (t43 _ h) λ m y hm=>g3b hm.1.1 (f3l (r2 hl (by omega)) λ n hn=>f3j ⟨hn.1,hm.2⟩)
end Go.Am
end
section
set_option linter.unusedVariables false
namespace Go.Am
open Go
abbrev Sl (n:Nat)(s:LU):Prop:=s.length≤n
def c2s (n:Nat):LV→Bool
 | []=>true
 | .str s :: l=>decide (s.length≤n) && c2s n l
 | _=>false
theorem rS {n:Nat}:∀ {l:LV},c2s n l=true→Rw V.str (Sl n) l
 | [],_=>Rw.nil
 | v :: l,h=>by
  cases v <;> simp only [c2s,Bool.and_eq_true,decide_eq_true_eq,Bool.false_eq_true] at h
  exact Rw.cons h.1 (rS h.2)
def c2r:LV→Bool
 | []=>true
 | .int .i64 _ :: l=>c2r l
 | _=>false
theorem rN:∀ {l:LV},c2r l=true→Rw wn tt l
 | [],_=>Rw.nil
 | v :: l,h=>by
  cases v with
  | int k n=>cases k <;> first | (exact Rw.cons trivial (rN h)) | (simp [c2r] at h)
  | _=>simp [c2r] at h
theorem d77 {c:U0}(n:Nat){l:LV}(h:Cu c)(hl:c2s n l=true)(h0:l ≠ []):An2 (λ β=>b0a β l c) λ s y=>Sl n s∧Cu y:=t77 h (rS hl) h0
theorem e3o {c:U0}(h:Cu c):An2 (λ β=>k0c β c) λ s y=>Sl 100 s∧Cu y:=by
 refine f3n ?_
 unfold k0c g1n
 refine f3i (t43 8 h) λ n y ⟨_,h⟩=>g3f (λ _=>?_) λ _=>g3f (λ _=>?_) λ _=>g3f (λ _=>?_) λ _=>g3f (λ _=>?_) λ _=>g3f (λ _=>?_) λ _=>g3f (λ _=>?_) λ _=>?_
 ·exact f3i (d77 8 h rfl (by simp)) λ s y ⟨hs,hy⟩=>g3d (by simp; omega) (f3j ⟨by simp; omega,hy⟩)
 ·exact f3i (d77 8 h rfl (by simp)) λ s y ⟨hs,hy⟩=>g3d (by simp; omega) (f3j ⟨by simp; omega,hy⟩)
 ·exact f3i (d77 8 h rfl (by simp)) λ s y ⟨hs,hy⟩=>g3d (by simp; omega) (g3d (by simp; omega) (f3i (d77 8 hy rfl (by simp)) λ s2 y2 ⟨hs2,hy2⟩=>g3d (by simp; omega) (f3j ⟨by simp; omega,hy2⟩)))
 ·exact f3i (d77 8 h rfl (by simp)) λ s y ⟨hs,hy⟩=>g3d (by simp; omega) (f3j ⟨by simp; omega,hy⟩)
 ·exact f3i (d77 9 h rfl (by simp)) λ s y ⟨hs,hy⟩=>g3d (by simp; omega) (f3j ⟨by simp; omega,hy⟩)
 ·exact f3i (d77 50 h rfl (by simp)) λ s y ⟨hs,hy⟩=>f3j ⟨by simp at hs ⊢; omega,hy⟩
 ·exact f3i (d77 50 h rfl (by simp)) λ s y ⟨hs,hy⟩=>f3j ⟨by simp at hs ⊢; omega,hy⟩
abbrev Id (N:Nat)(x:LU × Int × U0):Prop:=(0≤x.2.1∧x.2.1≤N)∧x.1.length+200 * x.2.1≤200 * N∧Cu x.2.2
theorem e3c {c:U0}{n:Int}(hn:0≤n∧n≤100)(h:Cu c):An2 (λ β=>k0a β n c) λ s y=>Sl 21000 s∧Cu y:=by
 refine f3n ?_
 unfold k0a g1j
 refine f3i (t43 _ h) λ m y ⟨hm,h⟩=>f3l (wh de6 (Id 101) (λ x=>x.2.1.toNat) (Ex:=λ r=>∃ s c,r=(0,eS5 (s,c))∧Sl 20200 s∧Cu c) ⟨⟨hm.1,?_⟩,?_,h⟩ λ x ⟨hx1,hx2,hx3⟩=>?_) λ r ⟨s,c,hr,hs,hc⟩=>?_
 ·rw [wi1 (by omega)] at hm; simp <;> omega
 ·rw [wi1 (by omega)] at hm; simp; omega
 ·refine g3f (λ e=>?_) λ e=>f3p ⟨_,_,rfl,by simp at e; omega,hx3⟩
  simp at e
  refine f3i (t67 3 hx3) λ b y hy=>g3f (λ _=>?_) λ _=>?_
  ·refine f3i (d77 8 hy rfl (by simp)) λ t y ⟨ht,hy⟩=>g3d (by omega) (g3a ⟨?_,?_,hy⟩ ?_) <;> (try rw [wim (by omega)]) <;> (try simp only [List.length_append]) <;> omega
  ·refine g3d (by simp; omega) (f3i (e3o hy) λ t y ⟨ht,hy⟩=>g3d (by simp; omega) (g3d (by simp; omega) (g3a ⟨?_,?_,hy⟩ ?_))) <;> (try rw [wim (by omega)]) <;> (try simp only [List.length_append,List.length_cons,List.length_nil]) <;> omega
 ·subst hr
  refine g3g (x:=(s,c)) rfl (f3i (t67 6 hc) λ b y hy=>g3f (λ _=>?_) λ _=>f3j ⟨by simp <;> omega,hy⟩)
  exact f3i (d77 8 hy rfl (by simp)) λ t y ⟨ht,hy⟩=>g3d (by simp <;> omega) (f3j ⟨by simp <;> omega,hy⟩)
theorem u2w {c:U0}{n:Int}(hn:0≤n∧n≤100)(h:Cu c):An2 (λ β=>f0d β n c) λ s y=>Sl 21000 s∧Cu y:=by
 refine f3n ?_
 unfold f0d g1g
 refine f3i (t43 _ h) λ m y ⟨hm,h⟩=>?_
 have hm1:0≤m∧m≤100:=by omega
 rw [Int.add_comm,wi1 (by omega)]
 refine f3l (wh de6 (Id 101) (λ x=>x.2.1.toNat) (Ex:=λ r=>∃ s c,r=(0,eS5 (s,c))∧Sl 20200 s∧Cu c) ⟨⟨by simp <;> omega,by simp <;> omega⟩,by simp <;> omega,h⟩ λ x ⟨hx1,hx2,hx3⟩=>?_) λ r ⟨s,c,hr,hs,hc⟩=>?_
 ·refine g3f (λ e=>?_) λ e=>f3p ⟨_,_,rfl,by simp at e; omega,hx3⟩
  simp at e
  refine f3y (Sl (x.1.length+1)) (λ t ht=>f3i (d77 40 hx3 rfl (by simp)) λ t2 y ⟨ht2,hy⟩=>g3d (by omega) (g3a ⟨?_,?_,hy⟩ ?_)) λ j hj=>g3f (λ _=>g3d (by simp <;> omega) (hj _ (by simp))) λ _=>hj _ (by simp) <;> (try rw [wim (by omega)]) <;> (try simp only [List.length_append]) <;> omega
 ·subst hr
  exact g3g (x:=(s,c)) rfl (f3j ⟨by simp <;> omega,hc⟩)
theorem e3b {c:U0}(h:Cu c):An2 (λ β=>j0z β c) λ s y=>Sl 21000 s∧Cu y:=by
 refine f3n ?_
 unfold j0z g1i
 refine f3i (t43 _ h) λ m y ⟨hm,h⟩=>f3l (wh de6 (Id 101) (λ x=>x.2.1.toNat) (Ex:=λ r=>∃ s c,r=(0,eS5 (s,c))∧Sl 20200 s∧Cu c) ⟨⟨by simp <;> omega,by simp <;> omega⟩,by simp <;> omega,h⟩ λ x ⟨hx1,hx2,hx3⟩=>?_) λ r ⟨s,c,hr,hs,hc⟩=>?_
 ·refine g3f (λ e=>?_) λ e=>f3p ⟨_,_,rfl,by simp at e; omega,hx3⟩
  simp at e
  refine f3i (d77 8 hx3 rfl (by simp)) λ t y ⟨ht,hy⟩=>g3d (by omega) (g3d (by simp <;> omega) (f3i (d77 8 hy rfl (by simp)) λ t2 y2 ⟨ht2,hy2⟩=>g3d (by simp <;> omega) (g3d (by simp <;> omega) (g3a ⟨?_,?_,hy2⟩ ?_)))) <;> (try rw [wim (by omega)]) <;> (try simp only [List.length_append,List.length_cons,List.length_nil]) <;> omega
 ·subst hr
  exact g3g (x:=(s,c)) rfl (f3j ⟨by simp <;> omega,hc⟩)
theorem t99 {c:U0}{n:Int}(h:Cu c):An2 (λ β=>r0m β n c) λ s y=>Sl 21000 s∧Cu y:=by
 refine f3n ?_
 unfold r0m s1j
 refine g3f (λ _=>f3i (u2w (by omega) h) λ _ _ h=>f3j h) λ _=>g3f (λ _=>f3i (e3b h) λ _ _ h=>f3j h) λ _=>g3f (λ _=>?_) λ _=>g3f (λ _=>f3j ⟨by simp,h⟩) λ _=>f3i (e3c (by omega) h) λ _ _ h=>f3j h
 exact f3i (d77 30 h rfl (by simp)) λ s y ⟨hs,hy⟩=>f3i (d77 30 hy rfl (by simp)) λ s2 y2 ⟨hs2,hy2⟩=>g3d (by omega) (f3j ⟨by simp <;> omega,hy2⟩)
abbrev Tx (n m:Nat)(l:LV):Prop:=l.length≤n∧Rw V.str (Sl m) l
theorem Tx.nil {n m:Nat}:Tx n m []:=⟨Nat.zero_le _,Rw.nil⟩
theorem a0 {P:LU→Prop}{l:LV}(h:Rw V.str P l){i:Nat}(hi:i < l.length):An (λ _=>ia0 l i 0) (λ y=>P y∧l[i]? = some (.str y)):=h.ix (f:=λ l i=>ia0 l i 0) (λ _ l i y k h=>by show ia0 l i 0 k=_; unfold ia0; exact i0z (ks:=[.str]) (e:=(y,())) h rfl) hi
theorem m2l {c:U0}(h:Cu c):An2 (λ β=>i0a β c) λ s y=>Tx 3 4 s∧Cu y:=by
 refine f3n ?_
 unfold i0a g1k
 refine f3l (wh de7 (λ x=>x.2.1=[.str [104,111,109,101],.str [99,100,110],.str [101,118,105,108]]∧x.2.2.1=3∧(0≤x.2.2.2.1∧x.2.2.2.1≤3)∧Rw V.str (Sl 4) x.1∧x.1.length≤x.2.2.2.1∧Cu x.2.2.2.2) (λ x=>(3 - x.2.2.2.1).toNat) (Ex:=λ r=>∃ s c,r=(0,eS3 (s,c))∧Tx 3 4 s∧Cu c) ⟨rfl,rfl,by simp,Rw.nil,by simp,h⟩ λ x ⟨h1,h2,h3,h4,h5,h6⟩=>?_) λ r ⟨s,c,hr,hs,hc⟩=>?_
 ·refine g3f (λ e=>?_) λ e=>f3p ⟨_,_,rfl,⟨by omega,h4⟩,h6⟩
  simp at e
  have hl:x.2.1.length=3:=by rw [h1]; rfl
  refine f3x (by omega) (f3l (a0 (P:=Sl 4) (by rw [h1]; exact rS rfl) (by omega)) λ t ⟨ht,_⟩=>f3i (t67 2 h6) λ b y hy=>g3f (λ _=>g3j (by simp <;> omega) (g3a ⟨h1,h2,?_,h4.app (Rw.one ht),?_,hy⟩ ?_)) λ _=>g3a ⟨h1,h2,?_,h4,?_,hy⟩ ?_) <;> (try rw [wi1 (by omega)]) <;> (try simp only [List.length_append,List.length_cons,List.length_nil]) <;> omega
 ·subst hr
  exact g3g (x:=(s,c)) rfl (f3j ⟨hs,hc⟩)
abbrev Po (n m:Nat)(p:U2):Prop:=Tx n m p.b∧Tx n m p.c∧Tx n m p.d∧Sl m p.e
theorem u2u {c:U0}(h:Cu c):An2 (λ β=>f0c β c) λ s y=>Po 3 4 s∧Cu y:=by
 refine f3n ?_
 unfold f0c g1f
 refine f3i (t67 2 h) λ b y h=>g3f (λ _=>f3j ⟨⟨Tx.nil,Tx.nil,Tx.nil,by simp⟩,h⟩) λ _=>f3i (m2l h) λ l1 y ⟨h1,h⟩=>f3i (m2l h) λ l2 y ⟨h2,h⟩=>f3i (m2l h) λ l3 y ⟨h3,h⟩=>f3i (t67 2 h) λ b y h=>g3f (λ _=>f3j ⟨⟨h1,h2,h3,by simp⟩,h⟩) λ _=>f3j ⟨⟨h1,h2,h3,by simp⟩,h⟩
theorem t25 (x a b:Int):An (λ β=>F25 β x a b) λ r=>r=decide (a≤x∧x≤b):=by
 refine g3e ?_
 unfold F25 P25
 refine g3f (λ e=>f3v ?_) λ e=>f3v ?_ <;> rw [Bool.eq_iff_iff] <;> simp at e ⊢ <;> omega
end Go.Am
end
section
set_option linter.unusedVariables false
namespace Go.Am
open Go
theorem f1l {s:LU}(hs:Sl 1099511627776 s):An (λ β=>d0n β s) λ b=>b=true→s.length≤8:=by
 refine g3e ?_
 unfold d0n f2d
 refine f3l (wh t2d (λ x=>x.1=s∧0≤x.2∧x.2≤s.length) (λ x=>(s.length - x.2).toNat) (Ex:=λ r=>r=(0,eS9 s)∨r=(1,z0h (s,false))) ⟨rfl,by simp,by simp⟩ λ x ⟨h1,h2,h3⟩=>?_) λ r hr=>?_
 ·rw [h1]
  refine f3r (λ e=>?_) λ e=>f3p (.inl rfl)
  refine f3l (l0w h2 (by omega)) λ b _=>g3f (λ _=>f3p (.inr rfl)) λ _=>f3l (l0w h2 (by omega)) λ b _=>g3f (λ _=>f3p (.inr rfl)) λ _=>g3a ⟨rfl,?_,?_⟩ ?_ <;> simp only <;> rw [wi1 (by omega)] <;> omega
 ·rcases hr with rfl | rfl
  ·exact f3o (g3g (x:=s) rfl (f3l (t25 _ _ _) λ b hb=>f3v (by rw [hb,b0m]; simp <;> omega)))
  ·exact f3m (g3g (x:=(s,false)) rfl (f3v (by simp)))
theorem m2p {l:LV}{n:Nat}(hl:Tx 1099511627776 n l)(hn:n≤1099511627776):An (λ β=>b1l β l) λ b=>b=true→Tx 4 8 l:=by
 refine g3e ?_
 unfold b1l g2a
 refine f3l (wh de0 (λ x=>x.1=l∧(0≤x.2∧x.2≤l.length) ∧ ∀ i:Nat,(i:Int) < x.2 → ∀ s,l[i]? = some (.str s)→s.length≤8) (λ x=>(l.length - x.2).toNat) (Ex:=λ r=>r=(1,i2g (l,false))∨r=(0,eS8 l) ∧ ∀ s,.str s∈l→s.length≤8) ⟨rfl,by simp,λ i h=>by simp at h; omega⟩ λ x ⟨h1,h2,h3⟩=>?_) λ r hr=>?_
 ·rw [h1]
  refine f3u (λ e=>?_) λ e=>f3p (.inr ⟨rfl,λ s hs=>?_⟩)
  ·refine g3b h2.1 (f3l (r2 hl.2 (by omega)) λ y ⟨hy,hg⟩=>?_)
   refine f3l (f1l (Nat.le_trans hy hn)) λ b hb=>g3f (λ _=>f3p (.inl rfl)) λ e2=>g3a ⟨rfl,?_,λ i hi s hs=>?_⟩ ?_
   ·simp only; rw [wi1 (by have:=hl.1; omega)]; omega
   ·simp only at hi
    rw [wi1 (by have:=hl.1; omega)] at hi
    by_cases c:(i:Int)=x.2
    ·have:i=x.2.toNat:=by omega
     rw [this,hg] at hs
     simp at hs e2
     rw [← hs]; exact hb e2
    ·exact h3 i (by omega) s hs
   ·simp only; rw [wi1 (by have:=hl.1; omega)]; omega
  ·obtain ⟨i,hi⟩:=List.getElem?_of_mem hs
   have:=(gs_ hi).1
   exact h3 i (by omega) s hi
 ·rcases hr with rfl | ⟨rfl,hr⟩
  ·exact f3m (g3g (x:=(l,false)) rfl (f3v (by simp)))
  ·refine f3o (g3g (x:=l) rfl (f3v λ e=>⟨by have e:=of_decide_eq_true e; rw [a0t] at e; omega,λ r h=>?_⟩))
   obtain ⟨y,_,rfl⟩:=hl.2 r h
   exact ⟨y,hr y h,rfl⟩
theorem m2q {s:LU}(hs:Sl 1099511627776 s):An (λ β=>n0i β s) λ b=>b=true→s.length≤20:=by
 refine g3e ?_
 unfold n0i g2b
 refine f3l (wh t2d (λ x=>x.1=s∧0≤x.2∧x.2≤s.length) (λ x=>(s.length - x.2).toNat) (Ex:=λ r=>r=(0,eS9 s)∨r=(1,z0h (s,false))) ⟨rfl,by simp,by simp⟩ λ x ⟨h1,h2,h3⟩=>?_) λ r hr=>?_
 ·rw [h1]
  refine f3r (λ e=>?_) λ e=>f3p (.inl rfl)
  have q:∀ (P:Int→Prop),An (λ _=>idxS s x.2) λ b=>0≤b∧b < 256:=λ _=>l0w h2 (by omega)
  have o:∀ {m:Nat},Tg (C:=Unit) (T:=λ _=>LL ⊕ (Nat × LL)) (λ _=>some (Sum.inr (1,z0h (s,false)))) (λ _ z=>some z) (λ z=>match z with
   | .inl t=>∃ x',t=s0k x' ∧ (x'.1=s∧0≤x'.2∧x'.2≤s.length)∧(s.length - x'.2).toNat < m
   | .inr r=>r=(0,eS9 s)∨r=(1,z0h (s,false))):=f3p (.inr rfl)
  have g:Tg (C:=Unit) (T:=λ _=>LL ⊕ (Nat × LL)) (λ _=>some (Sum.inl (s0k (s,wi (x.2+1))))) (λ _ z=>some z) (λ z=>match z with
   | .inl t=>∃ x',t=s0k x' ∧ (x'.1=s∧0≤x'.2∧x'.2≤s.length)∧(s.length - x'.2).toNat < (s.length - x.2).toNat
   | .inr r=>r=(0,eS9 s)∨r=(1,z0h (s,false))):=by
   refine g3a ⟨rfl,?_,?_⟩ ?_ <;> simp only <;> rw [wi1 (by omega)] <;> omega
  have a:∀ b:Int,Tg (C:=Unit) (T:=λ _=>LL ⊕ (Nat × LL)) (λ _=>br (b != 47) (some (Sum.inr (1,z0h (s,false)))) (some (Sum.inl (s0k (s,wi (x.2+1)))))) (λ _ z=>some z) (λ z=>match z with
   | .inl t=>∃ x',t=s0k x' ∧ (x'.1=s∧0≤x'.2∧x'.2≤s.length)∧(s.length - x'.2).toNat < (s.length - x.2).toNat
   | .inr r=>r=(0,eS9 s)∨r=(1,z0h (s,false))):=λ b=>g3f (λ _=>o) λ _=>g
  exact f3l (q tt) λ _ _=>g3f (λ _=>f3l (q tt) λ _ _=>g3f (λ _=>f3l (q tt) λ b _=>a b) λ _=>f3l (q tt) λ _ _=>g3f (λ _=>f3l (q tt) λ b _=>a b) λ _=>g) λ _=>f3l (q tt) λ _ _=>g3f (λ _=>f3l (q tt) λ _ _=>g3f (λ _=>f3l (q tt) λ b _=>a b) λ _=>f3l (q tt) λ _ _=>g3f (λ _=>f3l (q tt) λ b _=>a b) λ _=>g) λ _=>g
 ·rcases hr with rfl | rfl
  ·exact f3o (g3g (x:=s) rfl (f3l (t25 _ _ _) λ b hb=>f3v (by rw [hb,b0m]; simp <;> omega)))
  ·exact f3m (g3g (x:=(s,false)) rfl (f3v (by simp)))
theorem e3d {p:U2}(h:Po 1099511627776 1099511627776 p):An (λ β=>f1r β p) λ b=>b=true→p.a=true→Po 4 20 p:=by
 refine g3e ?_
 unfold f1r f2f
 obtain ⟨h1,h2,h3,h4⟩:=h
 have up:∀ {l:LV},Tx 4 8 l→Tx 4 20 l:=λ h=>⟨h.1,h.2.mono λ y (hy:y.length≤8)=>by show y.length≤20; omega⟩
 refine g3f (λ e=>?_) λ e=>?_
 ·have e:¬ p.a=true:=by simpa using e
  exact g3f (λ _=>g3f (λ _=>g3f (λ _=>f3v λ _ q=>absurd q e) λ _=>f3v λ _ q=>absurd q e) λ _=>f3v λ _ q=>absurd q e) λ _=>f3v λ _ q=>absurd q e
 ·have e0:p.e=[]→Sl 20 p.e:=λ h=>by rw [h]; simp
  exact f3l (m2p h1 (by omega)) λ b1 q1=>g3f (λ e1=>f3l (m2p h2 (by omega)) λ b2 q2=>g3f (λ e2=>f3l (m2p h3 (by omega)) λ b3 q3=>g3f (λ e3=>g3f (λ e4=>f3v λ _ _=>⟨up (q1 e1),up (q2 e2),up (q3 e3),e0 (by simpa using e4)⟩) λ e4=>f3l (m2q h4) λ b hb=>f3v λ e _=>⟨up (q1 e1),up (q2 e2),up (q3 e3),hb e⟩) λ _=>f3v (by simp)) λ _=>f3v (by simp)) λ _=>f3v (by simp)
theorem m2k {w:LU}{l:LV}{n m:Nat}(hw:Sl n w)(hl:Tx n m l)(hn:n≤1000000)(hm:m≤1099511627776):An (λ β=>b1k β w l) λ s=>s.length≤n+n * (m+1):=by
 refine g3e ?_
 unfold b1k f2g
 refine f3l (wh y2f (λ x=>x.2.1=l∧(0≤x.2.2∧x.2.2≤l.length)∧x.1.length≤n+x.2.2.toNat * (m+1)) (λ x=>(l.length - x.2.2).toNat) (Ex:=λ r=>∃ s,r=(0,eS9 s)∧s.length≤n+n * (m+1)) ⟨rfl,by simp,by simpa using hw⟩ λ x ⟨h1,h2,h3⟩=>?_) λ r ⟨s,hr,hs⟩=>?_
 ·rw [h1]
  have hb:∀ k:Nat,k≤n→k * (m+1)≤1000000 * (1099511627776+1):=λ k hk=>Nat.mul_le_mul (by omega) (by omega)
  have hl1:=hl.1
  refine f3u (λ e=>?_) λ e=>f3p ⟨_,rfl,Nat.le_trans h3 (Nat.add_le_add_left (Nat.mul_le_mul_right _ (by omega)) _)⟩
  have hk:=hb x.2.2.toNat (by omega)
  have he:(x.2.2+1).toNat * (m+1)=x.2.2.toNat * (m+1)+(m+1):=by rw [show (x.2.2+1).toNat=x.2.2.toNat+1 by omega,Nat.add_mul,Nat.one_mul]
  refine g3d (by simp; omega) (g3b h2.1 (f3l (r2 hl.2 (by omega)) λ t ⟨(ht:t.length≤m),_⟩=>g3d (by simp; omega) (g3a ⟨rfl,?_,?_⟩ ?_))) <;> simp only <;> rw [wi1 (by omega)]
  ·omega
  ·simp; omega
  ·omega
 ·subst hr
  exact g3g (x:=s) rfl (f3v hs)
theorem Po.mono {a b n m:Nat}{p:U2}(h:Po a b p)(h1:a≤n)(h2:b≤m):Po n m p:=
 have f:∀ {l:LV},Tx a b l→Tx n m l:=λ h=>⟨Nat.le_trans h.1 h1,h.2.mono λ y hy=>Nat.le_trans hy h2⟩
 ⟨f h.1,f h.2.1,f h.2.2.1,Nat.le_trans h.2.2.2 h2⟩
theorem m2e {p:U2}(h:Po 1099511627776 1099511627776 p):An (λ β=>l0d β p) λ s=>Sl 10000 s∧(s ≠ []→Po 4 20 p):=by
 refine g3e ?_
 unfold l0d e2k
 refine g3h (f3l (e3d h) λ b hb=>g3f (λ _=>f3v ⟨by simp,by simp⟩) λ e1=>g3f (λ _=>f3v ⟨by simp,by simp⟩) λ e2=>?_)
 have hp:=hb (by simpa using e1) (by simpa using e2)
 obtain ⟨q1,q2,q3,q4⟩:=hp.mono (n:=20) (m:=20) (by omega) (by omega)
 refine f3l (m2k (by simp) q1 (by omega) (by omega)) λ a ha=>g3d (by simp <;> omega) (f3l (m2k (by simp) q2 (by omega) (by omega)) λ b hb=>g3d (by simp <;> omega) (g3d (by simp <;> omega) (f3l (m2k (by simp) q3 (by omega) (by omega)) λ d hd=>g3d (by simp <;> omega) (g3f (λ _=>g3d (by simp <;> omega) (g3d (by simp <;> omega) (f3v ⟨by simp <;> omega,λ _=>hp⟩))) λ _=>f3v ⟨by simp <;> omega,λ _=>hp⟩))))
abbrev Re (n:Nat)(x:U3):Prop:=Sl n x.c∧Sl n x.f
theorem t81 {c:U0}{n:Int}(h:Cu c):An2 (λ β=>k0n β n c) λ x y=>Re 21000 x∧Cu y:=by
 refine f3n ?_
 unfold k0n s1g
 refine f3i (t99 h) λ t y ⟨ht,h⟩=>f3i (t56 (P:=tt) h (rN rfl) (by simp)) λ n3 y ⟨_,h⟩=>f3i (t67 2 h) λ b y h=>g3f (λ _=>f3i (u2u h) λ p y ⟨hp,h⟩=>f3l (m2e (hp.mono (by omega) (by omega))) λ s hs=>f3j ⟨⟨ht,by have:=hs.1; show s.length≤_; omega⟩,h⟩) λ _=>f3j ⟨⟨ht,by simp⟩,h⟩
def wf (y:U5):V:=.agg [.str y.a,.int .i64 y.b,.int .i64 y.c,.str y.d,.int .i64 y.e,.bool y.f,.str y.g]
def wsv (y:U4):V:=.agg [.str y.a,.sl 7 true y.b]
theorem r4 {P:U5→Prop}{l:LV}(h:Rw wf P l){i:Nat}(hi:i < l.length):An (λ _=>ix4 l i) λ y=>P y∧l[i]? = some (wf y):=h.ix (f:=ix4) (λ _ l i y k h=>by unfold ix4; exact g0e (ks:=[.str,.int .i64,.int .i64,.str,.int .i64,.bool,.str]) (e:=(y.a,y.b,y.c,y.d,y.e,y.f,y.g,())) h rfl) hi
theorem r3 {P:U4→Prop}{l:LV}(h:Rw wsv P l){i:Nat}(hi:i < l.length):An (λ _=>ix3 l i) λ y=>P y∧l[i]? = some (wsv y):=h.ix (f:=ix3) (λ _ l i y k h=>by unfold ix3; exact g0e (ks:=[.str,.sl 7 true]) (e:=(y.a,y.b,())) h rfl) hi
abbrev Fi (n:Nat)(y:U5):Prop:=Sl n y.a∧Sl n y.d∧Sl n y.g
abbrev Srv (A:LU→LU→Prop)(m n:Nat)(y:U4):Prop:=Sl n y.a∧y.b.length≤m∧Rw wf (λ f=>Fi n f∧A y.a f.a) y.b
abbrev Svs (A:LU→LU→Prop)(m n:Nat)(l:LV):Prop:=l.length≤m∧Rw wsv (Srv A m n) l
abbrev At {U:Type}(w:U→V)(P:U→Prop)(l:LV)(k:Int):Prop:=k = -1 ∨ ∃ (i:Nat) (y:U),k=i∧l[i]? = some (w y)∧P y
theorem t94 {A:LU→LU→Prop}{l:LV}{s:LU}{m n:Nat}(h:Svs A m n l)(hm:m≤1099511627776):An (λ β=>F94 β l s) (At wsv (λ y=>y.a=s) l):=by
 refine g3e ?_
 unfold F94 P94
 have hl:=h.1
 refine f3l (wh d2a (λ x=>x.1=l∧x.2.1=s∧0≤x.2.2∧x.2.2≤l.length) (λ x=>(l.length - x.2.2).toNat) (Ex:=λ r=>r=(0,[]) ∨ ∃ (i:Nat) (y:U4),r=(1,y0s (i:Int))∧l[i]? = some (wsv y)∧y.a=s) ⟨rfl,rfl,by simp,by simp⟩ λ x ⟨h1,h2,h3,h4⟩=>?_) λ r hr=>?_
 ·rw [h1,h2]
  refine f3u (λ e=>g3b h3 (f3l (r3 h.2 (by omega)) λ y ⟨hy,hg⟩=>g3f (λ e2=>f3p (.inr ⟨x.2.2.toNat,y,by rw [Int.toNat_of_nonneg h3],hg,by simpa using e2⟩)) λ e2=>g3a ⟨rfl,rfl,?_,?_⟩ ?_)) λ e=>f3p (.inl rfl) <;> simp only <;> rw [wi1 (by omega)] <;> omega
 ·rcases hr with rfl | ⟨i,y,rfl,hg,hy⟩
  ·exact f3o (f3v (.inl rfl))
  ·exact f3m (g3g (x:=(i:Int)) rfl (f3v (.inr ⟨i,y,rfl,hg,hy⟩)))
theorem t96 {A:LU→LU→Prop}{v:U4}{s:LU}{m n:Nat}(h:Srv A m n v)(hm:m≤1099511627776):An (λ β=>F96 β v s) (At wf (λ y=>y.a=s) v.b):=by
 refine g3e ?_
 unfold F96 P96
 have hl:=h.2.1
 refine f3l (wh y2g (λ x=>x.1=s∧x.2.2=v∧0≤x.2.1∧x.2.1≤v.b.length) (λ x=>(v.b.length - x.2.1).toNat) (Ex:=λ r=>r=(0,[]) ∨ ∃ (i:Nat) (y:U5),r=(1,y0s (i:Int))∧v.b[i]? = some (wf y)∧y.a=s) ⟨rfl,rfl,by simp,by simp⟩ λ x ⟨h1,h2,h3,h4⟩=>?_) λ r hr=>?_
 ·rw [h1,h2]
  refine f3u (λ e=>g3b h3 (f3l (r4 h.2.2 (by omega)) λ y ⟨hy,hg⟩=>g3f (λ e2=>f3p (.inr ⟨x.2.1.toNat,y,by rw [Int.toNat_of_nonneg h3],hg,by simpa using e2⟩)) λ e2=>g3a ⟨rfl,rfl,?_,?_⟩ ?_)) λ e=>f3p (.inl rfl) <;> simp only <;> rw [wi1 (by omega)] <;> omega
 ·rcases hr with rfl | ⟨i,y,rfl,hg,hy⟩
  ·exact f3o (f3v (.inl rfl))
  ·exact f3m (g3g (x:=(i:Int)) rfl (f3v (.inr ⟨i,y,rfl,hg,hy⟩)))
theorem p1h {s:LU}(z:Int)(hs:Sl 1099511627776 s):An (λ β=>i0b β s z) λ l=>Tx (s.length+1) s.length l∧1≤l.length:=by
 refine g3e ?_
 unfold i0b g2c
 refine f3l (wh y2h (λ x=>x.1=s∧x.2.1=z∧Rw V.str (Sl s.length) x.2.2.1∧x.2.2.1.length≤x.2.2.2.2∧(0≤x.2.2.2.1∧x.2.2.2.1≤x.2.2.2.2∧x.2.2.2.2≤s.length+1)∧(x.2.2.2.2=s.length+1→1≤x.2.2.1.length)) (λ x=>(s.length+1 - x.2.2.2.2).toNat) (Ex:=λ r=>∃ l,r=(0,eS8 l)∧Tx (s.length+1) s.length l∧1≤l.length) ⟨rfl,rfl,Rw.nil,by simp,by simp <;> omega,λ h=>by simp at h; omega⟩ λ x ⟨h1,h2,h3,h4,h5,h6⟩=>?_) λ r ⟨l,hr,hl⟩=>?_
 ·rw [h1,h2]
  refine f3t (λ e=>?_) λ e=>f3p ⟨_,rfl,⟨by omega,h3⟩,h6 (by rw [b0m] at e; omega)⟩
  rw [b0m] at e
  refine f3y (λ b=>x.2.2.2.2=s.length→b=true) (λ b hb=>g3f (λ _=>g3k ⟨h5.1,h5.2.1,e⟩ (g3j (by simp <;> omega) (g3a ⟨rfl,rfl,h3.app (Rw.one (by simp <;> omega)),?_,?_,?_⟩ ?_))) λ e3=>g3a ⟨rfl,rfl,h3,?_,?_,?_⟩ ?_) λ j hj=>g3f (λ _=>hj _ λ _=>rfl) λ e2=>f3l (l0w (by omega) ?_) λ b _=>hj _ λ q=>?_
  all_goals (try simp only)
  all_goals (try rw [wi1 (by omega)])
  all_goals (try simp only [List.length_append,List.length_cons,List.length_nil])
  ·omega
  ·omega
  ·omega
  ·omega
  ·omega
  ·omega
  ·intro q
   rw [hb (by omega)] at e3
   cases e3
  ·omega
  ·rw [b0m] at e2
   simp at e2
   omega
  ·rw [b0m] at e2
   simp at e2
   omega
 ·subst hr
  exact g3g (x:=l) rfl (f3v hl)
theorem Tx.cut {n m:Nat}{l:LV}(h:Tx n m l)(a b:Nat):Tx n m ((l.take a).drop b):=⟨by have:=h.1; simp; omega,(h.2.take a).drop b⟩
theorem Tx.mono {a b n m:Nat}{l:LV}(h:Tx a b l)(h1:a≤n)(h2:b≤m):Tx n m l:=⟨Nat.le_trans h.1 h1,h.2.mono λ y hy=>Nat.le_trans hy h2⟩
theorem v2b {s:LU}(hs:Sl 549755813888 s):An2 (λ β=>t0y β s) λ p b=>Po 4 20 p∧(b=true→Sl 10000 s):=by
 refine f3n ?_
 unfold t0y f2j
 have e0:Po 4 20 ⟨false,[],[],[],[]⟩:=⟨Tx.nil,Tx.nil,Tx.nil,by simp⟩
 have e1:s=[]→Sl 10000 s:=λ h=>by rw [h]; simp
 refine g3f (λ e=>f3j ⟨e0,λ _=>e1 (by simpa using e)⟩) λ e=>?_
 have e:s ≠ []:=by simpa using e
 refine f3l (p1h _ (by omega)) λ l ⟨hl,hl1⟩=>f3t (λ _=>f3j ⟨e0,by simp⟩) λ e3=>?_
 rw [a0t] at e3
 have fin:∀ {q:U2} {b:U2→LU → ∀ c:(Σ β:Type,U2→Bool→Option β),Option c.1},Po 1099511627776 1099511627776 q→Tg (C:=Σ β:Type,U2→Bool→Option β) (T:=λ c=>c.1) (λ c=>l0d c.1 q λ t=>br (!(t == s)) (c.2 ⟨false,[],[],[],[]⟩ false) (c.2 q true)) (λ c (r:U2 × Bool)=>c.2 r.1 r.2) (λ r=>Po 4 20 r.1∧(r.2=true→Sl 10000 s)):=λ {q} _ hq=>f3l (m2e hq) λ t ⟨ht,ht2⟩=>g3f (λ _=>f3j ⟨e0,by simp⟩) λ e4=>by
  have e4:t=s:=by simpa using e4
  subst e4
  exact f3j ⟨ht2 e,λ _=>ht⟩
 have up:∀ {t:LU} {l':LV},Sl s.length t→Tx (t.length+1) t.length l' → ∀ a b,Tx 1099511627776 1099511627776 ((l'.take a).drop b):=λ ht h a b=>(h.cut a b).mono (by omega) (by omega)
 refine f3x (by omega) (f3l (a0 hl.2 (by omega)) λ t1 ⟨h1,_⟩=>f3l (p1h _ (by omega)) λ l1 ⟨k1,k1'⟩=>g3k (by rw [a0t]; omega) (f3x (by omega) (f3l (a0 hl.2 (by omega)) λ t2 ⟨h2,_⟩=>f3l (p1h _ (by omega)) λ l2 ⟨k2,k2'⟩=>g3k (by rw [a0t]; omega) (f3x (by omega) (f3l (a0 hl.2 (by omega)) λ t3 ⟨h3,_⟩=>f3l (p1h _ (by omega)) λ l3 ⟨k3,k3'⟩=>g3k (by rw [a0t]; omega) (f3t (λ e5=>?_) λ _=>?_))))))
 ·rw [a0t] at e5
  refine f3x (by omega) (f3l (a0 hl.2 (by omega)) λ t4 ⟨h4,g4⟩=>f3t (λ e6=>f3x (by omega) (f3l (a0 hl.2 (by omega)) λ t5 ⟨h5,g5⟩=>g3k ?_ ?_)) λ _=>?_)
  ·have:t5=t4:=by
    rw [g5] at g4; simpa using g4
   rw [b0m] at e6 ⊢
   rw [this]; omega
  ·exact fin (b:=λ _ _ _=>none) ⟨up h1 k1 _ _,up h2 k2 _ _,up h3 k3 _ _,by simp; omega⟩
  ·exact fin (b:=λ _ _ _=>none) ⟨up h1 k1 _ _,up h2 k2 _ _,up h3 k3 _ _,by simp⟩
 ·exact fin (b:=λ _ _ _=>none) ⟨up h1 k1 _ _,up h2 k2 _ _,up h3 k3 _ _,by simp⟩
theorem m2j {x:U3}(h:Re 549755813888 x):An (λ β=>o0f β x) λ b=>b=true→Re 10000 x:=by
 refine g3e ?_
 unfold o0f f2e
 exact f3i (v2b h.2) λ p b ⟨_,hb⟩=>f3l (t25 _ _ _) λ _ _=>g3f (λ _=>f3l (t25 _ _ _) λ _ _=>g3f (λ _=>f3t (λ e=>f3l (t25 _ _ _) λ _ _=>g3f (λ _=>f3v λ q=>⟨by rw [b0m] at e; omega,hb q⟩) λ _=>f3v (by simp)) λ _=>f3v (by simp)) λ _=>f3v (by simp)) λ _=>f3v (by simp)
theorem t98 {A:LU→LU→Prop}{v:U4}{m n:Nat}(h:Srv A m n v)(hm:m≤1099511627776)(hn:n≤549755813888):An (λ β=>F98 β v) tt:=by
 refine g3e ?_
 unfold F98 P98
 have hl:=h.2.1
 refine f3l (wh y2i (λ x=>x.2=v∧0≤x.1∧x.1≤v.b.length) (λ x=>(v.b.length - x.1).toNat) (Ex:=λ r=>r=(0,t2k v) ∨ ∃ b,r=(1,d2c (b,v))) ⟨rfl,by simp,by simp⟩ λ x ⟨h1,h2,h3⟩=>?_) λ r hr=>?_
 ·rw [h1]
  refine f3u (λ e=>g3c (f3l (wh y2j (λ z=>z.1=x.1∧z.2.2=v∧0≤z.2.1∧z.2.1≤x.1) (λ z=>(x.1 - z.2.1).toNat) (Ex:=λ r=>r=(0,y1r (x.1,v))∨r=(1,t2l (false,x.1,v))) ⟨rfl,rfl,by simp,by simp; omega⟩ λ z ⟨g1,g2,g3,g4⟩=>?_) λ r hr=>?_) λ j hj=>g3b h2 (f3l (r4 h.2.2 (by omega)) λ y ⟨hy,_⟩=>f3l (f1l (s:=y.a) (by have:=hy.1.1; omega)) λ _ _=>g3f (λ _=>f3p (.inr ⟨_,rfl⟩)) λ _=>g3b h2 (f3l (r4 h.2.2 (by omega)) λ y ⟨hy,_⟩=>f3l (m2j ⟨Nat.le_trans hy.1.2.1 hn,Nat.le_trans hy.1.2.2 hn⟩) λ _ _=>g3f (λ _=>f3p (.inr ⟨_,rfl⟩)) λ _=>hj))) λ e=>f3p (.inl rfl)
  ·rw [g1,g2]
   refine f3t (λ e3=>g3b g3 (f3l (r4 h.2.2 (by omega)) λ y ⟨hy,_⟩=>g3b h2 (f3l (r4 h.2.2 (by omega)) λ y' _=>g3f (λ _=>f3p (.inr rfl)) λ _=>g3a ⟨rfl,rfl,?_,?_⟩ ?_))) λ _=>f3p (.inl rfl) <;> simp only <;> rw [wi1 (by omega)] <;> omega
  ·rcases hr with rfl | rfl
   ·refine f3o (g3g (x:=(x.1,v)) rfl (g3a ⟨rfl,?_,?_⟩ ?_)) <;> simp only <;> rw [wi1 (by omega)] <;> omega
   ·exact f3m (g3g (x:=(false,x.1,v)) rfl (f3p (.inr ⟨_,rfl⟩)))
 ·rcases hr with rfl | ⟨b,rfl⟩
  ·exact f3o (g3g (x:=v) rfl (f3l (f1l (s:=v.a) (by have:=h.1; omega)) λ _ _=>g3f (λ _=>f3v trivial) λ _=>f3v trivial))
  ·exact f3m (g3g (x:=(b,v)) rfl (f3v trivial))
end Go.Am
end
section
set_option linter.unusedVariables false
namespace Go.Am
open Go
theorem r1n {P:U4→Prop}:∀ {l:LV},Rw wsv P l → ∃ ys:List (LU × LV),y0i l=some ys∧l=ys.map (svV 7) ∧ ∀ y∈ys,P ⟨y.1,y.2⟩
 | [],_=>⟨[],rfl,rfl,λ y h=>by cases h⟩
 | v :: l,h=>by
  obtain ⟨y,hy,rfl⟩:=h v (List.mem_cons_self ..)
  obtain ⟨ys,h1,h2,h3⟩:=r1n (l:=l) (λ r hr=>h r (List.mem_cons_of_mem _ hr))
  refine ⟨(y.a,y.b) :: ys,by show (y0i l).map _=_; rw [h1]; rfl,by rw [List.map_cons,← h2]; rfl,λ z hz=>?_⟩
  rcases List.mem_cons.1 hz with rfl | hz
  ·exact hy
  ·exact h3 z hz
theorem r1h {P:U4→Prop}{ys:List (LU × LV)}(h:∀ y∈ys,P ⟨y.1,y.2⟩):Rw wsv P (ys.map (svV 7)):=λ r hr=>by
 obtain ⟨y,hy,rfl⟩:=List.mem_map.1 hr
 exact ⟨⟨y.1,y.2⟩,h y hy,rfl⟩
theorem Srv.mono {A A':LU→LU→Prop}{m m' n:Nat}{y:U4}(h:Srv A m n y)(hA:∀ p,A y.a p→A' y.a p)(hm:m≤m'):Srv A' m' n y:=⟨h.1,Nat.le_trans h.2.1 hm,h.2.2.mono λ f hf=>⟨hf.1,hA _ hf.2⟩⟩
theorem t80 {A:LU→LU→Prop}{l:LV}{a:U6}{x:U3}{m n:Nat}(h:Svs A m n l)(ha:Sl n a.a∧Sl n a.b)(hx:Re n x)(hA:¬ A a.a a.b)(hm:m≤1000)(hn:n≤1000000):An2 (λ β=>F80 β l a x) λ l' b=>Svs (λ h p=>A h p∨(h=a.a∧p=a.b)) (m+1) n l':=by
 obtain ⟨ys,e1,e2,e3⟩:=r1n h.2
 have hl:ys.length≤m:=by have:=h.1; rw [e2] at this; simpa using this
 have eo:l1a ys=true:=by
  unfold l1a
  rw [Bool.and_eq_true,List.all_eq_true]
  refine ⟨by simp; omega,λ y hy=>?_⟩
  have:=(e3 y hy).2.1
  simp at this ⊢; omega
 refine f3n ?_
 unfold F80 b2q
 simp only [e1]
 refine f3s eo (f3l (t94 h (by omega)) λ kk hk=>?_)
 -- the server it goes into
 obtain ⟨s,hs,hs1,hs2,hs3⟩:∃ s,t0g ys kk a.a=some s∧Srv A m n ⟨s.2.2.1,s.2.2.2⟩∧s.2.2.1=a.a∧(∀ y∈s.1,Srv A m n ⟨y.1,y.2⟩)∧s.1.length≤m+1:=by
  rcases hk with rfl | ⟨i,y,rfl,hg,hy⟩
  ·refine ⟨(ys++[(a.a,[])],ys.length,a.a,[]),rfl,⟨ha.1,Nat.zero_le _,Rw.nil⟩,rfl,λ y hy=>?_,by simp; omega⟩
   rcases List.mem_append.1 hy with hy | hy
   ·exact e3 y hy
   ·rw [List.mem_singleton.1 hy]
    exact ⟨ha.1,Nat.zero_le _,Rw.nil⟩
  ·rw [e2,List.getElem?_map] at hg
   obtain ⟨z,hz,hz2⟩:=Option.map_eq_some_iff.1 hg
   simp only [svV,wsv,V.agg.injEq,List.cons.injEq,V.str.injEq] at hz2
   refine ⟨(ys,i,z),?_,e3 z (List.mem_of_getElem? hz),by rw [hz2.1]; exact hy,e3,by show ys.length≤_; omega⟩
   unfold t0g
   rw [if_neg (by omega),Int.toNat_natCast,hz]
   rfl
 simp only [hs]
 refine f3l (t96 (v:=⟨s.2.2.1,s.2.2.2⟩) hs1 (by omega)) λ i hi=>?_
 have hi:i = -1:=by
  rcases hi with hi | ⟨j,f,rfl,hg,hf⟩
  ·exact hi
  ·obtain ⟨f',hf',e⟩:=hs1.2.2 _ (List.mem_of_getElem? hg)
   simp only [wf,V.agg.injEq,List.cons.injEq,V.str.injEq] at e
   have:=hf'.2
   rw [← e.1,hf] at this
   rw [show (⟨s.2.2.1,s.2.2.2⟩:U4).a=a.a from hs2] at this
   exact absurd this hA
 subst hi
 have hnew:Srv (λ h p=>A h p∨(h=a.a∧p=a.b)) (m+1) n ⟨s.2.2.1,s.2.2.2++[.agg [.str a.b,.int .i64 x.a,.int .i64 x.b,.str x.c,.int .i64 x.d,.bool x.e,.str x.f]]⟩:=by
  refine ⟨hs1.1,by have:=hs1.2.1; simp at this ⊢; omega,Rw.app (hs1.2.2.mono λ f hf=>⟨hf.1,.inl hf.2⟩) (Rw.one (w:=wf) (y:=⟨a.b,x.a,x.b,x.c,x.d,x.e,x.f⟩) ⟨⟨ha.2,hx.1,hx.2⟩,.inr ⟨hs2,rfl⟩⟩)⟩
 refine f3s (by omega) (f3l (t98 hnew (by omega) (by omega)) λ b _=>f3j ?_)
 unfold g0j
 split
 ·refine ⟨by simp; omega,r1h λ y hy=>?_⟩
  rcases List.mem_or_eq_of_mem_set hy with hy | rfl
  ·exact (hs3.1 y hy).mono (λ p hp=>.inl hp) (by omega)
  ·exact hnew
 ·exact ⟨by simp; omega,r1h λ y hy=>(e3 y hy).mono (λ p hp=>.inl hp) (by omega)⟩
theorem u0z {α:Type}:∀ {l:List α} {i:Nat} {a:α},l.Nodup→l[i]? = some a→a ∉ l.take i
 | [],_,_,_,h=>by simp at h
 | b :: l,0,a,_,h=>by simp
 | b :: l,i+1,a,hn,h=>by
  simp only [List.getElem?_cons_succ] at h
  rw [List.nodup_cons] at hn
  rw [List.take_succ_cons,List.mem_cons]
  rintro (rfl | h2)
  ·exact hn.1 (List.mem_of_getElem? h)
  ·exact u0z hn.2 h h2
def hs3:List LU:=[[104,111,109,101],[99,100,110],[101,118,105,108]]
def ps3:List LU:=[[97,112,112],[108,105,98],[117,116,105,108]]
def ps5:List LU:=ps3++[[115,116,121,108,101],[108,111,103,111]]
abbrev Sd (i:Nat)(host:LU)(S:List LU)(m:Nat)(l:LV):Prop:=∃ A,Svs A m 21000 l ∧ ∀ h p,A h p→h∈hs3.take i∧p∈ps5∨h=host∧p∈S
theorem Sd.put {i:Nat}{host path:LU}{S:List LU}{m:Nat}{l:LV}{x:U3}(h:Sd i host S m l)(hx:Re 21000 x)(hh:host ∉ hs3.take i)(hp:path ∉ S)(h1:Sl 10 host)(h2:Sl 10 path)(hm:m≤1000):An2 (λ β=>F80 β l ⟨host,path⟩ x) λ l' b=>Sd i host (S++[path]) (m+1) l':=by
 obtain ⟨A,hA,hA2⟩:=h
 obtain ⟨l',b,h3,h4⟩:=t80 (a:=⟨host,path⟩) hA ⟨by show host.length≤_; omega,by show path.length≤_; omega⟩ hx (λ q=>by
  rcases hA2 _ _ q with q | q
  ·exact hh q.1
  ·exact hp q.2) hm (by omega)
 refine ⟨l',b,⟨_,h3,λ h p q=>?_⟩,h4⟩
 rcases q with q | ⟨rfl,rfl⟩
 ·rcases hA2 _ _ q with q | q
  ·exact .inl q
  ·exact .inr ⟨q.1,List.mem_append_left _ q.2⟩
 ·exact .inr ⟨rfl,by simp⟩
theorem Sd.mono {i:Nat}{host:LU}{S S':List LU}{m m':Nat}{l:LV}(h:Sd i host S m l)(hS:∀ p∈S,p∈S')(hm:m≤m'):Sd i host S' m' l:=by
 obtain ⟨A,hA,hA2⟩:=h
 refine ⟨A,⟨by have:=hA.1; omega,hA.2.mono λ y hy=>hy.mono (λ _ q=>q) hm⟩,λ h p q=>?_⟩
 rcases hA2 _ _ q with q | q
 ·exact .inl q
 ·exact .inr ⟨q.1,hS _ q.2⟩
theorem Sd.next {i:Nat}{host host':LU}{S:List LU}{m m':Nat}{l:LV}(h:Sd i host S m l)(hi:hs3[i]? = some host)(hS:∀ p∈S,p∈ps5)(hm:m≤m'):Sd (i+1) host' [] m' l:=by
 obtain ⟨A,hA,hA2⟩:=h
 refine ⟨A,⟨by have:=hA.1; omega,hA.2.mono λ y hy=>hy.mono (λ _ q=>q) hm⟩,λ h p q=>.inl ?_⟩
 rw [List.take_add_one,hi]
 rcases hA2 _ _ q with q | q
 ·exact ⟨List.mem_append_left _ q.1,q.2⟩
 ·exact ⟨List.mem_append_right _ (by simp [q.1]),hS _ q.2⟩
theorem t71 {c:U0}(h:Cu c):An2 (λ β=>r0i β c) λ l y=>Svs (λ _ _=>True) 20 21000 l∧Cu y:=by
 refine f3n ?_
 unfold r0i s1d
 refine f3l (wh de7 (λ x=>x.2.1=hs3.map V.str∧x.2.2.1=3∧(0≤x.2.2.2.1∧x.2.2.2.1≤3)∧(∀ host,Sd x.2.2.2.1.toNat host [] (5 * x.2.2.2.1.toNat) x.1)∧Cu x.2.2.2.2) (λ x=>(3 - x.2.2.2.1).toNat) (Ex:=λ r=>∃ l c,r=(0,eS3 (l,c))∧(∀ host,Sd 3 host [] 15 l)∧Cu c) ⟨rfl,rfl,by simp,λ host=>⟨λ _ _=>False,⟨by simp,Rw.nil⟩,λ _ _ q=>q.elim⟩,h⟩ λ x ⟨h1,h2,h3,h4,h5⟩=>?_) λ r ⟨l,c,hr,hl,hc⟩=>?_
 ·refine f3t (λ e=>?_) λ e=>f3p ⟨_,_,rfl,λ host=>by have:=h4 host; rwa [show x.2.2.2.1.toNat=3 by omega] at this,h5⟩
  have hl3:x.2.1.length=3:=by rw [h1]; rfl
  refine f3x (by omega) (f3l (a0 (P:=Sl 10) (by rw [h1]; exact rS rfl) (by omega)) λ host ⟨hh1,hh2⟩=>?_)
  rw [h1,List.getElem?_map] at hh2
  obtain ⟨h',hh3,e4⟩:=Option.map_eq_some_iff.1 hh2
  injection e4 with e4
  subst e4
  have hh4:h' ∉ hs3.take x.2.2.2.1.toNat:=u0z (by decide) hh3
  generalize hI:x.2.2.2.1.toNat=I at *
  have put2:∀ {path:LU} {S:List LU} {m:Nat} {l:LV} {u:U3},Sd I h' S m l→Re 21000 u→path ∉ S→Sl 10 path→m≤1000→An2 (λ β=>F80 β l ⟨h',path⟩ u) λ l' b=>Sd I h' (S++[path]) (m+1) l':=λ a b c d e=>a.put b hh4 c hh1 d e
  refine f3l (wh y2k (λ z=>z.2.1=h' ∧ z.2.2.1=x.2.1∧z.2.2.2.1=3∧z.2.2.2.2.1=x.2.2.2.1∧z.2.2.2.2.2.1=ps3.map V.str∧z.2.2.2.2.2.2.1=3∧(0≤z.2.2.2.2.2.2.2.1∧z.2.2.2.2.2.2.2.1≤3)∧Sd I h' (ps3.take z.2.2.2.2.2.2.2.1.toNat) (5 * I+z.2.2.2.2.2.2.2.1.toNat) z.1∧Cu z.2.2.2.2.2.2.2.2) (λ z=>(3 - z.2.2.2.2.2.2.2.1).toNat) (Ex:=λ r=>∃ l c,r=(0,eS4 (l,h',x.2.1,3,x.2.2.2.1,c))∧Sd I h' ps3 (5 * I+3) l∧Cu c) ⟨rfl,rfl,h2,rfl,rfl,rfl,by simp,h4 h',h5⟩ λ z ⟨g1,g2,g3,g4,g5,g6,g7,g8,g9⟩=>?_) λ r ⟨l,c,hr,hl,hc⟩=>?_
  ·refine f3t (λ e=>?_) λ e=>f3p ⟨_,_,by rw [g1,g2,g3,g4],by rw [show z.2.2.2.2.2.2.2.1.toNat=3 by omega] at g8; exact g8,g9⟩
   have hp3:z.2.2.2.2.2.1.length=3:=by rw [g5]; rfl
   refine f3x (by omega) (f3l (a0 (P:=Sl 10) (by rw [g5]; exact rS rfl) (by omega)) λ path ⟨p1,p2⟩=>?_)
   rw [g5,List.getElem?_map] at p2
   obtain ⟨p',p3,e4⟩:=Option.map_eq_some_iff.1 p2
   injection e4 with e4
   subst e4
   have p4:p' ∉ ps3.take z.2.2.2.2.2.2.2.1.toNat:=u0z (by decide) p3
   have p5:ps3.take (z.2.2.2.2.2.2.2.1+1).toNat=ps3.take z.2.2.2.2.2.2.2.1.toNat++[p']:=by
    rw [show (z.2.2.2.2.2.2.2.1+1).toNat=z.2.2.2.2.2.2.2.1.toNat+1 by omega,List.take_add_one,p3]; rfl
   rw [g1]
   refine g3i (λ _ c=>Cu c) (λ kind c hc=>f3i (t67 6 hc) λ b y hy=>g3f (λ _=>f3i (t81 hy) λ u y ⟨hu,hy⟩=>f3i (put2 g8 hu p4 p1 (by omega)) λ l' b hl'=>g3a ⟨rfl,g2,g3,g4,g5,g6,?_,?_,hy⟩ ?_) λ _=>g3a ⟨rfl,g2,g3,g4,g5,g6,?_,?_,hy⟩ ?_) λ j hj=>g3f (λ _=>f3i (t67 2 g9) λ b y hy=>g3f (λ _=>hj _ _ hy) λ _=>hj _ _ hy) λ _=>hj _ _ g9
   all_goals (simp only; rw [wi1 (by omega)])
   ·omega
   ·rw [p5]; exact hl'.mono (λ _ q=>q) (by omega)
   ·omega
   ·omega
   ·rw [p5]; exact g8.mono (λ _ q=>List.mem_append_left _ q) (by omega)
   ·omega
  ·subst hr
   have nx:∀ {S:List LU} {l:LV} {m:Nat},Sd I h' S m l→(∀ p∈S,p∈ps5)→m≤5 * I+5 → ∀ host,Sd (wi (x.2.2.2.1+1)).toNat host [] (5 * (wi (x.2.2.2.1+1)).toNat) l:=λ q hS hm host=>by
    rw [wi1 (by omega),show (x.2.2.2.1+1).toNat=I+1 by omega]
    exact q.next hh3 hS (by omega)
   refine g3g (x:=(l,h',x.2.1,3,x.2.2.2.1,c)) rfl (f3i (t67 4 hc) λ b y hy=>g3f (λ _=>f3i (t81 hy) λ u y ⟨hu,hy⟩=>f3i (put2 hl hu (by decide) (by decide) (by omega)) λ l2 b hl2=>f3i (t67 4 hy) λ b y hy=>g3f (λ _=>f3i (t81 hy) λ u y ⟨hu,hy⟩=>f3i (put2 hl2 hu (by decide) (by decide) (by omega)) λ l3 b hl3=>g3a ⟨h1,rfl,?_,nx hl3 (by decide) (by omega),hy⟩ ?_) λ _=>g3a ⟨h1,rfl,?_,nx hl2 (by decide) (by omega),hy⟩ ?_) λ _=>f3i (t67 4 hy) λ b y hy=>g3f (λ _=>f3i (t81 hy) λ u y ⟨hu,hy⟩=>f3i (put2 hl hu (by decide) (by decide) (by omega)) λ l3 b hl3=>g3a ⟨h1,rfl,?_,nx hl3 (by decide) (by omega),hy⟩ ?_) λ _=>g3a ⟨h1,rfl,?_,nx hl (by decide) (by omega),hy⟩ ?_) <;> simp only <;> rw [wi1 (by omega)] <;> omega
 ·subst hr
  refine g3g (x:=(l,c)) rfl (f3i (t81 hc) λ u y ⟨hu,hy⟩=>?_)
  obtain ⟨A,hA,hA2⟩:=hl []
  have n5:∀ {h p:LU},p ∉ ps5 → ¬ A h p:=λ hp q=>by
   rcases hA2 _ _ q with q | q
   ·exact hp q.2
   ·simp at q
  refine f3i (t80 (a:=⟨[104,111,109,101],[105,110,100,101,120]⟩) hA (by decide) hu (n5 (by decide)) (by omega) (by omega)) λ l2 b hl2=>f3i (t81 hy) λ u2 y ⟨hu2,hy⟩=>f3i (t80 (a:=⟨[104,111,109,101],[110,101,120,116]⟩) hl2 (by decide) hu2 (λ q=>q.elim (n5 (by decide)) (λ q=>absurd q.2 (by decide))) (by omega) (by omega)) λ l3 b hl3=>f3j ⟨⟨Nat.le_trans hl3.1 (by omega),hl3.2.mono λ y hy=>hy.mono (λ _ _=>trivial) (by omega)⟩,hy⟩
theorem e2b {a:U6}(h:Sl 1099511627776 a.a∧Sl 1099511627776 a.b):An (λ β=>k0m β a) λ b=>b=true→Sl 8 a.a∧Sl 8 a.b:=by
 refine g3e ?_
 unfold k0m f2k
 exact f3l (f1l h.1) λ _ h1=>g3f (λ e1=>f3l (f1l h.2) λ _ h2=>f3v λ e2=>⟨h1 e1,h2 e2⟩) λ _=>f3v (by simp)
end Go.Am
end
section
set_option linter.unusedVariables false
namespace Go.Am
open Go
theorem r5 {P:U10→Prop}{l:LV}(h:Rw w1 P l){i:Nat}(hi:i < l.length):An (λ _=>ix5 l i) (λ y=>P y∧l[i]? = some (w1 y)):=h.ix (f:=ix5) (λ _ l i y k h=>by unfold ix5; exact g0e (ks:=[.int .i64,.str,.sl 2 true,.str]) (e:=(y.a,y.b,y.c,y.d,())) h rfl) hi
theorem r6 {P:U7→Prop}{l:LV}(h:Rw w0 P l){i:Nat}(hi:i < l.length):An (λ _=>ix6 l i) (λ y=>P y∧l[i]? = some (w0 y)):=h.ix (f:=ix6) (λ _ l i y k h=>by unfold ix6; exact g0e (ks:=[.str,.str,.int .i64,.sl 2 true]) (e:=(y.a,y.b,y.c,y.d,())) h rfl) hi
theorem r7 {P:U6→Prop}{l:LV}(h:Rw w2 P l){i:Nat}(hi:i < l.length):An (λ _=>ix7 l i) (λ y=>P y∧l[i]? = some (w2 y)):=h.ix (f:=ix7) (λ _ l i y k h=>by unfold ix7; exact g0e (ks:=[.str,.str]) (e:=(y.a,y.b,())) h rfl) hi
theorem r8 {P:U11→Prop}{l:LV}(h:Rw w5 P l){i:Nat}(hi:i < l.length):An (λ _=>ix8 l i) (λ y=>P y∧l[i]? = some (w5 y)):=h.ix (f:=ix8) (λ _ l i y k h=>by unfold ix8; exact g0e (ks:=[.int .i64,.str,.str,.str,.int .i64,.bool,.int .i64,.str]) (e:=(y.a,y.b,y.c,y.d,y.e,y.f,y.g,y.h,())) h rfl) hi
theorem r12 {P:U15→Prop}{l:LV}(h:Rw w6 P l){i:Nat}(hi:i < l.length):An (λ _=>q0a l i) (λ y=>P y∧l[i]? = some (w6 y)):=h.ix (f:=q0a) (λ _ l i y k h=>by unfold q0a; exact g0e (ks:=[.str,.str,.bool,.int .i64,.str]) (e:=(y.a,y.b,y.c,y.d,y.e,())) h rfl) hi
abbrev Ls {U:Type}(n:Nat)(w:U→V)(P:U→Prop)(l:LV):Prop:=l.length≤n∧Rw w P l
abbrev Pr (n:Nat)(y:U6):Prop:=Sl n y.a∧Sl n y.b
abbrev Tk (n:Nat)(y:U10):Prop:=Sl n y.b∧Ls n w2 (Pr n) y.c∧Sl n y.d
abbrev Nd (n:Nat)(y:U7):Prop:=Sl n y.a∧Sl n y.b∧Ls n w2 (Pr n) y.d
abbrev Sr (n:Nat)(y:U11):Prop:=Sl n y.b∧Sl n y.c∧Sl n y.d∧Sl n y.h
abbrev Md (n:Nat)(y:U15):Prop:=Sl n y.a∧Sl n y.b∧Sl 10000 y.e
abbrev Bi (n:Nat)(b:U8):Prop:=Ls 40 w0 (Nd n) b.a∧Ls n wn tt b.b
def Uns (seen:LV)(r:V):Prop:=∃ m:U15,r=w6 m∧w2 ⟨m.a,m.b⟩ ∉ seen
open Classical in
noncomputable def v1f (seen:LV)(r:V):Bool:=decide (Uns seen r)
theorem r0c {s:LV}{r:V}(h:Uns s r):v1f s r=true:=by unfold v1f; simp only [decide_eq_true_eq]; exact h
theorem y0n {s:LV}{r:V}(h:¬ Uns s r):v1f s r=false:=by unfold v1f; simp only [decide_eq_false_iff_not]; exact h
noncomputable def muL (l seen:LV):Nat:=(l.filter (v1f seen)).length
theorem r1g {l s s':LV}(h:∀ r∈s,r∈s'):muL l s' ≤ muL l s:=by
 unfold muL
 induction l with
 | nil=>simp
 | cons x l ih=>
  simp only [List.filter_cons]
  by_cases c:Uns s' x
  ·have c2:Uns s x:=by
    obtain ⟨m,h1,h2⟩:=c
    exact ⟨m,h1,λ q=>h2 (h _ q)⟩
   rw [if_pos (r0c c),if_pos (r0c c2)]
   simp; exact ih
  ·rw [if_neg (by rw [y0n c]; simp)]
   split
   ·simp; omega
   ·exact ih
theorem j1m (a b s:LV):muL (a++b) s=muL a s+muL b s:=by unfold muL; rw [List.filter_append,List.length_append]
theorem t1z (x:V)(s:LV):muL [x] s≤1:=by unfold muL; simp only [List.filter_cons,List.filter_nil]; split <;> simp
structure Pg (n:Nat) (p:U9):Prop where
  ad:Pr n ⟨p.a,p.b⟩
  po:Po n n ⟨p.c,p.d,p.e,p.f,p.g⟩
  tok:Sl n p.h
  qu:Ls n w1 (Tk n) p.i
  bu:Bi n ⟨p.k,p.l⟩
  sl:Ls n w5 (Sr n) p.m
  mo:Ls n w6 (Md n) p.n
  en:Ls n w2 (Pr n) p.o
  ra:p.t.length+muL p.n p.t≤n∧Rw w2 (Pr n) p.t
  lo:Tx n n p.u
section
variable {n m:Nat}(h:n≤m)
include h
theorem Ls.up {U:Type}{w:U→V}{P P':U→Prop}{l:LV}(hl:Ls n w P l)(hp:∀ y,P y→P' y):Ls m w P' l:=⟨Nat.le_trans hl.1 h,hl.2.mono hp⟩
theorem Sl.up {s:LU}(hs:Sl n s):Sl m s:=Nat.le_trans hs h
theorem Pr.up {y:U6}(hy:Pr n y):Pr m y:=⟨Sl.up h hy.1,Sl.up h hy.2⟩
theorem Tk.up {y:U10}(hy:Tk n y):Tk m y:=⟨Sl.up h hy.1,Ls.up h hy.2.1 λ _=>Pr.up h,Sl.up h hy.2.2⟩
theorem Nd.up {y:U7}(hy:Nd n y):Nd m y:=⟨Sl.up h hy.1,Sl.up h hy.2.1,Ls.up h hy.2.2 λ _=>Pr.up h⟩
theorem Sr.up {y:U11}(hy:Sr n y):Sr m y:=⟨Sl.up h hy.1,Sl.up h hy.2.1,Sl.up h hy.2.2.1,Sl.up h hy.2.2.2⟩
theorem Md.up {y:U15}(hy:Md n y):Md m y:=⟨Sl.up h hy.1,Sl.up h hy.2.1,hy.2.2⟩
theorem Bi.up {y:U8}(hy:Bi n y):Bi m y:=⟨⟨hy.1.1,hy.1.2.mono λ _=>Nd.up h⟩,Ls.up h hy.2 λ _ q=>q⟩
theorem Pg.up {p:U9}(hp:Pg n p):Pg m p:=⟨Pr.up h hp.ad,hp.po.mono h h,Sl.up h hp.tok,Ls.up h hp.qu λ _=>Tk.up h,Bi.up h hp.bu,Ls.up h hp.sl λ _=>Sr.up h,Ls.up h hp.mo λ _=>Md.up h,Ls.up h hp.en λ _=>Pr.up h,⟨Nat.le_trans hp.ra.1 h,hp.ra.2.mono λ _=>Pr.up h⟩,hp.lo.mono h h⟩
end
theorem Ls.nil {U:Type}{n:Nat}{w:U→V}{P:U→Prop}:Ls n w P []:=⟨Nat.zero_le _,Rw.nil⟩
theorem cab {l:LV}{n k:Nat}(h:l.length≤1099511627776)(hk:k≤100):(([]:LV).length+l.length) * k≤140737488355328∧([]:LV).length+l.length≤140737488355328:=by
 have:=Nat.mul_le_mul h hk
 simp only [List.length_nil,Nat.zero_add]
 omega
theorem t59 {p:U2}{n:Nat}(h:Po n n p)(hn:n≤1099511627776):An (λ β=>F59 β p) λ r=>r=p:=by
 refine g3e ?_
 unfold F59 P59
 exact g3j (cab (n:=0) (by have:=h.1.1; omega) (by omega)) (g3j (cab (n:=0) (by have:=h.2.1.1; omega) (by omega)) (g3j (cab (n:=0) (by have:=h.2.2.1.1; omega) (by omega)) (f3v (by simp))))
theorem t70 {l:LV}(h:l.length≤1099511627776):An (λ β=>F70 β l) λ r=>r=l:=by
 refine g3e ?_
 unfold F70 P70
 exact g3j (cab (n:=0) h (by omega)) (f3v (by simp))
theorem take1 {l:LV}{i:Int}{v:V}(h0:0≤i)(h:l[i.toNat]? = some v):l.take (i+1).toNat=l.take i.toNat++[v]:=by
 rw [show (i+1).toNat=i.toNat+1 by omega,List.take_add_one,h]; rfl
theorem ca1 {a:LV}{v:V}{k:Nat}(h:a.length≤1099511627776)(hk:k≤100):(a.length+[v].length) * k≤140737488355328∧a.length+[v].length≤140737488355328:=by
 have:=Nat.mul_le_mul (show a.length+1≤1099511627777 by omega) hk
 simp only [List.length_cons,List.length_nil,Nat.zero_add]
 omega
theorem wit {n:Int}(h:0≤n)(h2:n≤1099511627776):(wi (n+1)).toNat=(n+1).toNat:=by rw [wi1 (by omega)]
theorem t60 {l:LV}{n:Nat}(h:Ls n w1 (Tk n) l)(hn:n≤1099511627776):An (λ β=>F60 β l) λ r=>r=l:=by
 refine g3e ?_
 unfold F60 P60
 have hl:=h.1
 refine f3l (wh i2f (λ x=>x.1=l∧x.2.1=l.take x.2.2.toNat∧0≤x.2.2∧x.2.2≤l.length) (λ x=>(l.length - x.2.2).toNat) (Ex:=λ r=>r=(0,eS8 l)) ⟨rfl,by simp,by simp,by simp⟩ λ x ⟨h1,h2,h3,h4⟩=>?_) λ r hr=>?_
 ·rw [h1,h2]
  refine f3u (λ e=>g3b h3 (f3l (r5 h.2 (by omega)) λ y ⟨hy,hg⟩=>g3b h3 (f3l (r5 h.2 (by omega)) λ y' ⟨hy',hg'⟩=>f3l (t70 (Nat.le_trans hy'.2.1.1 hn)) λ a ha=>g3j (ca1 (by rw [List.length_take]; omega) (by omega)) (g3a ⟨rfl,?_,?_,?_⟩ ?_)))) λ e=>f3p (by rw [List.take_of_length_le (by omega)])
  ·have e3:w1 {y with c:=a} = w1 y:=by
    rw [hg] at hg'
    injection hg' with hg'
    simp only [w1,V.agg.injEq,List.cons.injEq,V.sl.injEq] at hg'
    subst ha
    simp only [w1,hg'.2.2.1.2.2]
   simp only
   rw [wit h3 (by omega),take1 h3 hg,e3]
  ·simp only; rw [wi1 (by omega)]; omega
  ·simp only; rw [wi1 (by omega)]; omega
  ·simp only; rw [wi1 (by omega)]; omega
 ·subst hr
  exact g3g (x:=l) rfl (f3v rfl)
theorem t61 {b:U8}{n:Nat}(h:Bi n b)(hn:n≤1099511627776):An (λ β=>F61 β b) λ r=>r=b:=by
 refine g3e ?_
 unfold F61 P61
 have hl:=h.1.1
 refine g3j (cab (n:=0) (by have:=h.2.1; omega) (by omega)) (f3l (wh y2l (λ x=>x.2.1=b∧x.2.2=⟨b.a.take x.1.toNat,b.b⟩∧0≤x.1∧x.1≤b.a.length) (λ x=>(b.a.length - x.1).toNat) (Ex:=λ r=>r=(0,w1m b)) ⟨rfl,by simp,by simp,by simp⟩ λ x ⟨h1,h2,h3,h4⟩=>?_) λ r hr=>?_)
 ·rw [h1,h2]
  refine f3u (λ e=>g3b h3 (f3l (r6 h.1.2 (by omega)) λ y ⟨hy,hg⟩=>g3b h3 (f3l (r6 h.1.2 (by omega)) λ y' ⟨hy',hg'⟩=>f3l (t70 (Nat.le_trans hy'.2.2.1 hn)) λ a ha=>g3j (ca1 (by rw [List.length_take]; omega) (by omega)) (g3a ⟨rfl,?_,?_,?_⟩ ?_)))) λ e=>f3p (by rw [List.take_of_length_le (by omega)])
  ·have e3:w0 {y with d:=a} = w0 y:=by
    rw [hg] at hg'
    injection hg' with hg'
    simp only [w0,V.agg.injEq,List.cons.injEq,V.sl.injEq] at hg'
    subst ha
    simp only [w0,hg'.2.2.2.1.2.2]
   simp only
   rw [wit h3 (by omega),take1 h3 hg,e3]
  ·simp only; rw [wi1 (by omega)]; omega
  ·simp only; rw [wi1 (by omega)]; omega
  ·simp only; rw [wi1 (by omega)]; omega
 ·subst hr
  exact g3g (x:=b) rfl (f3v rfl)
theorem t45 {p:U9}{n:Nat}(h:Pg n p)(hn:n≤1099511627776):An (λ β=>F45 β p) λ r=>r=p:=by
 refine g3e ?_
 unfold F45 P45
 have h1:=h.sl.1
 have h2:=h.mo.1
 have h3:=h.en.1
 have h4:=h.ra.1
 have h5:=h.lo.1
 refine f3l (t59 h.po hn) λ a ha=>f3l (t60 h.qu hn) λ q hq=>f3l (t61 h.bu hn) λ b hb=>g3j (cab (n:=0) (by omega) (by omega)) (g3j (cab (n:=0) (by omega) (by omega)) (g3j (cab (n:=0) (by omega) (by omega)) (g3j (cab (n:=0) (by omega) (by omega)) (g3j (cab (n:=0) (by omega) (by omega)) (f3v ?_)))))
 rw [ha,hq,hb]
 simp
end Go.Am
end

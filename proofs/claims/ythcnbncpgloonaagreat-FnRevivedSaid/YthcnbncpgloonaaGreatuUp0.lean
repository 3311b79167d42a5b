/-
  Functions of the program over structures, extracted by program (symu.py) out of their code: what each computes, and, by the kernel's reckoning, that the machine's looking form computes just that; so what the machine answers.
-/
import Derived.Test.YthcnbncpgloonaaGreatuAmSize
import Derived.KernelRfl
import Derived.Test.YthcnbncpgloonaaGreatuAmCfg
section
set_option linter.unusedVariables false
set_option linter.unusedSimpArgs false
namespace Go.Am
open Go
abbrev LU:=List UInt8
abbrev LV:=List V
abbrev LL:=List Leaf
abbrev WT:Type 1:=(β:Type)→List V→(V→Option β)→Option β
def WU (z:List V)(G:(β:Type)→LL→(V→Option β)→Option β):WT:=λ β args k=>if V.sames (V.sks args) z=true then G β (V.lvs args) k else none
theorem s1u (vs:List V):(V.bds (V.lvs vs) (V.sks vs) 0).1=vs:=by
 have h:=s1t (.tup vs) [] []
 simp only [V.bd,V.lv,V.sk,List.nil_append,List.append_nil,List.length_nil,Prod.mk.injEq,V.tup.injEq] at h
 exact h.1
theorem y0v {z:List V}{G:(β:Type)→LL→(V→Option β)→Option β}{β:Type}{args:List V}{k:V→Option β}{r:β}(h:WU z G β args k=some r):(V.bds (V.lvs args) z 0).1=args∧G β (V.lvs args) k=some r∧V.sks args=z:=by
 unfold WU at h
 split at h
 ·rename_i e
  have e:=c1u e
  rw [← e]
  exact ⟨s1u args,h,rfl⟩
 ·cases h
theorem i1t {args z:List V}(h:V.sks args=z)(hz:g0r z=none):g0r args=none:=by
 subst h
 cases args with
 | nil=>rfl
 | cons v vs=>
  cases v with
  | ptr d o=>
   cases d <;> cases o <;> first | rfl | (simp [V.sks,V.sk,g0r] at hz)
  | _=>rfl
theorem a0b {P:Program}{c:Cfg}{ext:Nat→List V→Option V}{f:Nat}{fn:Func}{l:List (Nat × WT)}{X:a0y}{z:List V}{G:(β:Type)→LL→(V→Option β)→Option β}(hf:P.funcs[f]? = some fn)
  (hl:∀ β,g0w (den P c ext) (v0w l β)) (hk:∀ (β:Type) (ls:LL) (k:V→Option β),fnK c (v0w l) X f fn β (V.bds ls z 0).1 k=G β ls k) (hz:g0r z=none:=by exact rfl) (he:∀ args,ext f args=none:=by exact λ _=>rfl) (hnm:(fn.name == "runtime.NumGoroutine")=false:=by exact rfl):a0l (den P c ext) f (WU z G):=
 j2d (l:=l) (X:=X) he hf hnm hl (λ β args k r h=>by
  obtain ⟨h1,h2,h3⟩:=y0v h
  have:=hk β (V.lvs args) k
  rw [h1,h2] at this
  exact ⟨this,i1t h3 hz⟩)
theorem a0x {P:Program}{c:Cfg}{ext:Nat→List V→Option V}{f:Nat}{s:Io}{fn:Func}{l:List (Nat × WT)}{X:a0y}{z:List V}{G:(β:Type)→LL→(V→Option β)→Option β}(hf:P.funcs[f]? = some fn)
  (hl:∀ β,g0w (den P c ext) (v0w l β)) (hk:∀ (β:Type) (ls:LL) (k:V→Option β),i1e c (v0w l) X f s fn β (V.bds ls z 0).1 k=G β ls k) (hs:c.io f=some s:=by kernel_rfl) (hnm:(fn.name == "runtime.NumGoroutine")=false:=by exact rfl):a0l (den P c ext) f (ioW (WU z G)):=
 t1l (s:=s) l X hs hf hnm hl (λ β args k r h=>by
  obtain ⟨h1,h2,h3⟩:=y0v h
  have:=hk β (V.lvs args) k
  rw [h1,h2] at this
  exact this)
theorem h1p {D:Nat→List V→Option V}{f:Nat}{w:WT}{z:List V}{G:(β:Type)→LL→(V→Option β)→Option β}(h:∀ β ls k,w β (V.bds ls z 0).1 k=G β ls k)(hw:a0l D f w):a0l D f (WU z G):=λ β args k r e=>by
 obtain ⟨h1,h2,_⟩:=y0v e
 have:=h β (V.lvs args) k
 rw [h1] at this
 exact hw β args k r (this.trans h2)
theorem p0r {D:Nat→List V→Option V}{f:Nat}{w:WT}{sh:List (Bool × List CK)}{G:(β:Type)→u0h sh→(V→Option β)→Option β}(h:∀ β e k,G β e k=w β (p0e sh e) k)(hw:a0l D f w):a0l D f (wrap sh G):=λ β args k r e=>by
 unfold wrap at e
 split at e
 ·rename_i x hx
  rw [h,b1p hx] at e
  exact hw β args k r e
 ·cases e
abbrev GT:Type 1:=(β:Type)→LL→(V→Option β)→Option β
abbrev LR:=Option (LL ⊕ (Nat × LL))
section
variable {α:Type}
noncomputable def whl {σ:Type}(D:LL→σ)(step:σ→LR)(s:LL)(k:Nat × LL→Option α):Option α:=t0w (λ s=>step (D s)) s k
def wx {σ:Type}(D:LL→σ)(s:LL)(k:σ→Option α):Option α:=k (D s)
def jt0 (x:Option α)(f:Option α→Option α):Option α:=f x
def jt1 {A:Type}(x:A→Option α)(f:(A→Option α)→Option α):Option α:=f x
def jt2 {A B:Type}(x:A→B→Option α)(f:(A→B→Option α)→Option α):Option α:=f x
def nS (s:LU):Int:=(s.length:Int)
def nL (l:LV):Int:=(l.length:Int)
def wi (n:Int):Int:=IntKind.wrap .i64 n
def wr (k:IntKind)(n:Int):Int:=IntKind.wrap k n
def c0 (n:Int)(x:Option α):Option α:=chk (0≤n) x
def ci (n:Int)(l:LV)(x:Option α):Option α:=chk (0≤n∧n.toNat < l.length) x
def cc (a b n:Int)(x:Option α):Option α:=chk (0≤a∧a≤b∧b≤n) x
def cs (a b:LU)(x:Option α):Option α:=chk (a.length+b.length≤9223372036854775807) x
def ca (a b:LV)(n:Nat)(x:Option α):Option α:=chk ((a.length+b.length) * n≤140737488355328∧a.length+b.length≤140737488355328) x
end
end Go.Am
end
section
set_option maxRecDepth 10000
set_option linter.unusedVariables false
namespace Go.Am
open Go Go.Proofs
noncomputable section
abbrev KU (tab:List (Nat × WT))(X:a0y)(f:Nat)(fn:Func)(z:List V)(G:GT):Prop:=∀ (β:Type) (ls:LL) (k:V→Option β),fnK cfg (v0w tab) X f fn β (V.bds ls z 0).1 k=G β ls k
abbrev KI (tab:List (Nat × WT))(X:a0y)(f:Nat)(s:Io)(fn:Func)(z:List V)(G:GT):Prop:=∀ (β:Type) (ls:LL) (k:V→Option β),i1e cfg (v0w tab) X f s fn β (V.bds ls z 0).1 k=G β ls k
theorem tn {D:Nat→List V→Option V}:∀ β,g0w D (v0w [] β):=p1i
theorem tc {D:Nat→List V→Option V}{f:Nat}{w:WT}{l:List (Nat × WT)}(hf:a0l D f w)(hl:∀ β,g0w D (v0w l β)):∀ β,g0w D (v0w ((f,w) :: l) β):=l1b hf hl
structure U0 where
  a:LV
  b:Int
  c:Int
def rd0 (s:LL)(n:Nat):U0:=⟨lL s n,lI s (n+1),lI s (n+2)⟩
def ls0 (y:U0):LL:=[.l y.a,.i y.b,.i y.c]
structure U1 where
  a:LV
  b:Int
def rd1 (s:LL)(n:Nat):U1:=⟨lL s n,lI s (n+1)⟩
def ls1 (y:U1):LL:=[.l y.a,.i y.b]
structure U2 where
  a:Bool
  b:LV
  c:LV
  d:LV
  e:LU
def rd2 (s:LL)(n:Nat):U2:=⟨lB s n,lL s (n+1),lL s (n+2),lL s (n+3),lS s (n+4)⟩
structure U3 where
  a:Int
  b:Int
  c:LU
  d:Int
  e:Bool
  f:LU
def rd3 (s:LL)(n:Nat):U3:=⟨lI s n,lI s (n+1),lS s (n+2),lI s (n+3),lB s (n+4),lS s (n+5)⟩
def ls3 (y:U3):LL:=[.i y.a,.i y.b,.s y.c,.i y.d,.b y.e,.s y.f]
structure U4 where
  a:LU
  b:LV
def rd4 (s:LL)(n:Nat):U4:=⟨lS s n,lL s (n+1)⟩
def ls4 (y:U4):LL:=[.s y.a,.l y.b]
structure U5 where
  a:LU
  b:Int
  c:Int
  d:LU
  e:Int
  f:Bool
  g:LU
structure U6 where
  a:LU
  b:LU
def rd6 (s:LL)(n:Nat):U6:=⟨lS s n,lS s (n+1)⟩
def ls6 (y:U6):LL:=[.s y.a,.s y.b]
structure U7 where
  a:LU
  b:LU
  c:Int
  d:LV
def rd7 (s:LL)(n:Nat):U7:=⟨lS s n,lS s (n+1),lI s (n+2),lL s (n+3)⟩
structure U8 where
  a:LV
  b:LV
def rd8 (s:LL)(n:Nat):U8:=⟨lL s n,lL s (n+1)⟩
def ls8 (y:U8):LL:=[.l y.a,.l y.b]
structure U9 where
  a:LU
  b:LU
  c:Bool
  d:LV
  e:LV
  f:LV
  g:LU
  h:LU
  i:LV
  j:Bool
  k:LV
  l:LV
  m:LV
  n:LV
  o:LV
  p:Int
  q:Int
  r:Int
  s:Int
  t:LV
  u:LV
  v:Bool
def rd9 (s:LL)(n:Nat):U9:=⟨lS s n,lS s (n+1),lB s (n+2),lL s (n+3),lL s (n+4),lL s (n+5),lS s (n+6),lS s (n+7),lL s (n+8),lB s (n+9),lL s (n+10),lL s (n+11),lL s (n+12),lL s (n+13),lL s (n+14),lI s (n+15),lI s (n+16),lI s (n+17),lI s (n+18),lL s (n+19),lL s (n+20),lB s (n+21)⟩
def ls9 (y:U9):LL:=[.s y.a,.s y.b,.b y.c,.l y.d,.l y.e,.l y.f,.s y.g,.s y.h,.l y.i,.b y.j,.l y.k,.l y.l,.l y.m,.l y.n,.l y.o,.i y.p,.i y.q,.i y.r,.i y.s,.l y.t,.l y.u,.b y.v]
structure U10 where
  a:Int
  b:LU
  c:LV
  d:LU
def r1l (s:LL)(n:Nat):U10:=⟨lI s n,lS s (n+1),lL s (n+2),lS s (n+3)⟩
def k2a (y:U10):LL:=[.i y.a,.s y.b,.l y.c,.s y.d]
structure U11 where
  a:Int
  b:LU
  c:LU
  d:LU
  e:Int
  f:Bool
  g:Int
  h:LU
structure U12 where
  a:Int
  b:LU
def d2v (s:LL)(n:Nat):U12:=⟨lI s n,lS s (n+1)⟩
def k2b (y:U12):LL:=[.i y.a,.s y.b]
structure U13 where
  a:LU
  b:Int
structure U14 where
  a:Int
  b:LU
  c:LU
  d:LU
  e:LU
def d2w (s:LL)(n:Nat):U14:=⟨lI s n,lS s (n+1),lS s (n+2),lS s (n+3),lS s (n+4)⟩
structure U15 where
  a:LU
  b:LU
  c:Bool
  d:Int
  e:LU
structure U16 where
  a:LU
  b:LU
  c:LU
  d:LU
  e:Bool
  f:LV
  g:LV
  h:LV
  i:LU
  j:LU
  k:LV
  l:Bool
  m:LV
  n:LV
  o:LV
  p:LV
  q:LV
  r:Int
  s:Int
  t:Int
  u:Int
  v:LV
  w:LV
  x:Bool
  y:Bool
def u2r (s:LL)(n:Nat):U16:=⟨lS s n,lS s (n+1),lS s (n+2),lS s (n+3),lB s (n+4),lL s (n+5),lL s (n+6),lL s (n+7),lS s (n+8),lS s (n+9),lL s (n+10),lB s (n+11),lL s (n+12),lL s (n+13),lL s (n+14),lL s (n+15),lL s (n+16),lI s (n+17),lI s (n+18),lI s (n+19),lI s (n+20),lL s (n+21),lL s (n+22),lB s (n+23),lB s (n+24)⟩
abbrev tS0:=LV × Int
def dS0 (s:LL):tS0:=(lL s 0,lI s 1)
def eS0 (x:tS0):LL:=[.l x.1,.i x.2]
theorem de0 (x:tS0):dS0 (eS0 x)=x:=rfl
abbrev tS1:=LV × Int × Int
def dS1 (s:LL):tS1:=(lL s 0,lI s 1,lI s 2)
def eS1 (x:tS1):LL:=[.l x.1,.i x.2.1,.i x.2.2]
theorem de1 (x:tS1):dS1 (eS1 x)=x:=rfl
abbrev tS2:=Int × U1 × U0
def dS2 (s:LL):tS2:=(lI s 0,rd1 s 1,rd0 s 3)
def eS2 (x:tS2):LL:=[.i x.1]++ls1 x.2.1++ls0 x.2.2
abbrev tS3:=LV × U0
def dS3 (s:LL):tS3:=(lL s 0,rd0 s 1)
def eS3 (x:tS3):LL:=[.l x.1]++ls0 x.2
abbrev tS4:=LV × LU × LV × Int × Int × U0
def dS4 (s:LL):tS4:=(lL s 0,lS s 1,lL s 2,lI s 3,lI s 4,rd0 s 5)
def eS4 (x:tS4):LL:=[.l x.1,.s x.2.1,.l x.2.2.1,.i x.2.2.2.1,.i x.2.2.2.2.1]++ls0 x.2.2.2.2.2
abbrev tS5:=LU × U0
def dS5 (s:LL):tS5:=(lS s 0,rd0 s 1)
def eS5 (x:tS5):LL:=[.s x.1]++ls0 x.2
abbrev tS6:=LU × Int × U0
def dS6 (s:LL):tS6:=(lS s 0,lI s 1,rd0 s 2)
def eS6 (x:tS6):LL:=[.s x.1,.i x.2.1]++ls0 x.2.2
theorem de6 (x:tS6):dS6 (eS6 x)=x:=rfl
abbrev tS7:=LV × LV × Int × Int × U0
def dS7 (s:LL):tS7:=(lL s 0,lL s 1,lI s 2,lI s 3,rd0 s 4)
def eS7 (x:tS7):LL:=[.l x.1,.l x.2.1,.i x.2.2.1,.i x.2.2.2.1]++ls0 x.2.2.2.2
theorem de7 (x:tS7):dS7 (eS7 x)=x:=rfl
abbrev tS8:=LV
def dS8 (s:LL):tS8:=lL s 0
def eS8 (x:tS8):LL:=[.l x]
abbrev tS9:=LU
def dS9 (s:LL):tS9:=lS s 0
def eS9 (x:tS9):LL:=[.s x]
abbrev v2i:=LU × Bool
def h2x (s:LL):v2i:=(lS s 0,lB s 1)
def z0h (x:v2i):LL:=[.s x.1,.b x.2]
abbrev m2u:=LU × Int
def y1q (s:LL):m2u:=(lS s 0,lI s 1)
def s0k (x:m2u):LL:=[.s x.1,.i x.2]
theorem t2d (x:m2u):y1q (s0k x)=x:=rfl
abbrev v2j:=LV × Bool
def r2w (s:LL):v2j:=(lL s 0,lB s 1)
def i2g (x:v2j):LL:=[.l x.1,.b x.2]
abbrev m2v:=LU × LV × Int
def r2x (s:LL):m2v:=(lS s 0,lL s 1,lI s 2)
def i2h (x:m2v):LL:=[.s x.1,.l x.2.1,.i x.2.2]
theorem y2f (x:m2v):r2x (i2h x)=x:=rfl
abbrev v2k:=Int
def q1w (s:LL):v2k:=lI s 0
def y0s (x:v2k):LL:=[.i x]
abbrev m2w:=LV × LU × Int
def w1j (s:LL):m2w:=(lL s 0,lS s 1,lI s 2)
def h1x (x:m2w):LL:=[.l x.1,.s x.2.1,.i x.2.2]
theorem d2a (x:m2w):w1j (h1x x)=x:=rfl
abbrev m2x:=LU × Int × U4
def r2y (s:LL):m2x:=(lS s 0,lI s 1,rd4 s 2)
def i2i (x:m2x):LL:=[.s x.1,.i x.2.1]++ls4 x.2.2
theorem y2g (x:m2x):r2y (i2i x)=x:=rfl
abbrev v2l:=U4
def x2n (s:LL):v2l:=rd4 s 0
def t2k (x:v2l):LL:=ls4 x
abbrev m2y:=LU × Int × LV × Int × Int
def r2z (s:LL):m2y:=(lS s 0,lI s 1,lL s 2,lI s 3,lI s 4)
def d2b (x:m2y):LL:=[.s x.1,.i x.2.1,.l x.2.2.1,.i x.2.2.2.1,.i x.2.2.2.2]
theorem y2h (x:m2y):r2z (d2b x)=x:=rfl
abbrev m2z:=Int × U4
def h2y (s:LL):m2z:=(lI s 0,rd4 s 1)
def y1r (x:m2z):LL:=[.i x.1]++ls4 x.2
theorem y2i (x:m2z):h2y (y1r x)=x:=rfl
abbrev v2m:=Bool × Int × U4
def x2o (s:LL):v2m:=(lB s 0,lI s 1,rd4 s 2)
def t2l (x:v2m):LL:=[.b x.1,.i x.2.1]++ls4 x.2.2
abbrev n2a:=Int × Int × U4
def s2a (s:LL):n2a:=(lI s 0,lI s 1,rd4 s 2)
def i2j (x:n2a):LL:=[.i x.1,.i x.2.1]++ls4 x.2.2
theorem y2j (x:n2a):s2a (i2j x)=x:=rfl
abbrev v2n:=Bool × U4
def x2p (s:LL):v2n:=(lB s 0,rd4 s 1)
def d2c (x:v2n):LL:=[.b x.1]++ls4 x.2
abbrev n2b:=LV × LU × LV × Int × Int × LV × Int × Int × U0
def s2b (s:LL):n2b:=(lL s 0,lS s 1,lL s 2,lI s 3,lI s 4,lL s 5,lI s 6,lI s 7,rd0 s 8)
def d2d (x:n2b):LL:=[.l x.1,.s x.2.1,.l x.2.2.1,.i x.2.2.2.1,.i x.2.2.2.2.1,.l x.2.2.2.2.2.1,.i x.2.2.2.2.2.2.1,.i x.2.2.2.2.2.2.2.1]++ls0 x.2.2.2.2.2.2.2.2
theorem y2k (x:n2b):s2b (d2d x)=x:=rfl
abbrev n2c:=LV × LV × Int
def c2v (s:LL):n2c:=(lL s 0,lL s 1,lI s 2)
def t1c (x:n2c):LL:=[.l x.1,.l x.2.1,.i x.2.2]
theorem i2f (x:n2c):c2v (t1c x)=x:=rfl
abbrev v2o:=U8
def h2z (s:LL):v2o:=rd8 s 0
def w1m (x:v2o):LL:=ls8 x
abbrev n2d:=Int × U8 × U8
def s2c (s:LL):n2d:=(lI s 0,rd8 s 1,rd8 s 3)
def i2k (x:n2d):LL:=[.i x.1]++ls8 x.2.1++ls8 x.2.2
theorem y2l (x:n2d):s2c (i2k x)=x:=rfl
abbrev n2e:=LU × Int × Int
def i2a (s:LL):n2e:=(lS s 0,lI s 1,lI s 2)
def y1s (x:n2e):LL:=[.s x.1,.i x.2.1,.i x.2.2]
theorem t2e (x:n2e):i2a (y1s x)=x:=rfl
abbrev v2p:=Int × LU × LU × U10
def x2q (s:LL):v2p:=(lI s 0,lS s 1,lS s 2,r1l s 3)
def t2m (x:v2p):LL:=[.i x.1,.s x.2.1,.s x.2.2.1]++k2a x.2.2.2
abbrev v2q:=Bool × Int × LU × LU × U10
def x2r (s:LL):v2q:=(lB s 0,lI s 1,lS s 2,lS s 3,r1l s 4)
def y1t (x:v2q):LL:=[.b x.1,.i x.2.1,.s x.2.2.1,.s x.2.2.2.1]++k2a x.2.2.2.2
abbrev n2f:=LV × Int × Int × LU × LU × U10
def s2d (s:LL):n2f:=(lL s 0,lI s 1,lI s 2,lS s 3,lS s 4,r1l s 5)
def i2l (x:n2f):LL:=[.l x.1,.i x.2.1,.i x.2.2.1,.s x.2.2.2.1,.s x.2.2.2.2.1]++k2a x.2.2.2.2.2
theorem y2m (x:n2f):s2d (i2l x)=x:=rfl
abbrev v2r:=LV × LU
def s2e (s:LL):v2r:=(lL s 0,lS s 1)
def q1y (x:v2r):LL:=[.l x.1,.s x.2]
abbrev n2g:=LV × LU × LU
def s2f (s:LL):n2g:=(lL s 0,lS s 1,lS s 2)
def y1u (x:n2g):LL:=[.l x.1,.s x.2.1,.s x.2.2]
theorem y2n (x:n2g):s2f (y1u x)=x:=rfl
abbrev w1v:=LU × LU × Bool × LU × LU × Bool × Int × Int × Int × Int × Bool × U9
def c2w (s:LL):w1v:=(lS s 0,lS s 1,lB s 2,lS s 3,lS s 4,lB s 5,lI s 6,lI s 7,lI s 8,lI s 9,lB s 10,rd9 s 11)
def q1z (x:w1v):LL:=[.s x.1,.s x.2.1,.b x.2.2.1,.s x.2.2.2.1,.s x.2.2.2.2.1,.b x.2.2.2.2.2.1,.i x.2.2.2.2.2.2.1,.i x.2.2.2.2.2.2.2.1,.i x.2.2.2.2.2.2.2.2.1,.i x.2.2.2.2.2.2.2.2.2.1,.b x.2.2.2.2.2.2.2.2.2.2.1]++ls9 x.2.2.2.2.2.2.2.2.2.2.2
abbrev v2s:=Bool
def b1w (s:LL):v2s:=lB s 0
def s0l (x:v2s):LL:=[.b x]
abbrev n2h:=Int × U9
def s2g (s:LL):n2h:=(lI s 0,rd9 s 1)
def d2e (x:n2h):LL:=[.i x.1]++ls9 x.2
theorem y2o (x:n2h):s2g (d2e x)=x:=rfl
abbrev n2i:=Int × LU × Int × U8
def s2h (s:LL):n2i:=(lI s 0,lS s 1,lI s 2,rd8 s 3)
def y1v (x:n2i):LL:=[.i x.1,.s x.2.1,.i x.2.2.1]++ls8 x.2.2.2
theorem y2p (x:n2i):s2h (y1v x)=x:=rfl
abbrev v2t:=U12
def x2s (s:LL):v2t:=d2v s 0
def t2n (x:v2t):LL:=k2b x
abbrev v2u:=Bool × U12
def x2t (s:LL):v2u:=(lB s 0,d2v s 1)
def w1n (x:v2u):LL:=[.b x.1]++k2b x.2
abbrev n2j:=LU × LV × Int × U12
def s2i (s:LL):n2j:=(lS s 0,lL s 1,lI s 2,d2v s 3)
def i2m (x:n2j):LL:=[.s x.1,.l x.2.1,.i x.2.2.1]++k2b x.2.2.2
theorem y2q (x:n2j):s2i (i2m x)=x:=rfl
abbrev v2v:=LV × Bool × LV
def x2u (s:LL):v2v:=(lL s 0,lB s 1,lL s 2)
def i2n (x:v2v):LL:=[.l x.1,.b x.2.1,.l x.2.2]
abbrev v2w:=LU × Int × Bool × Int
def x2v (s:LL):v2w:=(lS s 0,lI s 1,lB s 2,lI s 3)
def t2o (x:v2w):LL:=[.s x.1,.i x.2.1,.b x.2.2.1,.i x.2.2.2]
abbrev v2x:=Int × LU
def x2w (s:LL):v2x:=(lI s 0,lS s 1)
def i2o (x:v2x):LL:=[.i x.1,.s x.2]
abbrev n2k:=Int × LU × Int
def s2j (s:LL):n2k:=(lI s 0,lS s 1,lI s 2)
def w1o (x:n2k):LL:=[.i x.1,.s x.2.1,.i x.2.2]
theorem y2r (x:n2k):s2j (w1o x)=x:=rfl
abbrev n2l:=LV × Int × LV
def s2k (s:LL):n2l:=(lL s 0,lI s 1,lL s 2)
def w1p (x:n2l):LL:=[.l x.1,.i x.2.1,.l x.2.2]
theorem y2s (x:n2l):s2k (w1p x)=x:=rfl
abbrev n2m:=LV × Int × U9
def s1y (s:LL):n2m:=(lL s 0,lI s 1,rd9 s 2)
def u0k (x:n2m):LL:=[.l x.1,.i x.2.1]++ls9 x.2.2
theorem w1l (x:n2m):s1y (u0k x)=x:=rfl
abbrev v2y:=LU × LV × U8
def x2x (s:LL):v2y:=(lS s 0,lL s 1,rd8 s 2)
def t2p (x:v2y):LL:=[.s x.1,.l x.2.1]++ls8 x.2.2
abbrev n2n:=LU × Int × Int × U8
def s2l (s:LL):n2n:=(lS s 0,lI s 1,lI s 2,rd8 s 3)
def d2f (x:n2n):LL:=[.s x.1,.i x.2.1,.i x.2.2.1]++ls8 x.2.2.2
theorem y2t (x:n2n):s2l (d2f x)=x:=rfl
abbrev n2o:=LV × LU × Int × Int
def i2b (s:LL):n2o:=(lL s 0,lS s 1,lI s 2,lI s 3)
def y1w (x:n2o):LL:=[.l x.1,.s x.2.1,.i x.2.2.1,.i x.2.2.2]
theorem y2u (x:n2o):i2b (y1w x)=x:=rfl
abbrev n2p:=LV × LV × LU × LV × Int × U8
def s2m (s:LL):n2p:=(lL s 0,lL s 1,lS s 2,lL s 3,lI s 4,rd8 s 5)
def d2g (x:n2p):LL:=[.l x.1,.l x.2.1,.s x.2.2.1,.l x.2.2.2.1,.i x.2.2.2.2.1]++ls8 x.2.2.2.2.2
theorem y2v (x:n2p):s2m (d2g x)=x:=rfl
abbrev n2q:=Bool × LU × LU × LU × Bool × LU × LU × Bool × Int × Int × Int × Int × Bool × U9
def x2y (s:LL):n2q:=(lB s 0,lS s 1,lS s 2,lS s 3,lB s 4,lS s 5,lS s 6,lB s 7,lI s 8,lI s 9,lI s 10,lI s 11,lB s 12,rd9 s 13)
def i2p (x:n2q):LL:=[.b x.1,.s x.2.1,.s x.2.2.1,.s x.2.2.2.1,.b x.2.2.2.2.1,.s x.2.2.2.2.2.1,.s x.2.2.2.2.2.2.1,.b x.2.2.2.2.2.2.2.1,.i x.2.2.2.2.2.2.2.2.1,.i x.2.2.2.2.2.2.2.2.2.1,.i x.2.2.2.2.2.2.2.2.2.2.1,.i x.2.2.2.2.2.2.2.2.2.2.2.1,.b x.2.2.2.2.2.2.2.2.2.2.2.2.1]++ls9 x.2.2.2.2.2.2.2.2.2.2.2.2.2
abbrev n2r:=Bool × LU × LV × Int × LU × LU × Bool × LU × LU × Bool × Int × Int × Int × Int × Bool × U9
def s2n (s:LL):n2r:=(lB s 0,lS s 1,lL s 2,lI s 3,lS s 4,lS s 5,lB s 6,lS s 7,lS s 8,lB s 9,lI s 10,lI s 11,lI s 12,lI s 13,lB s 14,rd9 s 15)
def i2q (x:n2r):LL:=[.b x.1,.s x.2.1,.l x.2.2.1,.i x.2.2.2.1,.s x.2.2.2.2.1,.s x.2.2.2.2.2.1,.b x.2.2.2.2.2.2.1,.s x.2.2.2.2.2.2.2.1,.s x.2.2.2.2.2.2.2.2.1,.b x.2.2.2.2.2.2.2.2.2.1,.i x.2.2.2.2.2.2.2.2.2.2.1,.i x.2.2.2.2.2.2.2.2.2.2.2.1,.i x.2.2.2.2.2.2.2.2.2.2.2.2.1,.i x.2.2.2.2.2.2.2.2.2.2.2.2.2.1,.b x.2.2.2.2.2.2.2.2.2.2.2.2.2.2.1]++ls9 x.2.2.2.2.2.2.2.2.2.2.2.2.2.2.2
theorem y2w (x:n2r):s2n (i2q x)=x:=rfl
abbrev v2z:=U8 × U8
def x2z (s:LL):v2z:=(rd8 s 0,rd8 s 2)
def t2q (x:v2z):LL:=ls8 x.1++ls8 x.2
abbrev n2s:=LU × Int × U8
def s2o (s:LL):n2s:=(lS s 0,lI s 1,rd8 s 2)
def d2h (x:n2s):LL:=[.s x.1,.i x.2.1]++ls8 x.2.2
theorem y2x (x:n2s):s2o (d2h x)=x:=rfl
abbrev w2a:=U6 × U6
def y2a (s:LL):w2a:=(rd6 s 0,rd6 s 2)
def i2r (x:w2a):LL:=ls6 x.1++ls6 x.2
abbrev n2t:=LU × Int × U6 × U6
def s2p (s:LL):n2t:=(lS s 0,lI s 1,rd6 s 2,rd6 s 4)
def i2s (x:n2t):LL:=[.s x.1,.i x.2.1]++ls6 x.2.2.1++ls6 x.2.2.2
theorem y2y (x:n2t):s2p (i2s x)=x:=rfl
abbrev e2d:=Int × U9 × U6 × LU × LU × Bool × LU × LU × Bool × Int × Int × Int × Int × Bool × U9
def i2c (s:LL):e2d:=(lI s 0,rd9 s 1,rd6 s 23,lS s 25,lS s 26,lB s 27,lS s 28,lS s 29,lB s 30,lI s 31,lI s 32,lI s 33,lI s 34,lB s 35,rd9 s 36)
def w1q (x:e2d):LL:=[.i x.1]++ls9 x.2.1++ls6 x.2.2.1++[.s x.2.2.2.1,.s x.2.2.2.2.1,.b x.2.2.2.2.2.1,.s x.2.2.2.2.2.2.1,.s x.2.2.2.2.2.2.2.1,.b x.2.2.2.2.2.2.2.2.1,.i x.2.2.2.2.2.2.2.2.2.1,.i x.2.2.2.2.2.2.2.2.2.2.1,.i x.2.2.2.2.2.2.2.2.2.2.2.1,.i x.2.2.2.2.2.2.2.2.2.2.2.2.1,.b x.2.2.2.2.2.2.2.2.2.2.2.2.2.1]++ls9 x.2.2.2.2.2.2.2.2.2.2.2.2.2.2
theorem y2z (x:e2d):i2c (w1q x)=x:=rfl
abbrev n2u:=LV × Int × U6
def s2q (s:LL):n2u:=(lL s 0,lI s 1,rd6 s 2)
def i2t (x:n2u):LL:=[.l x.1,.i x.2.1]++ls6 x.2.2
theorem z2a (x:n2u):s2q (i2t x)=x:=rfl
abbrev n2v:=Int × U9 × U6
def s2r (s:LL):n2v:=(lI s 0,rd9 s 1,rd6 s 23)
def i2u (x:n2v):LL:=[.i x.1]++ls9 x.2.1++ls6 x.2.2
theorem z2b (x:n2v):s2r (i2u x)=x:=rfl
abbrev w2b:=LV × LV × Bool × LV × LU
def y2b (s:LL):w2b:=(lL s 0,lL s 1,lB s 2,lL s 3,lS s 4)
def t2r (x:w2b):LL:=[.l x.1,.l x.2.1,.b x.2.2.1,.l x.2.2.2.1,.s x.2.2.2.2]
abbrev n2w:=LU × LV × LU
def s2s (s:LL):n2w:=(lS s 0,lL s 1,lS s 2)
def i2v (x:n2w):LL:=[.s x.1,.l x.2.1,.s x.2.2]
theorem z2c (x:n2w):s2s (i2v x)=x:=rfl
abbrev w2c:=LV × LV × U6
def y2c (s:LL):w2c:=(lL s 0,lL s 1,rd6 s 2)
def t2s (x:w2c):LL:=[.l x.1,.l x.2.1]++ls6 x.2.2
abbrev n2x:=LV × LV × LV × Int × U9 × U6
def s2t (s:LL):n2x:=(lL s 0,lL s 1,lL s 2,lI s 3,rd9 s 4,rd6 s 26)
def i2w (x:n2x):LL:=[.l x.1,.l x.2.1,.l x.2.2.1,.i x.2.2.2.1]++ls9 x.2.2.2.2.1++ls6 x.2.2.2.2.2
theorem z2d (x:n2x):s2t (i2w x)=x:=rfl
abbrev e2e:=LV × Int × LU × LU × Bool × LU × LU × Bool × Int × Int × Int × Int × Bool × U9
def c2x (s:LL):e2e:=(lL s 0,lI s 1,lS s 2,lS s 3,lB s 4,lS s 5,lS s 6,lB s 7,lI s 8,lI s 9,lI s 10,lI s 11,lB s 12,rd9 s 13)
def r1a (x:e2e):LL:=[.l x.1,.i x.2.1,.s x.2.2.1,.s x.2.2.2.1,.b x.2.2.2.2.1,.s x.2.2.2.2.2.1,.s x.2.2.2.2.2.2.1,.b x.2.2.2.2.2.2.2.1,.i x.2.2.2.2.2.2.2.2.1,.i x.2.2.2.2.2.2.2.2.2.1,.i x.2.2.2.2.2.2.2.2.2.2.1,.i x.2.2.2.2.2.2.2.2.2.2.2.1,.b x.2.2.2.2.2.2.2.2.2.2.2.2.1]++ls9 x.2.2.2.2.2.2.2.2.2.2.2.2.2
theorem t2f (x:e2e):c2x (r1a x)=x:=rfl
abbrev n2y:=LV × Int × LV × Int × LU × LU × Bool × LU × LU × Bool × Int × Int × Int × Int × Bool × U9
def s2u (s:LL):n2y:=(lL s 0,lI s 1,lL s 2,lI s 3,lS s 4,lS s 5,lB s 6,lS s 7,lS s 8,lB s 9,lI s 10,lI s 11,lI s 12,lI s 13,lB s 14,rd9 s 15)
def i2x (x:n2y):LL:=[.l x.1,.i x.2.1,.l x.2.2.1,.i x.2.2.2.1,.s x.2.2.2.2.1,.s x.2.2.2.2.2.1,.b x.2.2.2.2.2.2.1,.s x.2.2.2.2.2.2.2.1,.s x.2.2.2.2.2.2.2.2.1,.b x.2.2.2.2.2.2.2.2.2.1,.i x.2.2.2.2.2.2.2.2.2.2.1,.i x.2.2.2.2.2.2.2.2.2.2.2.1,.i x.2.2.2.2.2.2.2.2.2.2.2.2.1,.i x.2.2.2.2.2.2.2.2.2.2.2.2.2.1,.b x.2.2.2.2.2.2.2.2.2.2.2.2.2.2.1]++ls9 x.2.2.2.2.2.2.2.2.2.2.2.2.2.2.2
theorem z2e (x:n2y):s2u (i2x x)=x:=rfl
abbrev w2d:=U9 × U9
def y2d (s:LL):w2d:=(rd9 s 0,rd9 s 22)
def i2y (x:w2d):LL:=ls9 x.1++ls9 x.2
abbrev n2z:=Int × LU × LU × Bool × LU × LU × Bool × Int × Int × Int × Int × Bool × U9
def s2v (s:LL):n2z:=(lI s 0,lS s 1,lS s 2,lB s 3,lS s 4,lS s 5,lB s 6,lI s 7,lI s 8,lI s 9,lI s 10,lB s 11,rd9 s 12)
def d2i (x:n2z):LL:=[.i x.1,.s x.2.1,.s x.2.2.1,.b x.2.2.2.1,.s x.2.2.2.2.1,.s x.2.2.2.2.2.1,.b x.2.2.2.2.2.2.1,.i x.2.2.2.2.2.2.2.1,.i x.2.2.2.2.2.2.2.2.1,.i x.2.2.2.2.2.2.2.2.2.1,.i x.2.2.2.2.2.2.2.2.2.2.1,.b x.2.2.2.2.2.2.2.2.2.2.2.1]++ls9 x.2.2.2.2.2.2.2.2.2.2.2.2
theorem z2f (x:n2z):s2v (d2i x)=x:=rfl
abbrev o2a:=LV × LU × LU × Bool × LU × LU × Bool × Int × Int × Int × Int × Bool × U9 × U0
def s2w (s:LL):o2a:=(lL s 0,lS s 1,lS s 2,lB s 3,lS s 4,lS s 5,lB s 6,lI s 7,lI s 8,lI s 9,lI s 10,lB s 11,rd9 s 12,rd0 s 34)
def i2z (x:o2a):LL:=[.l x.1,.s x.2.1,.s x.2.2.1,.b x.2.2.2.1,.s x.2.2.2.2.1,.s x.2.2.2.2.2.1,.b x.2.2.2.2.2.2.1,.i x.2.2.2.2.2.2.2.1,.i x.2.2.2.2.2.2.2.2.1,.i x.2.2.2.2.2.2.2.2.2.1,.i x.2.2.2.2.2.2.2.2.2.2.1,.b x.2.2.2.2.2.2.2.2.2.2.2.1]++ls9 x.2.2.2.2.2.2.2.2.2.2.2.2.1++ls0 x.2.2.2.2.2.2.2.2.2.2.2.2.2
abbrev w2e:=LV × U9
def y2e (s:LL):w2e:=(lL s 0,rd9 s 1)
def t2t (x:w2e):LL:=[.l x.1]++ls9 x.2
abbrev o2b:=LV × LV × Int × U9
def i2d (s:LL):o2b:=(lL s 0,lL s 1,lI s 2,rd9 s 3)
def y1x (x:o2b):LL:=[.l x.1,.l x.2.1,.i x.2.2.1]++ls9 x.2.2.2
theorem t2g (x:o2b):i2d (y1x x)=x:=rfl
abbrev o2c:=Int × U9 × U6 × U3 × LU × LU × Bool × LU × LU × Bool × Int × Int × Int × Int × Bool × U9
def s2x (s:LL):o2c:=(lI s 0,rd9 s 1,rd6 s 23,rd3 s 25,lS s 31,lS s 32,lB s 33,lS s 34,lS s 35,lB s 36,lI s 37,lI s 38,lI s 39,lI s 40,lB s 41,rd9 s 42)
def d2j (x:o2c):LL:=[.i x.1]++ls9 x.2.1++ls6 x.2.2.1++ls3 x.2.2.2.1++[.s x.2.2.2.2.1,.s x.2.2.2.2.2.1,.b x.2.2.2.2.2.2.1,.s x.2.2.2.2.2.2.2.1,.s x.2.2.2.2.2.2.2.2.1,.b x.2.2.2.2.2.2.2.2.2.1,.i x.2.2.2.2.2.2.2.2.2.2.1,.i x.2.2.2.2.2.2.2.2.2.2.2.1,.i x.2.2.2.2.2.2.2.2.2.2.2.2.1,.i x.2.2.2.2.2.2.2.2.2.2.2.2.2.1,.b x.2.2.2.2.2.2.2.2.2.2.2.2.2.2.1]++ls9 x.2.2.2.2.2.2.2.2.2.2.2.2.2.2.2
theorem z2g (x:o2c):s2x (d2j x)=x:=rfl
abbrev o2d:=LV × Int × LU × LU × Bool × LU × LU × Bool × Int × Int × Int × Int × Bool × U9 × U0
def i2e (s:LL):o2d:=(lL s 0,lI s 1,lS s 2,lS s 3,lB s 4,lS s 5,lS s 6,lB s 7,lI s 8,lI s 9,lI s 10,lI s 11,lB s 12,rd9 s 13,rd0 s 35)
def t1d (x:o2d):LL:=[.l x.1,.i x.2.1,.s x.2.2.1,.s x.2.2.2.1,.b x.2.2.2.2.1,.s x.2.2.2.2.2.1,.s x.2.2.2.2.2.2.1,.b x.2.2.2.2.2.2.2.1,.i x.2.2.2.2.2.2.2.2.1,.i x.2.2.2.2.2.2.2.2.2.1,.i x.2.2.2.2.2.2.2.2.2.2.1,.i x.2.2.2.2.2.2.2.2.2.2.2.1,.b x.2.2.2.2.2.2.2.2.2.2.2.2.1]++ls9 x.2.2.2.2.2.2.2.2.2.2.2.2.2.1++ls0 x.2.2.2.2.2.2.2.2.2.2.2.2.2.2
theorem z2h (x:o2d):i2e (t1d x)=x:=rfl
abbrev w2f:=Int × U1
def w1k (s:LL):w2f:=(lI s 0,rd1 s 1)
def f1y (x:w2f):LL:=[.i x.1]++ls1 x.2
abbrev o2e:=Int × U1 × Int × U1
def c2y (s:LL):o2e:=(lI s 0,rd1 s 1,lI s 3,rd1 s 4)
def d1n (x:o2e):LL:=[.i x.1]++ls1 x.2.1++[.i x.2.2.1]++ls1 x.2.2.2
theorem t2h (x:o2e):c2y (d1n x)=x:=rfl
abbrev o2f:=Int × Int × U1 × U0
def s2y (s:LL):o2f:=(lI s 0,lI s 1,rd1 s 2,rd0 s 4)
def d2k (x:o2f):LL:=[.i x.1,.i x.2.1]++ls1 x.2.2.1++ls0 x.2.2.2
theorem z2i (x:o2f):s2y (d2k x)=x:=rfl
abbrev e2f:=LV × LV × Int × Int
def d1m (s:LL):e2f:=(lL s 0,lL s 1,lI s 2,lI s 3)
def o0s (x:e2f):LL:=[.l x.1,.l x.2.1,.i x.2.2.1,.i x.2.2.2]
theorem t2i (x:e2f):d1m (o0s x)=x:=rfl
abbrev o2g:=LV × Int × Int × U8
def s2z (s:LL):o2g:=(lL s 0,lI s 1,lI s 2,rd8 s 3)
def j2a (x:o2g):LL:=[.l x.1,.i x.2.1,.i x.2.2.1]++ls8 x.2.2.2
theorem z2j (x:o2g):s2z (j2a x)=x:=rfl
abbrev o2h:=LV × Int × Int × Int × U1
def t2a (s:LL):o2h:=(lL s 0,lI s 1,lI s 2,lI s 3,rd1 s 4)
def j2b (x:o2h):LL:=[.l x.1,.i x.2.1,.i x.2.2.1,.i x.2.2.2.1]++ls1 x.2.2.2.2
theorem z2k (x:o2h):t2a (j2b x)=x:=rfl
abbrev o2i:=Int × LV × Int × Int
def t2b (s:LL):o2i:=(lI s 0,lL s 1,lI s 2,lI s 3)
def d2l (x:o2i):LL:=[.i x.1,.l x.2.1,.i x.2.2.1,.i x.2.2.2]
theorem z2l (x:o2i):t2b (d2l x)=x:=rfl
abbrev o2j:=Int × Int × U1
def c2z (s:LL):o2j:=(lI s 0,lI s 1,rd1 s 2)
def f1z (x:o2j):LL:=[.i x.1,.i x.2.1]++ls1 x.2.2
theorem t2j (x:o2j):c2z (f1z x)=x:=rfl
abbrev o2k:=LV × Int × U1 × U1
def t2c (s:LL):o2k:=(lL s 0,lI s 1,rd1 s 2,rd1 s 4)
def d2m (x:o2k):LL:=[.l x.1,.i x.2.1]++ls1 x.2.2.1++ls1 x.2.2.2
theorem z2m (x:o2k):t2c (d2m x)=x:=rfl
def q0 (y z:U6):Bool:=(y.a == z.a) && ((y.b == z.b) && true)
def q1 (y z:U11):Bool:=(y.a == z.a) && ((y.b == z.b) && ((y.c == z.c) && ((y.d == z.d) && ((y.e == z.e) && ((y.f == z.f) && ((y.g == z.g) && ((y.h == z.h) && true)))))))
def q2 (y z:U15):Bool:=(y.a == z.a) && ((y.b == z.b) && ((y.c == z.c) && ((y.d == z.d) && ((y.e == z.e) && true))))
def w0 (y:U7):V:=.agg [.str y.a,.str y.b,.int .i64 y.c,.sl 2 true y.d]
def w1 (y:U10):V:=.agg [.int .i64 y.a,.str y.b,.sl 2 true y.c,.str y.d]
def w2 (y:U6):V:=.agg [.str y.a,.str y.b]
def w3 (y:U12):V:=.agg [.int .i64 y.a,.str y.b]
def w4 (y:U13):V:=.agg [.str y.a,.int .i64 y.b]
def w5 (y:U11):V:=.agg [.int .i64 y.a,.str y.b,.str y.c,.str y.d,.int .i64 y.e,.bool y.f,.int .i64 y.g,.str y.h]
def w6 (y:U15):V:=.agg [.str y.a,.str y.b,.bool y.c,.int .i64 y.d,.str y.e]
def w7 (y:U14):V:=.agg [.int .i64 y.a,.str y.b,.str y.c,.str y.d,.str y.e]
def w8 (y:U16):V:=.agg [.str y.a,.str y.b,.str y.c,.str y.d,.bool y.e,.sl 1 true y.f,.sl 1 true y.g,.sl 1 true y.h,.str y.i,.str y.j,.sl 4 false y.k,.bool y.l,.sl 4 false y.m,.sl 1 true y.n,.sl 8 true y.o,.sl 5 true y.p,.sl 2 true y.q,.int .i64 y.r,.int .i64 y.s,.int .i64 y.t,.int .i64 y.u,.sl 2 true y.v,.sl 1 true y.w,.bool y.x,.bool y.y]
def w9 (y:U9):V:=.agg [.str y.a,.str y.b,.bool y.c,.sl 1 true y.d,.sl 1 true y.e,.sl 1 true y.f,.str y.g,.str y.h,.sl 4 false y.i,.bool y.j,.sl 4 false y.k,.sl 1 true y.l,.sl 8 true y.m,.sl 5 true y.n,.sl 2 true y.o,.int .i64 y.p,.int .i64 y.q,.int .i64 y.r,.int .i64 y.s,.sl 2 true y.t,.sl 1 true y.u,.bool y.v]
def w10 (y:U0):V:=.agg [.sl 1 true y.a,.int .i64 y.b,.int .i64 y.c]
def w11 (y:U1):V:=.agg [.own 0 25 .clean y.a,.int .i64 y.b]
def w12 (y:U2):V:=.agg [.bool y.a,.own 1 1 .flat y.b,.own 2 1 .flat y.c,.own 3 1 .flat y.d,.str y.e]
def w13 (y:U3):V:=.agg [.int .i64 y.a,.int .i64 y.b,.str y.c,.int .i64 y.d,.bool y.e,.str y.f]
def w14 (y:U2):V:=.agg [.bool y.a,.view 1 1 .flat y.b,.view 2 1 .flat y.c,.view 3 1 .flat y.d,.str y.e]
def w15 (y:U8):V:=.agg [.own 0 4 .clean y.a,.own 1 1 .flat y.b]
def w16 (y:U9):V:=.agg [.str y.a,.str y.b,.bool y.c,.view 3 1 .flat y.d,.view 4 1 .flat y.e,.view 5 1 .flat y.f,.str y.g,.str y.h,.own 8 4 .clean y.i,.bool y.j,.own 10 4 .clean y.k,.own 11 1 .flat y.l,.own 12 8 .flat y.m,.own 13 5 .flat y.n,.own 14 2 .flat y.o,.int .i64 y.p,.int .i64 y.q,.int .i64 y.r,.int .i64 y.s,.own 19 2 .flat y.t,.own 20 1 .flat y.u,.bool y.v]
def w17 (y:U9):V:=.agg [.str y.a,.str y.b,.bool y.c,.own 3 1 .flat y.d,.own 4 1 .flat y.e,.own 5 1 .flat y.f,.str y.g,.str y.h,.own 8 4 .clean y.i,.bool y.j,.own 10 4 .clean y.k,.own 11 1 .flat y.l,.own 12 8 .flat y.m,.own 13 5 .flat y.n,.own 14 2 .flat y.o,.int .i64 y.p,.int .i64 y.q,.int .i64 y.r,.int .i64 y.s,.own 19 2 .flat y.t,.own 20 1 .flat y.u,.bool y.v]
def w18 (y:U10):V:=.agg [.int .i64 y.a,.str y.b,.own 2 2 .flat y.c,.str y.d]
def w19 (y:U8):V:=.agg [.own 0 4 .clean y.a,.view 1 1 .flat y.b]
def w20 (y:U9):V:=.agg [.str y.a,.str y.b,.bool y.c,.own 3 1 .flat y.d,.own 4 1 .flat y.e,.own 5 1 .flat y.f,.str y.g,.str y.h,.view 8 4 .clean y.i,.bool y.j,.own 10 4 .clean y.k,.view 11 1 .flat y.l,.own 12 8 .flat y.m,.own 13 5 .flat y.n,.own 14 2 .flat y.o,.int .i64 y.p,.int .i64 y.q,.int .i64 y.r,.int .i64 y.s,.own 19 2 .flat y.t,.own 20 1 .flat y.u,.bool y.v]
def w21 (y:U1):V:=.agg [.view 0 25 .clean y.a,.int .i64 y.b]
def w22 (y:U9):V:=.agg [.str y.a,.str y.b,.bool y.c,.own 5 1 .flat y.d,.own 6 1 .flat y.e,.own 7 1 .flat y.f,.str y.g,.str y.h,.view 10 4 .clean y.i,.bool y.j,.own 12 4 .clean y.k,.view 13 1 .flat y.l,.own 14 8 .flat y.m,.own 15 5 .flat y.n,.own 16 2 .flat y.o,.int .i64 y.p,.int .i64 y.q,.int .i64 y.r,.int .i64 y.s,.own 21 2 .flat y.t,.own 22 1 .flat y.u,.bool y.v]
def z0:List V:=[.sl 1 true []]
def z1:List V:=[]
def z2:List V:=[.ptr 58 0,.agg [.sl 1 true [],.int .i64 0,.int .i64 0]]
def z3:List V:=[.ptr 31 0,.int .i64 0,.agg [.sl 1 true [],.int .i64 0,.int .i64 0]]
def z4:List V:=[.ptr 12 0,.sl 1 true [],.agg [.sl 1 true [],.int .i64 0,.int .i64 0]]
def z5:List V:=[.ptr 9 0,.int .i64 0,.agg [.sl 1 true [],.int .i64 0,.int .i64 0]]
def z6:List V:=[.ptr 25 0,.int .i64 0,.agg [.sl 1 true [],.int .i64 0,.int .i64 0]]
def z7:List V:=[.ptr 23 0,.agg [.sl 1 true [],.int .i64 0,.int .i64 0]]
def z8:List V:=[.ptr 48 0,.agg [.sl 1 true [],.int .i64 0,.int .i64 0]]
def z9:List V:=[.ptr 36 0,.int .i64 0,.agg [.sl 1 true [],.int .i64 0,.int .i64 0]]
def z10:List V:=[.ptr 27 0,.int .i64 0,.agg [.sl 1 true [],.int .i64 0,.int .i64 0]]
def z11:List V:=[.ptr 21 0,.agg [.sl 1 true [],.int .i64 0,.int .i64 0]]
def z12:List V:=[.ptr 18 0,.agg [.sl 1 true [],.int .i64 0,.int .i64 0]]
def z13:List V:=[.int .i64 0,.int .i64 0,.int .i64 0]
def z14:List V:=[.str []]
def z15:List V:=[.agg [.bool false,.sl 1 true [],.sl 1 true [],.sl 1 true [],.str []]]
def z16:List V:=[.str [],.sl 1 true []]
def z17:List V:=[.ptr 23 0,.int .i64 0,.agg [.sl 1 true [],.int .i64 0,.int .i64 0]]
def z18:List V:=[.sl 2 false [],.str []]
def z19:List V:=[.agg [.str [],.sl 7 true []],.str []]
def z20:List V:=[.str [],.int .u8 0]
def z21:List V:=[.agg [.int .i64 0,.int .i64 0,.str [],.int .i64 0,.bool false,.str []]]
def z22:List V:=[.agg [.str [],.sl 7 true []]]
def z23:List V:=[.sl 2 false [],.agg [.str [],.str []],.agg [.int .i64 0,.int .i64 0,.str [],.int .i64 0,.bool false,.str []]]
def z24:List V:=[.ptr 85 0,.agg [.sl 1 true [],.int .i64 0,.int .i64 0]]
def z25:List V:=[.agg [.str [],.str []]]
def z26:List V:=[.agg [.str [],.str []],.agg [.int .i64 0,.int .i64 0,.str [],.int .i64 0,.bool false,.str []]]
def z27:List V:=[.ptr 15 0,.agg [.sl 1 true [],.int .i64 0,.int .i64 0]]
def z28:List V:=[.ptr 28 0,.agg [.sl 1 true [],.int .i64 0,.int .i64 0]]
def z29:List V:=[.sl 2 true []]
def z30:List V:=[.sl 4 false []]
def z31:List V:=[.agg [.sl 4 false [],.sl 1 true []]]
def z32:List V:=[.agg [.str [],.str [],.bool false,.sl 1 true [],.sl 1 true [],.sl 1 true [],.str [],.str [],.sl 4 false [],.bool false,.sl 4 false [],.sl 1 true [],.sl 8 true [],.sl 5 true [],.sl 2 true [],.int .i64 0,.int .i64 0,.int .i64 0,.int .i64 0,.sl 2 true [],.sl 1 true [],.bool false]]
def z33:List V:=[.sl 2 true [],.str []]
def z34:List V:=[.agg [.str []],.str []]
def z35:List V:=[.agg [.str [],.str [],.bool false,.sl 1 true [],.sl 1 true [],.sl 1 true [],.str [],.str [],.sl 4 false [],.bool false,.sl 4 false [],.sl 1 true [],.sl 8 true [],.sl 5 true [],.sl 2 true [],.int .i64 0,.int .i64 0,.int .i64 0,.int .i64 0,.sl 2 true [],.sl 1 true [],.bool false],.str []]
def z36:List V:=[.agg [.str []]]
def z37:List V:=[.agg [.sl 4 false [],.sl 1 true []],.int .i64 0]
def z38:List V:=[.int .i64 0]
def z39:List V:=[.agg [.sl 4 false [],.sl 1 true []],.str []]
def z40:List V:=[.sl 1 false [],.str []]
def z41:List V:=[.agg [.sl 4 false [],.sl 1 true []],.sl 1 false [],.agg [.int .i64 0,.str []]]
def z42:List V:=[.agg [.sl 4 false [],.sl 1 true []],.sl 1 false [],.sl 2 true []]
def z43:List V:=[.agg [.str [],.str [],.bool false,.sl 1 true [],.sl 1 true [],.sl 1 true [],.str [],.str [],.sl 4 false [],.bool false,.sl 4 false [],.sl 1 true [],.sl 8 true [],.sl 5 true [],.sl 2 true [],.int .i64 0,.int .i64 0,.int .i64 0,.int .i64 0,.sl 2 true [],.sl 1 true [],.bool false],.str [],.bool false]
def z44:List V:=[.agg [.own 0 4 .clean [],.own 1 1 .flat []],.str []]
def z45:List V:=[.agg [.sl 4 false [],.sl 1 true []],.agg [.int .i64 0,.str [],.sl 2 true [],.str []]]
def z46:List V:=[.str [],.str []]
def z47:List V:=[.agg [.str [],.str [],.bool false,.sl 1 true [],.sl 1 true [],.sl 1 true [],.str [],.str [],.sl 4 false [],.bool false,.sl 4 false [],.sl 1 true [],.sl 8 true [],.sl 5 true [],.sl 2 true [],.int .i64 0,.int .i64 0,.int .i64 0,.int .i64 0,.sl 2 true [],.sl 1 true [],.bool false],.int .i64 0]
def z48:List V:=[.agg [.int .i64 0,.str [],.str [],.str [],.str []]]
def z49:List V:=[.sl 1 true [],.str []]
def z50:List V:=[.agg [.bool false,.sl 1 true [],.sl 1 true [],.sl 1 true [],.str []],.int .i64 0,.str []]
def z51:List V:=[.agg [.bool false,.sl 1 true [],.sl 1 true [],.sl 1 true [],.str []],.agg [.int .i64 0,.str [],.str [],.str [],.str []]]
def z52:List V:=[.agg [.str [],.str [],.bool false,.sl 1 true [],.sl 1 true [],.sl 1 true [],.str [],.str [],.sl 4 false [],.bool false,.sl 4 false [],.sl 1 true [],.sl 8 true [],.sl 5 true [],.sl 2 true [],.int .i64 0,.int .i64 0,.int .i64 0,.int .i64 0,.sl 2 true [],.sl 1 true [],.bool false],.int .i64 0,.str [],.str [],.int .i64 0]
def z53:List V:=[.agg [.str [],.str [],.bool false,.own 3 1 .flat [],.own 4 1 .flat [],.own 5 1 .flat [],.str [],.str [],.view 8 4 .clean [],.bool false,.own 10 4 .clean [],.view 11 1 .flat [],.own 12 8 .flat [],.own 13 5 .flat [],.own 14 2 .flat [],.int .i64 0,.int .i64 0,.int .i64 0,.int .i64 0,.own 19 2 .flat [],.own 20 1 .flat [],.bool false],.agg [.int .i64 0,.str [],.sl 2 true [],.str []],.int .i64 0]
def z54:List V:=[.agg [.bool false,.sl 1 true [],.sl 1 true [],.sl 1 true [],.str []],.str []]
def z55:List V:=[.agg [.str [],.str []],.agg [.str [],.str []]]
def z56:List V:=[.agg [.str [],.str [],.bool false,.sl 1 true [],.sl 1 true [],.sl 1 true [],.str [],.str [],.sl 4 false [],.bool false,.sl 4 false [],.sl 1 true [],.sl 8 true [],.sl 5 true [],.sl 2 true [],.int .i64 0,.int .i64 0,.int .i64 0,.int .i64 0,.sl 2 true [],.sl 1 true [],.bool false],.agg [.str [],.str []]]
def z57:List V:=[.agg [.str [],.str [],.bool false,.own 3 1 .flat [],.own 4 1 .flat [],.own 5 1 .flat [],.str [],.str [],.view 8 4 .clean [],.bool false,.own 10 4 .clean [],.view 11 1 .flat [],.own 12 8 .flat [],.own 13 5 .flat [],.own 14 2 .flat [],.int .i64 0,.int .i64 0,.int .i64 0,.int .i64 0,.own 19 2 .flat [],.own 20 1 .flat [],.bool false],.int .i64 0]
def z58:List V:=[.sl 2 true [],.agg [.str [],.str []]]
def z59:List V:=[.int .i64 0,.int .i64 0]
def z60:List V:=[.agg [.str [],.str [],.bool false,.sl 1 true [],.sl 1 true [],.sl 1 true [],.str [],.str [],.sl 4 false [],.bool false,.sl 4 false [],.sl 1 true [],.sl 8 true [],.sl 5 true [],.sl 2 true [],.int .i64 0,.int .i64 0,.int .i64 0,.int .i64 0,.sl 2 true [],.sl 1 true [],.bool false],.agg [.str [],.str []],.own 0 2 .flat [],.own 1 2 .flat []]
def z61:List V:=[.agg [.str [],.str [],.bool false,.own 3 1 .flat [],.own 4 1 .flat [],.own 5 1 .flat [],.str [],.str [],.own 8 4 .clean [],.bool false,.own 10 4 .clean [],.own 11 1 .flat [],.own 12 8 .flat [],.own 13 5 .flat [],.own 14 2 .flat [],.int .i64 0,.int .i64 0,.int .i64 0,.int .i64 0,.own 19 2 .flat [],.own 20 1 .flat [],.bool false],.str []]
def z62:List V:=[.sl 2 false [],.agg [.str [],.str []]]
def z63:List V:=[.agg [.int .i64 0,.int .i64 0,.str [],.int .i64 0,.bool false,.str []],.int .i64 0]
def z64:List V:=[.agg [.bool false,.sl 1 true [],.sl 1 true [],.sl 1 true [],.str []],.agg [.int .i64 0,.str [],.str [],.str [],.str []],.agg [.int .i64 0,.int .i64 0,.str [],.int .i64 0,.bool false,.str []]]
def z65:List V:=[.agg [.str [],.str [],.bool false,.sl 1 true [],.sl 1 true [],.sl 1 true [],.str [],.str [],.sl 4 false [],.bool false,.sl 4 false [],.sl 1 true [],.sl 8 true [],.sl 5 true [],.sl 2 true [],.int .i64 0,.int .i64 0,.int .i64 0,.int .i64 0,.sl 2 true [],.sl 1 true [],.bool false],.int .i64 0,.agg [.int .i64 0,.int .i64 0,.str [],.int .i64 0,.bool false,.str []]]
def z66:List V:=[.agg [.str [],.str [],.bool false,.sl 1 true [],.sl 1 true [],.sl 1 true [],.str [],.str [],.sl 4 false [],.bool false,.sl 4 false [],.sl 1 true [],.sl 8 true [],.sl 5 true [],.sl 2 true [],.int .i64 0,.int .i64 0,.int .i64 0,.int .i64 0,.sl 2 true [],.sl 1 true [],.bool false],.agg [.str [],.str []],.agg [.int .i64 0,.int .i64 0,.str [],.int .i64 0,.bool false,.str []]]
def z67:List V:=[.ptr 64 0,.agg [.sl 1 true [],.int .i64 0,.int .i64 0]]
def z68:List V:=[.ptr 6 0,.agg [.sl 1 true [],.int .i64 0,.int .i64 0]]
def z69:List V:=[.agg [.sl 25 false [],.int .i64 0]]
def z70:List V:=[.agg [.sl 25 false [],.int .i64 0],.agg [.str [],.str [],.bool false,.sl 1 true [],.sl 1 true [],.sl 1 true [],.str [],.str [],.sl 4 false [],.bool false,.sl 4 false [],.sl 1 true [],.sl 8 true [],.sl 5 true [],.sl 2 true [],.int .i64 0,.int .i64 0,.int .i64 0,.int .i64 0,.sl 2 true [],.sl 1 true [],.bool false]]
def z71:List V:=[.agg [.sl 25 false [],.int .i64 0],.int .i64 0]
def z72:List V:=[.ptr 25 0,.agg [.sl 1 true [],.int .i64 0,.int .i64 0]]
def z73:List V:=[.ptr 10 0,.agg [.sl 1 true [],.int .i64 0,.int .i64 0]]
def z74:List V:=[.ptr 37 0,.agg [.sl 1 true [],.int .i64 0,.int .i64 0]]
def z75:List V:=[.agg [.int .i64 0,.str [],.sl 2 true [],.str []]]
def z76:List V:=[.sl 1 true [],.sl 1 true []]
def z77:List V:=[.agg [.bool false,.sl 1 true [],.sl 1 true [],.sl 1 true [],.str []],.agg [.bool false,.sl 1 true [],.sl 1 true [],.sl 1 true [],.str []]]
def z78:List V:=[.sl 2 true [],.sl 2 true []]
def z79:List V:=[.agg [.int .i64 0,.str [],.sl 2 true [],.str []],.agg [.int .i64 0,.str [],.sl 2 true [],.str []]]
def z80:List V:=[.sl 4 false [],.sl 4 false [],.clo 31 []]
def z81:List V:=[.agg [.str [],.str [],.int .i64 0,.sl 2 true []],.agg [.str [],.str [],.int .i64 0,.sl 2 true []]]
def z82:List V:=[.sl 4 false [],.sl 4 false [],.clo 49 []]
def z83:List V:=[.agg [.sl 4 false [],.sl 1 true []],.agg [.sl 4 false [],.sl 1 true []]]
def z84:List V:=[.sl 8 true [],.sl 8 true []]
def z85:List V:=[.sl 5 true [],.sl 5 true []]
def z86:List V:=[.agg [.str [],.str [],.bool false,.sl 1 true [],.sl 1 true [],.sl 1 true [],.str [],.str [],.sl 4 false [],.bool false,.sl 4 false [],.sl 1 true [],.sl 8 true [],.sl 5 true [],.sl 2 true [],.int .i64 0,.int .i64 0,.int .i64 0,.int .i64 0,.sl 2 true [],.sl 1 true [],.bool false],.agg [.str [],.str [],.bool false,.sl 1 true [],.sl 1 true [],.sl 1 true [],.str [],.str [],.sl 4 false [],.bool false,.sl 4 false [],.sl 1 true [],.sl 8 true [],.sl 5 true [],.sl 2 true [],.int .i64 0,.int .i64 0,.int .i64 0,.int .i64 0,.sl 2 true [],.sl 1 true [],.bool false]]
def z87:List V:=[.agg [.str [],.str [],.str [],.str [],.bool false,.sl 1 true [],.sl 1 true [],.sl 1 true [],.str [],.str [],.sl 4 false [],.bool false,.sl 4 false [],.sl 1 true [],.sl 8 true [],.sl 5 true [],.sl 2 true [],.int .i64 0,.int .i64 0,.int .i64 0,.int .i64 0,.sl 2 true [],.sl 1 true [],.bool false,.bool false],.agg [.str [],.str [],.str [],.str [],.bool false,.sl 1 true [],.sl 1 true [],.sl 1 true [],.str [],.str [],.sl 4 false [],.bool false,.sl 4 false [],.sl 1 true [],.sl 8 true [],.sl 5 true [],.sl 2 true [],.int .i64 0,.int .i64 0,.int .i64 0,.int .i64 0,.sl 2 true [],.sl 1 true [],.bool false,.bool false]]
def z88:List V:=[.sl 25 false [],.sl 25 false [],.clo 23 []]
def z89:List V:=[.agg [.sl 25 false [],.int .i64 0],.agg [.sl 25 false [],.int .i64 0]]
def ix0 {α:Type}(l:LV)(i:Nat)(f:Int→Option α):Option α:=idx false [.int .u8] l i λ e=>f e.1
def ix1 {α:Type}(l:LV)(i:Nat)(f:Int→Option α):Option α:=idx false [.int .i64] l i λ e=>f e.1
def ix2 {α:Type}(l:LV)(i:Nat)(f:LU→Option α):Option α:=idx false [.str] l i λ e=>f e.1
def ix3 {α:Type}(l:LV)(i:Nat)(f:U4→Option α):Option α:=idx true [.str,.sl 7 true] l i λ e=>f ⟨e.1,e.2.1⟩
def ix4 {α:Type}(l:LV)(i:Nat)(f:U5→Option α):Option α:=idx true [.str,.int .i64,.int .i64,.str,.int .i64,.bool,.str] l i λ e=>f ⟨e.1,e.2.1,e.2.2.1,e.2.2.2.1,e.2.2.2.2.1,e.2.2.2.2.2.1,e.2.2.2.2.2.2.1⟩
def ix5 {α:Type}(l:LV)(i:Nat)(f:U10→Option α):Option α:=idx true [.int .i64,.str,.sl 2 true,.str] l i λ e=>f ⟨e.1,e.2.1,e.2.2.1,e.2.2.2.1⟩
def ix6 {α:Type}(l:LV)(i:Nat)(f:U7→Option α):Option α:=idx true [.str,.str,.int .i64,.sl 2 true] l i λ e=>f ⟨e.1,e.2.1,e.2.2.1,e.2.2.2.1⟩
def ix7 {α:Type}(l:LV)(i:Nat)(f:U6→Option α):Option α:=idx true [.str,.str] l i λ e=>f ⟨e.1,e.2.1⟩
def ix8 {α:Type}(l:LV)(i:Nat)(f:U11→Option α):Option α:=idx true [.int .i64,.str,.str,.str,.int .i64,.bool,.int .i64,.str] l i λ e=>f ⟨e.1,e.2.1,e.2.2.1,e.2.2.2.1,e.2.2.2.2.1,e.2.2.2.2.2.1,e.2.2.2.2.2.2.1,e.2.2.2.2.2.2.2.1⟩
def ix9 {α:Type}(l:LV)(i:Nat)(f:LV→Option α):Option α:=idx true [.sl 2 true] l i λ e=>f e.1
def z1h {α:Type}(l:LV)(i:Nat)(f:U13→Option α):Option α:=idx true [.str,.int .i64] l i λ e=>f ⟨e.1,e.2.1⟩
def d2p {α:Type}(l:LV)(i:Nat)(f:U12→Option α):Option α:=idx true [.int .i64,.str] l i λ e=>f ⟨e.1,e.2.1⟩
def q0a {α:Type}(l:LV)(i:Nat)(f:U15→Option α):Option α:=idx true [.str,.str,.bool,.int .i64,.str] l i λ e=>f ⟨e.1,e.2.1,e.2.2.1,e.2.2.2.1,e.2.2.2.2.1⟩
def v0u {α:Type}(l:LV)(i:Nat)(f:U16→Option α):Option α:=idx true [.str,.str,.str,.str,.bool,.sl 1 true,.sl 1 true,.sl 1 true,.str,.str,.sl 4 false,.bool,.sl 4 false,.sl 1 true,.sl 8 true,.sl 5 true,.sl 2 true,.int .i64,.int .i64,.int .i64,.int .i64,.sl 2 true,.sl 1 true,.bool,.bool] l i λ e=>f ⟨e.1,e.2.1,e.2.2.1,e.2.2.2.1,e.2.2.2.2.1,e.2.2.2.2.2.1,e.2.2.2.2.2.2.1,e.2.2.2.2.2.2.2.1,e.2.2.2.2.2.2.2.2.1,e.2.2.2.2.2.2.2.2.2.1,e.2.2.2.2.2.2.2.2.2.2.1,e.2.2.2.2.2.2.2.2.2.2.2.1,e.2.2.2.2.2.2.2.2.2.2.2.2.1,e.2.2.2.2.2.2.2.2.2.2.2.2.2.1,e.2.2.2.2.2.2.2.2.2.2.2.2.2.2.1,e.2.2.2.2.2.2.2.2.2.2.2.2.2.2.2.1,e.2.2.2.2.2.2.2.2.2.2.2.2.2.2.2.2.1,e.2.2.2.2.2.2.2.2.2.2.2.2.2.2.2.2.2.1,e.2.2.2.2.2.2.2.2.2.2.2.2.2.2.2.2.2.2.1,e.2.2.2.2.2.2.2.2.2.2.2.2.2.2.2.2.2.2.2.1,e.2.2.2.2.2.2.2.2.2.2.2.2.2.2.2.2.2.2.2.2.1,e.2.2.2.2.2.2.2.2.2.2.2.2.2.2.2.2.2.2.2.2.2.1,e.2.2.2.2.2.2.2.2.2.2.2.2.2.2.2.2.2.2.2.2.2.2.1,e.2.2.2.2.2.2.2.2.2.2.2.2.2.2.2.2.2.2.2.2.2.2.2.1,e.2.2.2.2.2.2.2.2.2.2.2.2.2.2.2.2.2.2.2.2.2.2.2.2.1⟩
def ia0 {α:Type}(l:LV)(i o:Nat)(f:LU→Option α):Option α:=idxAt [.str] l i o λ e=>f e.1
def ia1 {α:Type}(l:LV)(i o:Nat)(f:U10→Option α):Option α:=idxAt [.int .i64,.str,.sl 2 true,.str] l i o λ e=>f ⟨e.1,e.2.1,e.2.2.1,e.2.2.2.1⟩
def ia2 {α:Type}(l:LV)(i o:Nat)(f:Int→Option α):Option α:=idxAt [.int .i64] l i o λ e=>f e.1
def ia3 {α:Type}(l:LV)(i o:Nat)(f:LV→Option α):Option α:=idxAt [.sl 2 true] l i o λ e=>f e.1
def ia4 {α:Type}(l:LV)(i o:Nat)(f:U6→Option α):Option α:=idxAt [.str,.str] l i o λ e=>f ⟨e.1,e.2.1⟩
def ia5 {α:Type}(l:LV)(i o:Nat)(f:Bool→Option α):Option α:=idxAt [.bool] l i o λ e=>f e.1
def ia6 {α:Type}(l:LV)(i o:Nat)(f:U9→Option α):Option α:=idxAt [.str,.str,.bool,.sl 1 true,.sl 1 true,.sl 1 true,.str,.str,.sl 4 false,.bool,.sl 4 false,.sl 1 true,.sl 8 true,.sl 5 true,.sl 2 true,.int .i64,.int .i64,.int .i64,.int .i64,.sl 2 true,.sl 1 true,.bool] l i o λ e=>f ⟨e.1,e.2.1,e.2.2.1,e.2.2.2.1,e.2.2.2.2.1,e.2.2.2.2.2.1,e.2.2.2.2.2.2.1,e.2.2.2.2.2.2.2.1,e.2.2.2.2.2.2.2.2.1,e.2.2.2.2.2.2.2.2.2.1,e.2.2.2.2.2.2.2.2.2.2.1,e.2.2.2.2.2.2.2.2.2.2.2.1,e.2.2.2.2.2.2.2.2.2.2.2.2.1,e.2.2.2.2.2.2.2.2.2.2.2.2.2.1,e.2.2.2.2.2.2.2.2.2.2.2.2.2.2.1,e.2.2.2.2.2.2.2.2.2.2.2.2.2.2.2.1,e.2.2.2.2.2.2.2.2.2.2.2.2.2.2.2.2.1,e.2.2.2.2.2.2.2.2.2.2.2.2.2.2.2.2.2.1,e.2.2.2.2.2.2.2.2.2.2.2.2.2.2.2.2.2.2.1,e.2.2.2.2.2.2.2.2.2.2.2.2.2.2.2.2.2.2.2.1,e.2.2.2.2.2.2.2.2.2.2.2.2.2.2.2.2.2.2.2.2.1,e.2.2.2.2.2.2.2.2.2.2.2.2.2.2.2.2.2.2.2.2.2.1⟩
abbrev T4:Type 1:=(β:Type)→LV→(Bool→Option β)→Option β
def P4:T4:=λ β code k=>
 k (decide ((nL code) > 1048576))
def F4:T4:=P4
def G4 (F:T4):GT:=λ β s k=>F β (lL s 0) (λ y1=>k (.bool y1))
abbrev W4 (F:T4):WT:=WU z0 (G4 F)
theorem k4:KU [] noX 4 Tryz.f4 z0 (G4 (P4 )):=λ _ _ _=>by kernel_rfl
theorem ok4:a0l D 4 (W4 F4):=a0b Tryz.func4 tn (k4 )
abbrev r0n:Type 1:=(β:Type)→LV→(U0→Option β)→Option β
def r1r:r0n:=λ β code k=>
 whl dS1 (λ x1=>
 jt0 (c0 x1.2.2 <|
 ix0 x1.1 x1.2.2.toNat λ n3=>
 some (.inl (eS1 (x1.1,b1r .and .i64 (wi ((wi ((wi (x1.2.1 * 137))+(IntKind.wrap .i64 n3)))+11)) 1073741823,wi (x1.2.2+1))))) λ j4=>
 br (decide (x1.2.2 < (nL x1.1))) (
 br (decide (x1.2.2 < 4000)) (
 j4) (
 some (.inr (0,eS0 (x1.1,x1.2.1))))) (
 some (.inr (0,eS0 (x1.1,x1.2.1))))) (eS1 (code,wi (193017+(nL code)),0)) λ r5=>
 wx dS0 r5.2 λ x6=>
 k ⟨x6.1,0,x6.2⟩
def f0n:r0n:=r1r
def h2n:a0y:=λ i=>b0c i [] [(3,[(.exit 0,xk 32 [(0,.sl 1 true []),(3,.int .i64 0)] [])])]
def w1w (F:r0n):GT:=λ β s k=>F β (lL s 0) (λ y1=>k (.tup [w10 y1]))
abbrev n1g (F:r0n):WT:=WU z0 (w1w F)
theorem j2h:KI [] h2n 41 ⟨[.data],32,0,true⟩ Tryz.f41 z0 (w1w (r1r )):=λ _ _ _=>by kernel_rfl
theorem j1x:a0l D 41 (ioW (n1g f0n)):=a0x Tryz.func41 tn (j2h )
abbrev T65:Type 1:=(β:Type)→(U1→Option β)→Option β
def P65:T65:=λ β  k=>
 k ⟨[],(-1)⟩
def F65:T65:=P65
def G65 (F:T65):GT:=λ β s k=>F β  (λ y1=>k (w11 y1))
abbrev W65 (F:T65):WT:=WU z1 (G65 F)
theorem k65:KU [] noX 65 Tryz.f65 z1 (G65 (P65 )):=λ _ _ _=>by kernel_rfl
theorem c3y:a0l D 65 (W65 F65):=a0b Tryz.func65 tn (k65 )
abbrev d1e:Type 1:=(β:Type)→U0→(Int→U0→Option β)→Option β
def r1y:d1e:=λ β c k=>
 br (decide (c.b < (nL c.a))) (
 c0 c.b <|
 ix0 c.a c.b.toNat λ n1=>
 k (b1r .and .i64 (wi ((b1r .and .i64 (b1r .xor .i64 (v1d .i64 (wi ((wi (c.c * 6364136223846793005))+1442695040888963407)) 33) (v1d .i64 (wi ((wi (c.c * 6364136223846793005))+1442695040888963407)) 47)) 255)+(IntKind.wrap .i64 n1))) 255) {c with b:=wi (c.b+1),c:=wi ((wi (c.c * 6364136223846793005))+1442695040888963407)}) (
 k (b1r .and .i64 (b1r .xor .i64 (v1d .i64 (wi ((wi (c.c * 6364136223846793005))+1442695040888963407)) 33) (v1d .i64 (wi ((wi (c.c * 6364136223846793005))+1442695040888963407)) 47)) 255) {c with c:=wi ((wi (c.c * 6364136223846793005))+1442695040888963407)})
def m0r:d1e:=r1y
def x1b (F:d1e):GT:=λ β s k=>F β (rd0 s 0) (λ y1 y2=>k (.tup [.int .i64 y1,w10 y2]))
abbrev x1t (F:d1e):WT:=WU z2 (x1b F)
theorem j2o:KI [] noX 58 ⟨[.pt],58,1,false⟩ Tryz.f58 z2 (x1b (r1y )):=λ _ _ _=>by kernel_rfl
theorem a2w:a0l D 58 (ioW (x1t m0r)):=a0x Tryz.func58 tn (j2o )
abbrev f0e:Type 1:=(β:Type)→Int→U0→(Int→U0→Option β)→Option β
def r1t (m0r:d1e):f0e:=λ β n c k=>
 br (decide (n≤0)) (
 k 0 c) (
 br (decide (n≤256)) (
 m0r _ c λ n1 y2=>
 chk (n ≠ 0) <|
 k (Int.tmod n1 n) y2) (
 m0r _ c λ n3 y4=>
 m0r _ y4 λ n5 y6=>
 m0r _ y6 λ n7 y8=>
 chk (n ≠ 0) <|
 k (Int.tmod (wi ((wi ((wi (n3 * 65536))+(wi (n5 * 256))))+n7)) n) y8))
def a0s:f0e:=r1t m0r
def w1x (F:f0e):GT:=λ β s k=>F β (lI s 0) (rd0 s 1) (λ y1 y2=>k (.tup [.int .i64 y1,w10 y2]))
abbrev o0i (F:f0e):WT:=WU z3 (w1x F)
theorem j2j (m0r:d1e):KI [(58,ioW (x1t m0r))] noX 43 ⟨[.pt,.data],31,1,false⟩ Tryz.f43 z3 (w1x (r1t m0r )):=λ _ _ _=>by kernel_rfl
theorem j0f:a0l D 43 (ioW (o0i a0s)):=a0x Tryz.func43 (tc a2w tn) (j2j m0r )
abbrev o0h:Type 1:=(β:Type)→LV→U0→(Int→U0→Option β)→Option β
def r1w (a0s:f0e):o0h:=λ β list c k=>
 a0s _ (nL list) c λ n1 y2=>
 c0 n1 <|
 ix1 list n1.toNat λ n3=>
 k n3 y2
def d0i:o0h:=r1w a0s
def w1z (F:o0h):GT:=λ β s k=>F β (lL s 0) (rd0 s 1) (λ y1 y2=>k (.tup [.int .i64 y1,w10 y2]))
abbrev g1w (F:o0h):WT:=WU z4 (w1z F)
theorem j2m (a0s:f0e):KI [(43,ioW (o0i a0s))] noX 56 ⟨[.pt,.data],12,1,false⟩ Tryz.f56 z4 (w1z (r1w a0s )):=λ _ _ _=>by kernel_rfl
theorem c1k:a0l D 56 (ioW (g1w d0i)):=a0x Tryz.func56 (tc j0f tn) (j2m a0s )
abbrev g0z:Type 1:=(β:Type)→Int→U0→(Bool→U0→Option β)→Option β
def s1b (a0s:f0e):g0z:=λ β n c k=>
 a0s _ n c λ n1 y2=>
 k (n1 == 0) y2
def b0e:g0z:=s1b a0s
def x1d (F:g0z):GT:=λ β s k=>F β (lI s 0) (rd0 s 1) (λ y1 y2=>k (.tup [.bool y1,w10 y2]))
abbrev u0c (F:g0z):WT:=WU z5 (x1d F)
theorem j2r (a0s:f0e):KI [(43,ioW (o0i a0s))] noX 67 ⟨[.pt,.data],9,1,false⟩ Tryz.f67 z5 (x1d (s1b a0s )):=λ _ _ _=>by kernel_rfl
theorem n0z:a0l D 67 (ioW (u0c b0e)):=a0x Tryz.func67 (tc j0f tn) (j2r a0s )
abbrev h0a:Type 1:=(β:Type)→LV→U0→(LU→U0→Option β)→Option β
def s1f (a0s:f0e):h0a:=λ β list c k=>
 a0s _ (nL list) c λ n1 y2=>
 c0 n1 <|
 ix2 list n1.toNat λ t3=>
 k t3 y2
def b0a:h0a:=s1f a0s
def x1g (F:h0a):GT:=λ β s k=>F β (lL s 0) (rd0 s 1) (λ y1 y2=>k (.tup [.str y1,w10 y2]))
abbrev u0d (F:h0a):WT:=WU z4 (x1g F)
theorem j2v (a0s:f0e):KI [(43,ioW (o0i a0s))] noX 77 ⟨[.pt,.data],12,1,false⟩ Tryz.f77 z4 (x1g (s1f a0s )):=λ _ _ _=>by kernel_rfl
theorem o0a:a0l D 77 (ioW (u0d b0a)):=a0x Tryz.func77 (tc j0f tn) (j2v a0s )
abbrev e0l:Type 1:=(β:Type)→Int→U0→(LU→U0→Option β)→Option β
def g1g (a0s:f0e)(b0a:h0a):e0l:=λ β most c k=>
 a0s _ most c λ n1 y2=>
 whl dS6 (λ x3=>
 br (decide (x3.2.1 > 0)) (
 jt1 (λ (t4:LU)=>
 b0a _ [.str [115,97,121,32,104,105],.str [99,111,117,110,116,32,112],.str [99,111,117,110,116,32,115,99,114,105,112,116],.str [108,111,111,107,32,112],.str [108,111,111,107,32,98],.str [97,100,100,32,98],.str [97,100,100,32,112],.str [119,114,105,116,101,32,91,112,93,120,91,47,112,93],.str [119,114,105,116,101,32,91,105,109,103,32,115,114,99,61,108,111,103,111,93],.str [119,114,105,116,101,32,91,108,105,110,107,32,104,114,101,102,61,115,116,121,108,101,93],.str [119,114,105,116,101,32,91,98,93]] x3.2.2 λ t5 y6=>
 cs t4 t5 <|
 some (.inl (eS6 (t4++t5,wi (x3.2.1 - 1),y6)))) λ j7=>
 br (!(x3.1 == [])) (
 cs x3.1 ([59]:LU) <|
 j7 (x3.1++[59])) (
 j7 x3.1)) (
 some (.inr (0,eS5 (x3.1,x3.2.2))))) (eS6 ([],wi (1+n1),y2)) λ r8=>
 wx dS5 r8.2 λ x9=>
 k x9.1 x9.2
def f0d:e0l:=g1g a0s b0a
def y1b:a0y:=λ i=>b0c i [] [(3,[(.exit 0,xkb 25 26 [(5,.str [])] [(25,.agg [.sl 1 true [],.int .i64 0,.int .i64 0])])])]
def r0z (F:e0l):GT:=λ β s k=>F β (lI s 0) (rd0 s 1) (λ y1 y2=>k (.tup [.str y1,w10 y2]))
abbrev g1u (F:e0l):WT:=WU z6 (r0z F)
theorem z1j (a0s:f0e)(b0a:h0a):KI [(43,ioW (o0i a0s)),(77,ioW (u0d b0a))] y1b 104 ⟨[.pt,.data],25,1,false⟩ Tryz.f104 z6 (r0z (g1g a0s b0a )):=λ _ _ _=>by kernel_rfl
theorem j1v:a0l D 104 (ioW (g1u f0d)):=a0x Tryz.func104 (tc j0f (tc o0a tn)) (z1j a0s b0a )
abbrev c0m:Type 1:=(β:Type)→U0→(LU→U0→Option β)→Option β
def g1i (a0s:f0e)(b0a:h0a):c0m:=λ β c k=>
 a0s _ 4 c λ n1 y2=>
 whl dS6 (λ x3=>
 br (decide (x3.2.1 > 0)) (
 b0a _ [.str [112],.str [98],.str [112,97,103,101],.str [80],.str []] x3.2.2 λ t4 y5=>
 cs x3.1 t4 <|
 cs (x3.1++t4) ([58]:LU) <|
 b0a _ [.str [49],.str [55],.str [57,57,57],.str [49,48,48,48],.str [48],.str [120]] y5 λ t6 y7=>
 cs ((x3.1++t4)++[58]) t6 <|
 cs (((x3.1++t4)++[58])++t6) ([59]:LU) <|
 some (.inl (eS6 ((((x3.1++t4)++[58])++t6)++[59],wi (x3.2.1 - 1),y7)))) (
 some (.inr (0,eS5 (x3.1,x3.2.2))))) (eS6 ([],n1,y2)) λ r8=>
 wx dS5 r8.2 λ x9=>
 k x9.1 x9.2
def j0z:c0m:=g1i a0s b0a
def y1c:a0y:=λ i=>b0c i [] [(3,[(.exit 0,xkb 23 24 [(3,.str [])] [(23,.agg [.sl 1 true [],.int .i64 0,.int .i64 0])])])]
def l0f (F:c0m):GT:=λ β s k=>F β (rd0 s 0) (λ y1 y2=>k (.tup [.str y1,w10 y2]))
abbrev q1j (F:c0m):WT:=WU z7 (l0f F)
theorem z1l (a0s:f0e)(b0a:h0a):KI [(43,ioW (o0i a0s)),(77,ioW (u0d b0a))] y1c 124 ⟨[.pt],23,1,false⟩ Tryz.f124 z7 (l0f (g1i a0s b0a )):=λ _ _ _=>by kernel_rfl
theorem u1d:a0l D 124 (ioW (q1j j0z)):=a0x Tryz.func124 (tc j0f (tc o0a tn)) (z1l a0s b0a )
end
end Go.Am
end

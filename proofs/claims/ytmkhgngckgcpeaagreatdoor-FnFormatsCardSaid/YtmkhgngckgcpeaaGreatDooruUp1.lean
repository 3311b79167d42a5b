/-
  Proved: lemmas for Rows.FnFormatsCardSaid.
-/
import Derived.Test.YtmkhgngckgcpeaaGreatDooruUp0
set_option linter.all false
set_option maxRecDepth 10000
namespace Go.Am
open Go Go.Proofs
noncomputable section
abbrev KU (a:List (Nat×WT))(X:aH)(f:Nat)(c:Func)(z:List V)(G:GT):Prop:=∀(O:Type) (b:LL) (k:V->Option O),Yt cfg (jD a) X f c O (V.bds b z 0).1 k=G O b k
abbrev KI (a:List (Nat×WT))(X:aH)(f:Nat)(s:Io)(c:Func)(z:List V)(G:GT):Prop:=∀(O:Type) (b:LL) (k:V->Option O),wE cfg (jD a) X f s c O (V.bds b z 0).1 k=G O b k
theorem tn {D:Nat->List V->Option V}:∀O,eM D (jD [] O):=GM
theorem tc {D:Nat->List V->Option V}{f:Nat}{w:WT}{l:List (Nat×WT)}(a:aC D f w)(b:∀O,eM D (jD l O)):∀O,eM D (jD ((f,w) :: l) O):=CR a b
structure U0 where
  a:LV
  b:Int
  c:Int
def fx (s:LL)(n:Nat):U0:=⟨lL s n,lI s (n+1),lI s (n+2)⟩
def uL (y:U0):LL:=[.l y.a,.i y.b,.i y.c]
structure U1 where
  a:Bool
  b:LV
  c:LV
  d:LV
  e:LU
def L3 (s:LL)(n:Nat):U1:=⟨lB s n,lL s (n+1),lL s (n+2),lL s (n+3),lS s (n+4)⟩
structure U2 where
  a:Int
  b:Int
  c:LU
  d:Int
  e:Bool
  f:LU
def sE (s:LL)(n:Nat):U2:=⟨lI s n,lI s (n+1),lS s (n+2),lI s (n+3),lB s (n+4),lS s (n+5)⟩
def TB (y:U2):LL:=[.i y.a,.i y.b,.s y.c,.i y.d,.b y.e,.s y.f]
structure U3 where
  a:LU
  b:LV
def L4 (s:LL)(n:Nat):U3:=⟨lS s n,lL s (n+1)⟩
def TC (y:U3):LL:=[.s y.a,.l y.b]
structure U4 where
  a:LU
  b:Int
  c:Int
  d:LU
  e:Int
  f:Bool
  g:LU
structure U5 where
  a:LU
  b:LU
def fQ (s:LL)(n:Nat):U5:=⟨lS s n,lS s (n+1)⟩
def xN (y:U5):LL:=[.s y.a,.s y.b]
structure U6 where
  a:LU
  b:LU
  c:Int
  d:LV
structure U7 where
  a:LV
  b:LV
def wm (s:LL)(n:Nat):U7:=⟨lL s n,lL s (n+1)⟩
def HE (y:U7):LL:=[.l y.a,.l y.b]
structure U8 where
  a:LU
  b:LU
  c:Bool
  d:LV
  e:LV
  f:LV
  g:LU
  h:LU
  i:LV
  j:Bool
  k:LV
  l:LV
  m:LV
  n:LV
  o:LV
  p:Int
  q:Int
  r:Int
  s:Int
  t:LV
  u:LV
  v:Bool
def dr (s:LL)(n:Nat):U8:=⟨lS s n,lS s (n+1),lB s (n+2),lL s (n+3),lL s (n+4),lL s (n+5),lS s (n+6),lS s (n+7),lL s (n+8),lB s (n+9),lL s (n+10),lL s (n+11),lL s (n+12),lL s (n+13),lL s (n+14),lI s (n+15),lI s (n+16),lI s (n+17),lI s (n+18),lL s (n+19),lL s (n+20),lB s (n+21)⟩
def mr (y:U8):LL:=[.s y.a,.s y.b,.b y.c,.l y.d,.l y.e,.l y.f,.s y.g,.s y.h,.l y.i,.b y.j,.l y.k,.l y.l,.l y.m,.l y.n,.l y.o,.i y.p,.i y.q,.i y.r,.i y.s,.l y.t,.l y.u,.b y.v]
structure U9 where
  a:Int
  b:LU
  c:LV
  d:LU
def TE (s:LL)(n:Nat):U9:=⟨lI s n,lS s (n+1),lL s (n+2),lS s (n+3)⟩
def w0c (y:U9):LL:=[.i y.a,.s y.b,.l y.c,.s y.d]
structure U10 where
  a:Int
  b:LU
  c:LU
  d:LU
  e:Int
  f:Bool
  g:Int
  h:LU
structure U11 where
  a:Int
  b:LU
def Ja (s:LL)(n:Nat):U11:=⟨lI s n,lS s (n+1)⟩
def Qz (y:U11):LL:=[.i y.a,.s y.b]
structure U12 where
  a:LU
  b:Int
structure U13 where
  a:Int
  b:LU
  c:LU
  d:LU
  e:LU
def Fz9 (s:LL)(n:Nat):U13:=⟨lI s n,lS s (n+1),lS s (n+2),lS s (n+3),lS s (n+4)⟩
structure U14 where
  a:LU
  b:LU
  c:Bool
  d:Int
  e:LU
structure U15 where
  a:LU
  b:LU
  c:LU
  d:Bool
def x0q (s:LL)(n:Nat):U15:=⟨lS s n,lS s (n+1),lS s (n+2),lB s (n+3)⟩
structure U16 where
  a:LU
  b:LU
  c:LU
  d:Int
  e:Int
  f:LU
  g:Int
  h:Bool
  i:LU
  j:Int
structure U17 where
  a:LV
  b:Int
def iH (s:LL)(n:Nat):U17:=⟨lL s n,lI s (n+1)⟩
def r_ (y:U17):LL:=[.l y.a,.i y.b]
structure U18 where
  a:LU
  b:LU
  c:LU
  d:LU
  e:Bool
  f:LV
  g:LV
  h:LV
  i:LU
  j:LU
  k:LV
  l:Bool
  m:LV
  n:LV
  o:LV
  p:LV
  q:LV
  r:Int
  s:Int
  t:Int
  u:Int
  v:LV
  w:LV
  x:Bool
  y:Bool
structure U19 where
  a:LV
  b:LV
  c:LV
  d:Int
def fy (s:LL)(n:Nat):U19:=⟨lL s n,lL s (n+1),lL s (n+2),lI s (n+3)⟩
def sA (y:U19):LL:=[.l y.a,.l y.b,.l y.c,.i y.d]
structure U20 where
  a:LV
  b:LV
  c:LV
  d:Int
  e:LV
  f:Int
  g:Bool
  h:LU
  i:LU
  j:Bool
  k:LV
  l:LV
  m:LV
  n:LU
  o:LU
  p:LV
  q:Bool
  r:LV
  s:LV
  t:LV
  u:LV
  v:LV
  w:Int
  x:Int
  y:Int
  z:Int
  aa:LV
  ab:LV
  ac:Bool
  ad:LV
  ae:LV
  af:Int
  ag:Bool
def uU (s:LL)(n:Nat):U20:=⟨lL s n,lL s (n+1),lL s (n+2),lI s (n+3),lL s (n+4),lI s (n+5),lB s (n+6),lS s (n+7),lS s (n+8),lB s (n+9),lL s (n+10),lL s (n+11),lL s (n+12),lS s (n+13),lS s (n+14),lL s (n+15),lB s (n+16),lL s (n+17),lL s (n+18),lL s (n+19),lL s (n+20),lL s (n+21),lI s (n+22),lI s (n+23),lI s (n+24),lI s (n+25),lL s (n+26),lL s (n+27),lB s (n+28),lL s (n+29),lL s (n+30),lI s (n+31),lB s (n+32)⟩
def Ze (y:U20):LL:=[.l y.a,.l y.b,.l y.c,.i y.d,.l y.e,.i y.f,.b y.g,.s y.h,.s y.i,.b y.j,.l y.k,.l y.l,.l y.m,.s y.n,.s y.o,.l y.p,.b y.q,.l y.r,.l y.s,.l y.t,.l y.u,.l y.v,.i y.w,.i y.x,.i y.y,.i y.z,.l y.aa,.l y.ab,.b y.ac,.l y.ad,.l y.ae,.i y.af,.b y.ag]
structure U21 where
  a:Bool
  b:LU
  c:LU
  d:Bool
  e:LV
  f:LV
  g:LV
  h:LU
  i:LU
  j:LV
  k:Bool
  l:LV
  m:LV
  n:LV
  o:LV
  p:LV
  q:Int
  r:Int
  s:Int
  t:Int
  u:LV
  v:LV
  w:Bool
  x:LV
  y:LV
  z:Int
def FT (s:LL)(n:Nat):U21:=⟨lB s n,lS s (n+1),lS s (n+2),lB s (n+3),lL s (n+4),lL s (n+5),lL s (n+6),lS s (n+7),lS s (n+8),lL s (n+9),lB s (n+10),lL s (n+11),lL s (n+12),lL s (n+13),lL s (n+14),lL s (n+15),lI s (n+16),lI s (n+17),lI s (n+18),lI s (n+19),lL s (n+20),lL s (n+21),lB s (n+22),lL s (n+23),lL s (n+24),lI s (n+25)⟩
def Zf (y:U21):LL:=[.b y.a,.s y.b,.s y.c,.b y.d,.l y.e,.l y.f,.l y.g,.s y.h,.s y.i,.l y.j,.b y.k,.l y.l,.l y.m,.l y.n,.l y.o,.l y.p,.i y.q,.i y.r,.i y.s,.i y.t,.l y.u,.l y.v,.b y.w,.l y.x,.l y.y,.i y.z]
structure U22 where
  a:LU
  b:LU
  c:Int
  d:Int
  e:LU
  f:Int
  g:Bool
  h:LU
structure U23 where
  a:LV
  b:LV
  c:LV
  d:Int
  e:LU
  f:LU
  g:Bool
  h:LV
  i:LV
  j:LV
  k:LU
  l:LU
  m:LV
  n:Bool
  o:LV
  p:LV
  q:LV
  r:LV
  s:LV
  t:Int
  u:Int
  v:Int
  w:Int
  x:LV
  y:LV
  z:Bool
  aa:LV
  ab:LV
  ac:LV
def et (s:LL)(n:Nat):U23:=⟨lL s n,lL s (n+1),lL s (n+2),lI s (n+3),lS s (n+4),lS s (n+5),lB s (n+6),lL s (n+7),lL s (n+8),lL s (n+9),lS s (n+10),lS s (n+11),lL s (n+12),lB s (n+13),lL s (n+14),lL s (n+15),lL s (n+16),lL s (n+17),lL s (n+18),lI s (n+19),lI s (n+20),lI s (n+21),lI s (n+22),lL s (n+23),lL s (n+24),lB s (n+25),lL s (n+26),lL s (n+27),lL s (n+28)⟩
def jy (y:U23):LL:=[.l y.a,.l y.b,.l y.c,.i y.d,.s y.e,.s y.f,.b y.g,.l y.h,.l y.i,.l y.j,.s y.k,.s y.l,.l y.m,.b y.n,.l y.o,.l y.p,.l y.q,.l y.r,.l y.s,.i y.t,.i y.u,.i y.v,.i y.w,.l y.x,.l y.y,.b y.z,.l y.aa,.l y.ab,.l y.ac]
structure U24 where
  a:LU
  b:LU
  c:Int
  d:Bool
  e:Int
  f:Int
  g:LU
  h:Int
  i:Bool
  j:LU
def RU (s:LL)(n:Nat):U24:=⟨lS s n,lS s (n+1),lI s (n+2),lB s (n+3),lI s (n+4),lI s (n+5),lS s (n+6),lI s (n+7),lB s (n+8),lS s (n+9)⟩
def Q0 (y:U24):LL:=[.s y.a,.s y.b,.i y.c,.b y.d,.i y.e,.i y.f,.s y.g,.i y.h,.b y.i,.s y.j]
structure U25 where
  a:LU
  b:LU
  c:Int
  d:Int
  e:LU
  f:Int
  g:Bool
  h:LU
  i:Bool
abbrev z0f:=LV×Int
def XC (s:LL):z0f:=(lL s 0,lI s 1)
def HC (x:z0f):LL:=[.l x.1,.i x.2]
theorem h0t (x:z0f):XC (HC x)=x:=rfl
abbrev z0g:=LV×Int×Int
def XD (s:LL):z0g:=(lL s 0,lI s 1,lI s 2)
def D9 (x:z0g):LL:=[.l x.1,.i x.2.1,.i x.2.2]
theorem h0u (x:z0g):XD (D9 x)=x:=rfl
abbrev d1w:=LU×U0
def h0r (s:LL):d1w:=(lS s 0,fx s 1)
def LC (x:d1w):LL:=[.s x.1]++uL x.2
abbrev z0h:=LU×Int×U0
def XT (s:LL):z0h:=(lS s 0,lI s 1,fx s 2)
def HD (x:z0h):LL:=[.s x.1,.i x.2.1]++uL x.2.2
theorem h0v (x:z0h):XT (HD x)=x:=rfl
abbrev d1x:=LV×U0
def S5 (s:LL):d1x:=(lL s 0,fx s 1)
def Cd (x:d1x):LL:=[.l x.1]++uL x.2
abbrev z0i:=LV×LV×Int×Int×U0
def o0l (s:LL):z0i:=(lL s 0,lL s 1,lI s 2,lI s 3,fx s 4)
def Ia (x:z0i):LL:=[.l x.1,.l x.2.1,.i x.2.2.1,.i x.2.2.2.1]++uL x.2.2.2.2
theorem c1u (x:z0i):o0l (Ia x)=x:=rfl
abbrev d1y:=LV
def ru (s:LL):d1y:=lL s 0
def fo (x:d1y):LL:=[.l x]
abbrev d1z:=LU
def Pv (s:LL):d1z:=lS s 0
def uC (x:d1z):LL:=[.s x]
abbrev e1a:=LU×Bool
def h0s (s:LL):e1a:=(lS s 0,lB s 1)
def vy (x:e1a):LL:=[.s x.1,.b x.2]
abbrev z0j:=LU×Int
def S6 (s:LL):z0j:=(lS s 0,lI s 1)
def qD (x:z0j):LL:=[.s x.1,.i x.2]
theorem c1v (x:z0j):S6 (qD x)=x:=rfl
abbrev d0p:=LV×Bool
def XE (s:LL):d0p:=(lL s 0,lB s 1)
def D_ (x:d0p):LL:=[.l x.1,.b x.2]
abbrev Rk:=LU×LV×Int
def Pk (s:LL):Rk:=(lS s 0,lL s 1,lI s 2)
def EC (x:Rk):LL:=[.s x.1,.l x.2.1,.i x.2.2]
theorem X4 (x:Rk):Pk (EC x)=x:=rfl
abbrev Rl:=U2×U2×U0
def Pm (s:LL):Rl:=(sE s 0,sE s 6,fx s 12)
def EJ (x:Rl):LL:=TB x.1++TB x.2.1++uL x.2.2
theorem p0d (x:Rl):Pm (EJ x)=x:=rfl
abbrev d0q:=LV×LU×LV×Int×Int×U0
def n0z (s:LL):d0q:=(lL s 0,lS s 1,lL s 2,lI s 3,lI s 4,fx s 5)
def YW (x:d0q):LL:=[.l x.1,.s x.2.1,.l x.2.2.1,.i x.2.2.2.1,.i x.2.2.2.2.1]++uL x.2.2.2.2.2
abbrev d0r:=Int
def iX (s:LL):d0r:=lI s 0
def cY (x:d0r):LL:=[.i x]
abbrev Rm:=LV×LU×Int
def Bb (s:LL):Rm:=(lL s 0,lS s 1,lI s 2)
def pC (x:Rm):LL:=[.l x.1,.s x.2.1,.i x.2.2]
theorem IP (x:Rm):Bb (pC x)=x:=rfl
abbrev Rn:=LU×Int×U3
def XN (s:LL):Rn:=(lS s 0,lI s 1,L4 s 2)
def QB (x:Rn):LL:=[.s x.1,.i x.2.1]++TC x.2.2
theorem p0e (x:Rn):XN (QB x)=x:=rfl
abbrev d0s:=U3
def o0a (s:LL):d0s:=L4 s 0
def QC (x:d0s):LL:=TC x
abbrev Ro:=LU×Int×LV×Int×Int
def XO (s:LL):Ro:=(lS s 0,lI s 1,lL s 2,lI s 3,lI s 4)
def IU (x:Ro):LL:=[.s x.1,.i x.2.1,.l x.2.2.1,.i x.2.2.2.1,.i x.2.2.2.2]
theorem YL (x:Ro):XO (IU x)=x:=rfl
abbrev Rp:=Int×U3
def Pp (s:LL):Rp:=(lI s 0,L4 s 1)
def Bh (x:Rp):LL:=[.i x.1]++TC x.2
theorem YM (x:Rp):Pp (Bh x)=x:=rfl
abbrev d0t:=Bool×Int×U3
def o0b (s:LL):d0t:=(lB s 0,lI s 1,L4 s 2)
def YX (x:d0t):LL:=[.b x.1,.i x.2.1]++TC x.2.2
abbrev Rr:=Int×Int×U3
def XP (s:LL):Rr:=(lI s 0,lI s 1,L4 s 2)
def QD (x:Rr):LL:=[.i x.1,.i x.2.1]++TC x.2.2
theorem p0f (x:Rr):XP (QD x)=x:=rfl
abbrev d0u:=Bool×U3
def o0c (s:LL):d0u:=(lB s 0,L4 s 1)
def IV (x:d0u):LL:=[.b x.1]++TC x.2
abbrev Rs:=LV×LU×LV×Int×Int×LV×Int×Int×U0
def XQ (s:LL):Rs:=(lL s 0,lS s 1,lL s 2,lI s 3,lI s 4,lL s 5,lI s 6,lI s 7,fx s 8)
def IW (x:Rs):LL:=[.l x.1,.s x.2.1,.l x.2.2.1,.i x.2.2.2.1,.i x.2.2.2.2.1,.l x.2.2.2.2.2.1,.i x.2.2.2.2.2.2.1,.i x.2.2.2.2.2.2.2.1]++uL x.2.2.2.2.2.2.2.2
theorem p0g (x:Rs):XQ (IW x)=x:=rfl
abbrev Rt:=LV×LV×Int
def vl (s:LL):Rt:=(lL s 0,lL s 1,lI s 2)
def ld (x:Rt):LL:=[.l x.1,.l x.2.1,.i x.2.2]
theorem Bd (x:Rt):vl (ld x)=x:=rfl
abbrev d0v:=U7
def XR (s:LL):d0v:=wm s 0
def IX (x:d0v):LL:=HE x
abbrev Ru:=Int×U7×U7
def XS (s:LL):Ru:=(lI s 0,wm s 1,wm s 3)
def QE (x:Ru):LL:=[.i x.1]++HE x.2.1++HE x.2.2
theorem p0h (x:Ru):XS (QE x)=x:=rfl
abbrev Rv:=LU×Int×Int
def Pq (s:LL):Rv:=(lS s 0,lI s 1,lI s 2)
def EQ (x:Rv):LL:=[.s x.1,.i x.2.1,.i x.2.2]
theorem YN (x:Rv):Pq (EQ x)=x:=rfl
abbrev d0w:=Int×LU×LU×U9
def o0d (s:LL):d0w:=(lI s 0,lS s 1,lS s 2,TE s 3)
def YY (x:d0w):LL:=[.i x.1,.s x.2.1,.s x.2.2.1]++w0c x.2.2.2
abbrev d0x:=Bool×Int×LU×LU×U9
def o0e (s:LL):d0x:=(lB s 0,lI s 1,lS s 2,lS s 3,TE s 4)
def ER (x:d0x):LL:=[.b x.1,.i x.2.1,.s x.2.2.1,.s x.2.2.2.1]++w0c x.2.2.2.2
abbrev Ry:=LV×Int×Int×LU×LU×U9
def XU (s:LL):Ry:=(lL s 0,lI s 1,lI s 2,lS s 3,lS s 4,TE s 5)
def QF (x:Ry):LL:=[.l x.1,.i x.2.1,.i x.2.2.1,.s x.2.2.2.1,.s x.2.2.2.2.1]++w0c x.2.2.2.2.2
theorem p0i (x:Ry):XU (QF x)=x:=rfl
abbrev d0y:=LV×LU
def XV (s:LL):d0y:=(lL s 0,lS s 1)
def vt (x:d0y):LL:=[.l x.1,.s x.2]
abbrev Rz:=LV×LU×LU
def XW (s:LL):Rz:=(lL s 0,lS s 1,lS s 2)
def ES (x:Rz):LL:=[.l x.1,.s x.2.1,.s x.2.2]
theorem p0j (x:Rz):XW (ES x)=x:=rfl
abbrev CQ:=LU×LU×Bool×LU×LU×Bool×Int×Int×Int×Int×Bool×U8
def IJ (s:LL):CQ:=(lS s 0,lS s 1,lB s 2,lS s 3,lS s 4,lB s 5,lI s 6,lI s 7,lI s 8,lI s 9,lB s 10,dr s 11)
def vu (x:CQ):LL:=[.s x.1,.s x.2.1,.b x.2.2.1,.s x.2.2.2.1,.s x.2.2.2.2.1,.b x.2.2.2.2.2.1,.i x.2.2.2.2.2.2.1,.i x.2.2.2.2.2.2.2.1,.i x.2.2.2.2.2.2.2.2.1,.i x.2.2.2.2.2.2.2.2.2.1,.b x.2.2.2.2.2.2.2.2.2.2.1]++mr x.2.2.2.2.2.2.2.2.2.2.2
abbrev d0z:=Bool
def Bc (s:LL):d0z:=lB s 0
def lf (x:d0z):LL:=[.b x]
abbrev R0:=Int×U8
def XX (s:LL):R0:=(lI s 0,dr s 1)
def IY (x:R0):LL:=[.i x.1]++mr x.2
theorem p0k (x:R0):XX (IY x)=x:=rfl
abbrev R1:=Int×LU×Int×U7
def XY (s:LL):R1:=(lI s 0,lS s 1,lI s 2,wm s 3)
def ET (x:R1):LL:=[.i x.1,.s x.2.1,.i x.2.2.1]++HE x.2.2.2
theorem p0l (x:R1):XY (ET x)=x:=rfl
abbrev e0a:=U11
def o0f (s:LL):e0a:=Ja s 0
def YZ (x:e0a):LL:=Qz x
abbrev e0b:=Bool×U11
def o0g (s:LL):e0b:=(lB s 0,Ja s 1)
def Bj (x:e0b):LL:=[.b x.1]++Qz x.2
abbrev R2:=LU×LV×Int×U11
def XZ (s:LL):R2:=(lS s 0,lL s 1,lI s 2,Ja s 3)
def QG (x:R2):LL:=[.s x.1,.l x.2.1,.i x.2.2.1]++Qz x.2.2.2
theorem p0m (x:R2):XZ (QG x)=x:=rfl
abbrev e0c:=LV×Bool×LV
def o0h (s:LL):e0c:=(lL s 0,lB s 1,lL s 2)
def QH (x:e0c):LL:=[.l x.1,.b x.2.1,.l x.2.2]
abbrev e0d:=LU×Int×Bool×Int
def o0i (s:LL):e0d:=(lS s 0,lI s 1,lB s 2,lI s 3)
def Ya (x:e0d):LL:=[.s x.1,.i x.2.1,.b x.2.2.1,.i x.2.2.2]
abbrev e0e:=Int×LU
def o0j (s:LL):e0e:=(lI s 0,lS s 1)
def EU (x:e0e):LL:=[.i x.1,.s x.2]
abbrev R3:=Int×LU×Int
def Xa (s:LL):R3:=(lI s 0,lS s 1,lI s 2)
def uB (x:R3):LL:=[.i x.1,.s x.2.1,.i x.2.2]
theorem YO (x:R3):Xa (uB x)=x:=rfl
abbrev R4:=LV×Int×LV
def Xb (s:LL):R4:=(lL s 0,lI s 1,lL s 2)
def Bk (x:R4):LL:=[.l x.1,.i x.2.1,.l x.2.2]
theorem p0n (x:R4):Xb (Bk x)=x:=rfl
abbrev R5:=LV×Int×U8
def vm (s:LL):R5:=(lL s 0,lI s 1,dr s 2)
def ga (x:R5):LL:=[.l x.1,.i x.2.1]++mr x.2.2
theorem yA (x:R5):vm (ga x)=x:=rfl
abbrev e0f:=LU×LV×U7
def o0k (s:LL):e0f:=(lS s 0,lL s 1,wm s 2)
def Yb (x:e0f):LL:=[.s x.1,.l x.2.1]++HE x.2.2
abbrev R6:=LU×Int×Int×U7
def Xc (s:LL):R6:=(lS s 0,lI s 1,lI s 2,wm s 3)
def IZ (x:R6):LL:=[.s x.1,.i x.2.1,.i x.2.2.1]++HE x.2.2.2
theorem p0o (x:R6):Xc (IZ x)=x:=rfl
abbrev R7:=LV×LU×Int×Int
def Ps (s:LL):R7:=(lL s 0,lS s 1,lI s 2,lI s 3)
def EV (x:R7):LL:=[.l x.1,.s x.2.1,.i x.2.2.1,.i x.2.2.2]
theorem p0p (x:R7):Ps (EV x)=x:=rfl
abbrev R8:=LV×LV×LU×LV×Int×U7
def Xd (s:LL):R8:=(lL s 0,lL s 1,lS s 2,lL s 3,lI s 4,wm s 5)
def Ib (x:R8):LL:=[.l x.1,.l x.2.1,.s x.2.2.1,.l x.2.2.2.1,.i x.2.2.2.2.1]++HE x.2.2.2.2.2
theorem p0q (x:R8):Xd (Ib x)=x:=rfl
abbrev R9:=Bool×LU×LU×LU×Bool×LU×LU×Bool×Int×Int×Int×Int×Bool×U8
def o0m (s:LL):R9:=(lB s 0,lS s 1,lS s 2,lS s 3,lB s 4,lS s 5,lS s 6,lB s 7,lI s 8,lI s 9,lI s 10,lI s 11,lB s 12,dr s 13)
def QI (x:R9):LL:=[.b x.1,.s x.2.1,.s x.2.2.1,.s x.2.2.2.1,.b x.2.2.2.2.1,.s x.2.2.2.2.2.1,.s x.2.2.2.2.2.2.1,.b x.2.2.2.2.2.2.2.1,.i x.2.2.2.2.2.2.2.2.1,.i x.2.2.2.2.2.2.2.2.2.1,.i x.2.2.2.2.2.2.2.2.2.2.1,.i x.2.2.2.2.2.2.2.2.2.2.2.1,.b x.2.2.2.2.2.2.2.2.2.2.2.2.1]++mr x.2.2.2.2.2.2.2.2.2.2.2.2.2
abbrev R_:=Bool×LU×LV×Int×LU×LU×Bool×LU×LU×Bool×Int×Int×Int×Int×Bool×U8
def Xe (s:LL):R_:=(lB s 0,lS s 1,lL s 2,lI s 3,lS s 4,lS s 5,lB s 6,lS s 7,lS s 8,lB s 9,lI s 10,lI s 11,lI s 12,lI s 13,lB s 14,dr s 15)
def QJ (x:R_):LL:=[.b x.1,.s x.2.1,.l x.2.2.1,.i x.2.2.2.1,.s x.2.2.2.2.1,.s x.2.2.2.2.2.1,.b x.2.2.2.2.2.2.1,.s x.2.2.2.2.2.2.2.1,.s x.2.2.2.2.2.2.2.2.1,.b x.2.2.2.2.2.2.2.2.2.1,.i x.2.2.2.2.2.2.2.2.2.2.1,.i x.2.2.2.2.2.2.2.2.2.2.2.1,.i x.2.2.2.2.2.2.2.2.2.2.2.2.1,.i x.2.2.2.2.2.2.2.2.2.2.2.2.2.1,.b x.2.2.2.2.2.2.2.2.2.2.2.2.2.2.1]++mr x.2.2.2.2.2.2.2.2.2.2.2.2.2.2.2
theorem p0r (x:R_):Xe (QJ x)=x:=rfl
abbrev e0g:=U7×U7
def o0n (s:LL):e0g:=(wm s 0,wm s 2)
def Yc (x:e0g):LL:=HE x.1++HE x.2
abbrev SA:=LU×Int×U7
def Xf (s:LL):SA:=(lS s 0,lI s 1,wm s 2)
def Ic (x:SA):LL:=[.s x.1,.i x.2.1]++HE x.2.2
theorem p0s (x:SA):Xf (Ic x)=x:=rfl
abbrev e0h:=U5×U5
def o0o (s:LL):e0h:=(fQ s 0,fQ s 2)
def QK (x:e0h):LL:=xN x.1++xN x.2
abbrev SB:=LU×Int×U5×U5
def Xg (s:LL):SB:=(lS s 0,lI s 1,fQ s 2,fQ s 4)
def QL (x:SB):LL:=[.s x.1,.i x.2.1]++xN x.2.2.1++xN x.2.2.2
theorem p0t (x:SB):Xg (QL x)=x:=rfl
abbrev Jp:=Int×U8×U5×LU×LU×Bool×LU×LU×Bool×Int×Int×Int×Int×Bool×U8
def Pt (s:LL):Jp:=(lI s 0,dr s 1,fQ s 23,lS s 25,lS s 26,lB s 27,lS s 28,lS s 29,lB s 30,lI s 31,lI s 32,lI s 33,lI s 34,lB s 35,dr s 36)
def Bl (x:Jp):LL:=[.i x.1]++mr x.2.1++xN x.2.2.1++[.s x.2.2.2.1,.s x.2.2.2.2.1,.b x.2.2.2.2.2.1,.s x.2.2.2.2.2.2.1,.s x.2.2.2.2.2.2.2.1,.b x.2.2.2.2.2.2.2.2.1,.i x.2.2.2.2.2.2.2.2.2.1,.i x.2.2.2.2.2.2.2.2.2.2.1,.i x.2.2.2.2.2.2.2.2.2.2.2.1,.i x.2.2.2.2.2.2.2.2.2.2.2.2.1,.b x.2.2.2.2.2.2.2.2.2.2.2.2.2.1]++mr x.2.2.2.2.2.2.2.2.2.2.2.2.2.2
theorem p0u (x:Jp):Pt (Bl x)=x:=rfl
abbrev SC:=LV×Int×U5
def IK (s:LL):SC:=(lL s 0,lI s 1,fQ s 2)
def yC (x:SC):LL:=[.l x.1,.i x.2.1]++xN x.2.2
theorem P0 (x:SC):IK (yC x)=x:=rfl
abbrev SD:=Int×U8×U5
def Pu (s:LL):SD:=(lI s 0,dr s 1,fQ s 23)
def EW (x:SD):LL:=[.i x.1]++mr x.2.1++xN x.2.2
theorem YP (x:SD):Pu (EW x)=x:=rfl
abbrev e0i:=LV×LV×Bool×LV×LU
def o0p (s:LL):e0i:=(lL s 0,lL s 1,lB s 2,lL s 3,lS s 4)
def Yd (x:e0i):LL:=[.l x.1,.l x.2.1,.b x.2.2.1,.l x.2.2.2.1,.s x.2.2.2.2]
abbrev SE:=LU×LV×LU
def Xh (s:LL):SE:=(lS s 0,lL s 1,lS s 2)
def QM (x:SE):LL:=[.s x.1,.l x.2.1,.s x.2.2]
theorem p0v (x:SE):Xh (QM x)=x:=rfl
abbrev e0j:=LV×LV×U5
def o0q (s:LL):e0j:=(lL s 0,lL s 1,fQ s 2)
def Ye (x:e0j):LL:=[.l x.1,.l x.2.1]++xN x.2.2
abbrev SF:=LV×LV×LV×Int×U8×U5
def Xi (s:LL):SF:=(lL s 0,lL s 1,lL s 2,lI s 3,dr s 4,fQ s 26)
def QN (x:SF):LL:=[.l x.1,.l x.2.1,.l x.2.2.1,.i x.2.2.2.1]++mr x.2.2.2.2.1++xN x.2.2.2.2.2
theorem p0w (x:SF):Xi (QN x)=x:=rfl
abbrev Jq:=LV×Int×LU×LU×Bool×LU×LU×Bool×Int×Int×Int×Int×Bool×U8
def IL (s:LL):Jq:=(lL s 0,lI s 1,lS s 2,lS s 3,lB s 4,lS s 5,lS s 6,lB s 7,lI s 8,lI s 9,lI s 10,lI s 11,lB s 12,dr s 13)
def vx (x:Jq):LL:=[.l x.1,.i x.2.1,.s x.2.2.1,.s x.2.2.2.1,.b x.2.2.2.2.1,.s x.2.2.2.2.2.1,.s x.2.2.2.2.2.2.1,.b x.2.2.2.2.2.2.2.1,.i x.2.2.2.2.2.2.2.2.1,.i x.2.2.2.2.2.2.2.2.2.1,.i x.2.2.2.2.2.2.2.2.2.2.1,.i x.2.2.2.2.2.2.2.2.2.2.2.1,.b x.2.2.2.2.2.2.2.2.2.2.2.2.1]++mr x.2.2.2.2.2.2.2.2.2.2.2.2.2
theorem YQ (x:Jq):IL (vx x)=x:=rfl
abbrev SG:=LV×Int×LV×Int×LU×LU×Bool×LU×LU×Bool×Int×Int×Int×Int×Bool×U8
def Xj (s:LL):SG:=(lL s 0,lI s 1,lL s 2,lI s 3,lS s 4,lS s 5,lB s 6,lS s 7,lS s 8,lB s 9,lI s 10,lI s 11,lI s 12,lI s 13,lB s 14,dr s 15)
def QO (x:SG):LL:=[.l x.1,.i x.2.1,.l x.2.2.1,.i x.2.2.2.1,.s x.2.2.2.2.1,.s x.2.2.2.2.2.1,.b x.2.2.2.2.2.2.1,.s x.2.2.2.2.2.2.2.1,.s x.2.2.2.2.2.2.2.2.1,.b x.2.2.2.2.2.2.2.2.2.1,.i x.2.2.2.2.2.2.2.2.2.2.1,.i x.2.2.2.2.2.2.2.2.2.2.2.1,.i x.2.2.2.2.2.2.2.2.2.2.2.2.1,.i x.2.2.2.2.2.2.2.2.2.2.2.2.2.1,.b x.2.2.2.2.2.2.2.2.2.2.2.2.2.2.1]++mr x.2.2.2.2.2.2.2.2.2.2.2.2.2.2.2
theorem p0x (x:SG):Xj (QO x)=x:=rfl
abbrev e0k:=U8×U8
def o0r (s:LL):e0k:=(dr s 0,dr s 22)
def QP (x:e0k):LL:=mr x.1++mr x.2
abbrev SH:=Int×LU×LU×Bool×LU×LU×Bool×Int×Int×Int×Int×Bool×U8
def Xk (s:LL):SH:=(lI s 0,lS s 1,lS s 2,lB s 3,lS s 4,lS s 5,lB s 6,lI s 7,lI s 8,lI s 9,lI s 10,lB s 11,dr s 12)
def Ie (x:SH):LL:=[.i x.1,.s x.2.1,.s x.2.2.1,.b x.2.2.2.1,.s x.2.2.2.2.1,.s x.2.2.2.2.2.1,.b x.2.2.2.2.2.2.1,.i x.2.2.2.2.2.2.2.1,.i x.2.2.2.2.2.2.2.2.1,.i x.2.2.2.2.2.2.2.2.2.1,.i x.2.2.2.2.2.2.2.2.2.2.1,.b x.2.2.2.2.2.2.2.2.2.2.2.1]++mr x.2.2.2.2.2.2.2.2.2.2.2.2
theorem p0y (x:SH):Xk (Ie x)=x:=rfl
abbrev SI:=LV×LU×LU×Bool×LU×LU×Bool×Int×Int×Int×Int×Bool×U8×U0
def Xl (s:LL):SI:=(lL s 0,lS s 1,lS s 2,lB s 3,lS s 4,lS s 5,lB s 6,lI s 7,lI s 8,lI s 9,lI s 10,lB s 11,dr s 12,fx s 34)
def QQ (x:SI):LL:=[.l x.1,.s x.2.1,.s x.2.2.1,.b x.2.2.2.1,.s x.2.2.2.2.1,.s x.2.2.2.2.2.1,.b x.2.2.2.2.2.2.1,.i x.2.2.2.2.2.2.2.1,.i x.2.2.2.2.2.2.2.2.1,.i x.2.2.2.2.2.2.2.2.2.1,.i x.2.2.2.2.2.2.2.2.2.2.1,.b x.2.2.2.2.2.2.2.2.2.2.2.1]++mr x.2.2.2.2.2.2.2.2.2.2.2.2.1++uL x.2.2.2.2.2.2.2.2.2.2.2.2.2
abbrev e0l:=LV×U8
def o0s (s:LL):e0l:=(lL s 0,dr s 1)
def Yf (x:e0l):LL:=[.l x.1]++mr x.2
abbrev SJ:=LV×LV×Int×U8
def IM (s:LL):SJ:=(lL s 0,lL s 1,lI s 2,dr s 3)
def pD (x:SJ):LL:=[.l x.1,.l x.2.1,.i x.2.2.1]++mr x.2.2.2
theorem P1 (x:SJ):IM (pD x)=x:=rfl
abbrev SK:=Int×U8×U5×U2×LU×LU×Bool×LU×LU×Bool×Int×Int×Int×Int×Bool×U8
def Xm (s:LL):SK:=(lI s 0,dr s 1,fQ s 23,sE s 25,lS s 31,lS s 32,lB s 33,lS s 34,lS s 35,lB s 36,lI s 37,lI s 38,lI s 39,lI s 40,lB s 41,dr s 42)
def If (x:SK):LL:=[.i x.1]++mr x.2.1++xN x.2.2.1++TB x.2.2.2.1++[.s x.2.2.2.2.1,.s x.2.2.2.2.2.1,.b x.2.2.2.2.2.2.1,.s x.2.2.2.2.2.2.2.1,.s x.2.2.2.2.2.2.2.2.1,.b x.2.2.2.2.2.2.2.2.2.1,.i x.2.2.2.2.2.2.2.2.2.2.1,.i x.2.2.2.2.2.2.2.2.2.2.2.1,.i x.2.2.2.2.2.2.2.2.2.2.2.2.1,.i x.2.2.2.2.2.2.2.2.2.2.2.2.2.1,.b x.2.2.2.2.2.2.2.2.2.2.2.2.2.2.1]++mr x.2.2.2.2.2.2.2.2.2.2.2.2.2.2.2
theorem p0z (x:SK):Xm (If x)=x:=rfl
abbrev SL:=LV×Int×LU×LU×Bool×LU×LU×Bool×Int×Int×Int×Int×Bool×U8×U0
def Pw (s:LL):SL:=(lL s 0,lI s 1,lS s 2,lS s 3,lB s 4,lS s 5,lS s 6,lB s 7,lI s 8,lI s 9,lI s 10,lI s 11,lB s 12,dr s 13,fx s 35)
def yD (x:SL):LL:=[.l x.1,.i x.2.1,.s x.2.2.1,.s x.2.2.2.1,.b x.2.2.2.2.1,.s x.2.2.2.2.2.1,.s x.2.2.2.2.2.2.1,.b x.2.2.2.2.2.2.2.1,.i x.2.2.2.2.2.2.2.2.1,.i x.2.2.2.2.2.2.2.2.2.1,.i x.2.2.2.2.2.2.2.2.2.2.1,.i x.2.2.2.2.2.2.2.2.2.2.2.1,.b x.2.2.2.2.2.2.2.2.2.2.2.2.1]++mr x.2.2.2.2.2.2.2.2.2.2.2.2.2.1++uL x.2.2.2.2.2.2.2.2.2.2.2.2.2.2
theorem q0a (x:SL):Pw (yD x)=x:=rfl
abbrev SM:=LU×Int×LV×U5
def Xn (s:LL):SM:=(lS s 0,lI s 1,lL s 2,fQ s 3)
def Ig (x:SM):LL:=[.s x.1,.i x.2.1,.l x.2.2.1]++xN x.2.2.2
theorem q0b (x:SM):Xn (Ig x)=x:=rfl
abbrev e0m:=Bool×LV
def o0t (s:LL):e0m:=(lB s 0,lL s 1)
def Bm (x:e0m):LL:=[.b x.1,.l x.2]
abbrev SN:=Int×LV
def Xo (s:LL):SN:=(lI s 0,lL s 1)
def QR (x:SN):LL:=[.i x.1,.l x.2]
theorem q0c (x:SN):Xo (QR x)=x:=rfl
abbrev SO:=Int×LV×U0
def Px (s:LL):SO:=(lI s 0,lL s 1,fx s 2)
def EX (x:SO):LL:=[.i x.1,.l x.2.1]++uL x.2.2
theorem YR (x:SO):Px (EX x)=x:=rfl
abbrev SP:=Int×U17×U0
def o0u (s:LL):SP:=(lI s 0,iH s 1,fx s 3)
def Yg (x:SP):LL:=[.i x.1]++r_ x.2.1++uL x.2.2
abbrev Jr:=Int×U17
def D6 (s:LL):Jr:=(lI s 0,iH s 1)
def uD (x:Jr):LL:=[.i x.1]++r_ x.2
theorem q0d (x:Jr):D6 (uD x)=x:=rfl
abbrev SQ:=Int×U17×Int×U17
def IN (s:LL):SQ:=(lI s 0,iH s 1,lI s 3,iH s 4)
def nC (x:SQ):LL:=[.i x.1]++r_ x.2.1++[.i x.2.2.1]++r_ x.2.2.2
theorem YS (x:SQ):IN (nC x)=x:=rfl
abbrev SR:=Int×Int×U17×U0
def Xp (s:LL):SR:=(lI s 0,lI s 1,iH s 2,fx s 4)
def Ih (x:SR):LL:=[.i x.1,.i x.2.1]++r_ x.2.2.1++uL x.2.2.2
theorem q0e (x:SR):Xp (Ih x)=x:=rfl
abbrev e0n:=Int×LV×Int×U0
def o0v (s:LL):e0n:=(lI s 0,lL s 1,lI s 2,fx s 3)
def Yh (x:e0n):LL:=[.i x.1,.l x.2.1,.i x.2.2.1]++uL x.2.2.2
abbrev SS:=LV×Int×Int×Int×LV×Int×U0
def Xq (s:LL):SS:=(lL s 0,lI s 1,lI s 2,lI s 3,lL s 4,lI s 5,fx s 6)
def QS (x:SS):LL:=[.l x.1,.i x.2.1,.i x.2.2.1,.i x.2.2.2.1,.l x.2.2.2.2.1,.i x.2.2.2.2.2.1]++uL x.2.2.2.2.2.2
theorem q0f (x:SS):Xq (QS x)=x:=rfl
abbrev e0o:=U2
def o0w (s:LL):e0o:=sE s 0
def Yi (x:e0o):LL:=TB x
abbrev e0p:=Bool×U2
def o0x (s:LL):e0p:=(lB s 0,sE s 1)
def Yj (x:e0p):LL:=[.b x.1]++TB x.2
abbrev ST:=LU×Int×Int×LV×U5×U2
def Xr (s:LL):ST:=(lS s 0,lI s 1,lI s 2,lL s 3,fQ s 4,sE s 6)
def QT (x:ST):LL:=[.s x.1,.i x.2.1,.i x.2.2.1,.l x.2.2.2.1]++xN x.2.2.2.2.1++TB x.2.2.2.2.2
theorem q0g (x:ST):Xr (QT x)=x:=rfl
abbrev SU:=Int×U19×U0
def D7 (s:LL):SU:=(lI s 0,fy s 1,fx s 5)
def uE (x:SU):LL:=[.i x.1]++sA x.2.1++uL x.2.2
theorem q0h (x:SU):D7 (uE x)=x:=rfl
abbrev SV:=Int×Int×U19×U0
def Py (s:LL):SV:=(lI s 0,lI s 1,fy s 2,fx s 6)
def EY (x:SV):LL:=[.i x.1,.i x.2.1]++sA x.2.2.1++uL x.2.2.2
theorem YT (x:SV):Py (EY x)=x:=rfl
abbrev SW:=Int×Int×Bool×LU×LU×Bool×LU×LU×Bool×Int×Int×Int×Int×Bool×Int×Bool×U20×U0
def o0y (s:LL):SW:=(lI s 0,lI s 1,lB s 2,lS s 3,lS s 4,lB s 5,lS s 6,lS s 7,lB s 8,lI s 9,lI s 10,lI s 11,lI s 12,lB s 13,lI s 14,lB s 15,uU s 16,fx s 49)
def Yk (x:SW):LL:=[.i x.1,.i x.2.1,.b x.2.2.1,.s x.2.2.2.1,.s x.2.2.2.2.1,.b x.2.2.2.2.2.1,.s x.2.2.2.2.2.2.1,.s x.2.2.2.2.2.2.2.1,.b x.2.2.2.2.2.2.2.2.1,.i x.2.2.2.2.2.2.2.2.2.1,.i x.2.2.2.2.2.2.2.2.2.2.1,.i x.2.2.2.2.2.2.2.2.2.2.2.1,.i x.2.2.2.2.2.2.2.2.2.2.2.2.1,.b x.2.2.2.2.2.2.2.2.2.2.2.2.2.1,.i x.2.2.2.2.2.2.2.2.2.2.2.2.2.2.1,.b x.2.2.2.2.2.2.2.2.2.2.2.2.2.2.2.1]++Ze x.2.2.2.2.2.2.2.2.2.2.2.2.2.2.2.2.1++uL x.2.2.2.2.2.2.2.2.2.2.2.2.2.2.2.2.2
abbrev SX:=LV×Int×U0
def Pz (s:LL):SX:=(lL s 0,lI s 1,fx s 2)
def EZ (x:SX):LL:=[.l x.1,.i x.2.1]++uL x.2.2
theorem YU (x:SX):Pz (EZ x)=x:=rfl
abbrev SY:=Int×Int×U17
def Xt (s:LL):SY:=(lI s 0,lI s 1,iH s 2)
def Ii (x:SY):LL:=[.i x.1,.i x.2.1]++r_ x.2.2
theorem q0i (x:SY):Xt (Ii x)=x:=rfl
abbrev e0q:=U17
def o0z (s:LL):e0q:=iH s 0
def Yl (x:e0q):LL:=r_ x
abbrev e0r:=Bool×U17
def p0a (s:LL):e0r:=(lB s 0,iH s 1)
def Ym (x:e0r):LL:=[.b x.1]++r_ x.2
abbrev SZ:=LV×LV×Bool×Int
def p0b (s:LL):SZ:=(lL s 0,lL s 1,lB s 2,lI s 3)
def Yn (x:SZ):LL:=[.l x.1,.l x.2.1,.b x.2.2.1,.i x.2.2.2]
abbrev Sa:=LV×LV×Int×Int
def Xu (s:LL):Sa:=(lL s 0,lL s 1,lI s 2,lI s 3)
def QU (x:Sa):LL:=[.l x.1,.l x.2.1,.i x.2.2.1,.i x.2.2.2]
theorem q0j (x:Sa):Xu (QU x)=x:=rfl
abbrev Sb:=LU×U21×Int×LU×LU×Bool×LU×LU×Bool×Int×Int×Int×Int×Bool×U19
def p0c (s:LL):Sb:=(lS s 0,FT s 1,lI s 27,lS s 28,lS s 29,lB s 30,lS s 31,lS s 32,lB s 33,lI s 34,lI s 35,lI s 36,lI s 37,lB s 38,fy s 39)
def Yo (x:Sb):LL:=[.s x.1]++Zf x.2.1++[.i x.2.2.1,.s x.2.2.2.1,.s x.2.2.2.2.1,.b x.2.2.2.2.2.1,.s x.2.2.2.2.2.2.1,.s x.2.2.2.2.2.2.2.1,.b x.2.2.2.2.2.2.2.2.1,.i x.2.2.2.2.2.2.2.2.2.1,.i x.2.2.2.2.2.2.2.2.2.2.1,.i x.2.2.2.2.2.2.2.2.2.2.2.1,.i x.2.2.2.2.2.2.2.2.2.2.2.2.1,.b x.2.2.2.2.2.2.2.2.2.2.2.2.2.1]++sA x.2.2.2.2.2.2.2.2.2.2.2.2.2.2
abbrev Sc:=LU×Int×U21×Int×LU×LU×Bool×LU×LU×Bool×Int×Int×Int×Int×Bool×U19
def Xv (s:LL):Sc:=(lS s 0,lI s 1,FT s 2,lI s 28,lS s 29,lS s 30,lB s 31,lS s 32,lS s 33,lB s 34,lI s 35,lI s 36,lI s 37,lI s 38,lB s 39,fy s 40)
def QV (x:Sc):LL:=[.s x.1,.i x.2.1]++Zf x.2.2.1++[.i x.2.2.2.1,.s x.2.2.2.2.1,.s x.2.2.2.2.2.1,.b x.2.2.2.2.2.2.1,.s x.2.2.2.2.2.2.2.1,.s x.2.2.2.2.2.2.2.2.1,.b x.2.2.2.2.2.2.2.2.2.1,.i x.2.2.2.2.2.2.2.2.2.2.1,.i x.2.2.2.2.2.2.2.2.2.2.2.1,.i x.2.2.2.2.2.2.2.2.2.2.2.2.1,.i x.2.2.2.2.2.2.2.2.2.2.2.2.2.1,.b x.2.2.2.2.2.2.2.2.2.2.2.2.2.2.1]++sA x.2.2.2.2.2.2.2.2.2.2.2.2.2.2.2
theorem q0k (x:Sc):Xv (QV x)=x:=rfl
abbrev AM:=Int×LU×LU×Bool×LU×LU×Bool×Int×Int×Int×Int×Bool×U19×U8
def KZ (s:LL):AM:=(lI s 0,lS s 1,lS s 2,lB s 3,lS s 4,lS s 5,lB s 6,lI s 7,lI s 8,lI s 9,lI s 10,lB s 11,fy s 12,dr s 16)
def sZ (x:AM):LL:=[.i x.1,.s x.2.1,.s x.2.2.1,.b x.2.2.2.1,.s x.2.2.2.2.1,.s x.2.2.2.2.2.1,.b x.2.2.2.2.2.2.1,.i x.2.2.2.2.2.2.2.1,.i x.2.2.2.2.2.2.2.2.1,.i x.2.2.2.2.2.2.2.2.2.1,.i x.2.2.2.2.2.2.2.2.2.2.1,.b x.2.2.2.2.2.2.2.2.2.2.2.1]++sA x.2.2.2.2.2.2.2.2.2.2.2.2.1++mr x.2.2.2.2.2.2.2.2.2.2.2.2.2
abbrev Fo:=LU×Int×Int×LU×LU×Bool×LU×LU×Bool×Int×Int×Int×Int×Bool×U19×U8
def Ka (s:LL):Fo:=(lS s 0,lI s 1,lI s 2,lS s 3,lS s 4,lB s 5,lS s 6,lS s 7,lB s 8,lI s 9,lI s 10,lI s 11,lI s 12,lB s 13,fy s 14,dr s 18)
def EA (x:Fo):LL:=[.s x.1,.i x.2.1,.i x.2.2.1,.s x.2.2.2.1,.s x.2.2.2.2.1,.b x.2.2.2.2.2.1,.s x.2.2.2.2.2.2.1,.s x.2.2.2.2.2.2.2.1,.b x.2.2.2.2.2.2.2.2.1,.i x.2.2.2.2.2.2.2.2.2.1,.i x.2.2.2.2.2.2.2.2.2.2.1,.i x.2.2.2.2.2.2.2.2.2.2.2.1,.i x.2.2.2.2.2.2.2.2.2.2.2.2.1,.b x.2.2.2.2.2.2.2.2.2.2.2.2.2.1]++sA x.2.2.2.2.2.2.2.2.2.2.2.2.2.2.1++mr x.2.2.2.2.2.2.2.2.2.2.2.2.2.2.2
theorem Xw (x:Fo):Ka (EA x)=x:=rfl
abbrev MA:=LU×LV×LV×Int×Int×Int×Bool
def XF (s:LL):MA:=(lS s 0,lL s 1,lL s 2,lI s 3,lI s 4,lI s 5,lB s 6)
def K1 (x:MA):LL:=[.s x.1,.l x.2.1,.l x.2.2.1,.i x.2.2.2.1,.i x.2.2.2.2.1,.i x.2.2.2.2.2.1,.b x.2.2.2.2.2.2]
abbrev Fp:=LU×LV×LV×Int×Int×Int×Bool×Int
def Kb (s:LL):Fp:=(lS s 0,lL s 1,lL s 2,lI s 3,lI s 4,lI s 5,lB s 6,lI s 7)
def EB (x:Fp):LL:=[.s x.1,.l x.2.1,.l x.2.2.1,.i x.2.2.2.1,.i x.2.2.2.2.1,.i x.2.2.2.2.2.1,.b x.2.2.2.2.2.2.1,.i x.2.2.2.2.2.2.2]
theorem Xx (x:Fp):Kb (EB x)=x:=rfl
abbrev Fq:=LU×LV×LV×Int×Int×Int
def Kc (s:LL):Fq:=(lS s 0,lL s 1,lL s 2,lI s 3,lI s 4,lI s 5)
def zM (x:Fq):LL:=[.s x.1,.l x.2.1,.l x.2.2.1,.i x.2.2.2.1,.i x.2.2.2.2.1,.i x.2.2.2.2.2]
theorem Xy (x:Fq):Kc (zM x)=x:=rfl
abbrev tH:=Int×LU×LU×Bool×LU×LU×Bool×Int×Int×Int×Int×Bool×U23
def zL (s:LL):tH:=(lI s 0,lS s 1,lS s 2,lB s 3,lS s 4,lS s 5,lB s 6,lI s 7,lI s 8,lI s 9,lI s 10,lB s 11,et s 12)
def ju (x:tH):LL:=[.i x.1,.s x.2.1,.s x.2.2.1,.b x.2.2.2.1,.s x.2.2.2.2.1,.s x.2.2.2.2.2.1,.b x.2.2.2.2.2.2.1,.i x.2.2.2.2.2.2.2.1,.i x.2.2.2.2.2.2.2.2.1,.i x.2.2.2.2.2.2.2.2.2.1,.i x.2.2.2.2.2.2.2.2.2.2.1,.b x.2.2.2.2.2.2.2.2.2.2.2.1]++jy x.2.2.2.2.2.2.2.2.2.2.2.2
abbrev Fr:=U23×Int×LU×LU×Bool×LU×LU×Bool×Int×Int×Int×Int×Bool
def XG (s:LL):Fr:=(et s 0,lI s 29,lS s 30,lS s 31,lB s 32,lS s 33,lS s 34,lB s 35,lI s 36,lI s 37,lI s 38,lI s 39,lB s 40)
def K7 (x:Fr):LL:=jy x.1++[.i x.2.1,.s x.2.2.1,.s x.2.2.2.1,.b x.2.2.2.2.1,.s x.2.2.2.2.2.1,.s x.2.2.2.2.2.2.1,.b x.2.2.2.2.2.2.2.1,.i x.2.2.2.2.2.2.2.2.1,.i x.2.2.2.2.2.2.2.2.2.1,.i x.2.2.2.2.2.2.2.2.2.2.1,.i x.2.2.2.2.2.2.2.2.2.2.2.1,.b x.2.2.2.2.2.2.2.2.2.2.2.2]
abbrev Fs:=LV×LV×LV×Int
def Ke (s:LL):Fs:=(lL s 0,lL s 1,lL s 2,lI s 3)
def zN (x:Fs):LL:=[.l x.1,.l x.2.1,.l x.2.2.1,.i x.2.2.2]
theorem Xz (x:Fs):Ke (zN x)=x:=rfl
abbrev Ft:=LV×Int×Int×U8
def Kf (s:LL):Ft:=(lL s 0,lI s 1,lI s 2,dr s 3)
def vq (x:Ft):LL:=[.l x.1,.i x.2.1,.i x.2.2.1]++mr x.2.2.2
theorem X0 (x:Ft):Kf (vq x)=x:=rfl
abbrev Fu:=LV×LU×LV×Int
def Kg (s:LL):Fu:=(lL s 0,lS s 1,lL s 2,lI s 3)
def zO (x:Fu):LL:=[.l x.1,.s x.2.1,.l x.2.2.1,.i x.2.2.2]
theorem X3 (x:Fu):Kg (zO x)=x:=rfl
abbrev MB:=U8×U5
def XH (s:LL):MB:=(dr s 0,fQ s 22)
def K9 (x:MB):LL:=mr x.1++xN x.2
abbrev MC:=Bool×U8×U5
def XI (s:LL):MC:=(lB s 0,dr s 1,fQ s 23)
def K_ (x:MC):LL:=[.b x.1]++mr x.2.1++xN x.2.2
abbrev AN:=Bool×U23×U23
def Kh (s:LL):AN:=(lB s 0,et s 1,et s 30)
def zP (x:AN):LL:=[.b x.1]++jy x.2.1++jy x.2.2
abbrev Fv:=LV×Int×U23×Int×LU×LU×Bool×LU×LU×Bool×Int×Int×Int×Int×Bool×U23
def Ki (s:LL):Fv:=(lL s 0,lI s 1,et s 2,lI s 31,lS s 32,lS s 33,lB s 34,lS s 35,lS s 36,lB s 37,lI s 38,lI s 39,lI s 40,lI s 41,lB s 42,et s 43)
def ED (x:Fv):LL:=[.l x.1,.i x.2.1]++jy x.2.2.1++[.i x.2.2.2.1,.s x.2.2.2.2.1,.s x.2.2.2.2.2.1,.b x.2.2.2.2.2.2.1,.s x.2.2.2.2.2.2.2.1,.s x.2.2.2.2.2.2.2.2.1,.b x.2.2.2.2.2.2.2.2.2.1,.i x.2.2.2.2.2.2.2.2.2.2.1,.i x.2.2.2.2.2.2.2.2.2.2.2.1,.i x.2.2.2.2.2.2.2.2.2.2.2.2.1,.i x.2.2.2.2.2.2.2.2.2.2.2.2.2.1,.b x.2.2.2.2.2.2.2.2.2.2.2.2.2.2.1]++jy x.2.2.2.2.2.2.2.2.2.2.2.2.2.2.2
theorem X5 (x:Fv):Ki (ED x)=x:=rfl
abbrev Fw:=LV×Int×LV×Int
def Kj (s:LL):Fw:=(lL s 0,lI s 1,lL s 2,lI s 3)
def EE (x:Fw):LL:=[.l x.1,.i x.2.1,.l x.2.2.1,.i x.2.2.2]
theorem X6 (x:Fw):Kj (EE x)=x:=rfl
abbrev Fx:=U23×Int×LU×LU×Bool×LU×LU×Bool×Int×Int×Int×Int×Bool×U24
def XJ (s:LL):Fx:=(et s 0,lI s 29,lS s 30,lS s 31,lB s 32,lS s 33,lS s 34,lB s 35,lI s 36,lI s 37,lI s 38,lI s 39,lB s 40,RU s 41)
def LA (x:Fx):LL:=jy x.1++[.i x.2.1,.s x.2.2.1,.s x.2.2.2.1,.b x.2.2.2.2.1,.s x.2.2.2.2.2.1,.s x.2.2.2.2.2.2.1,.b x.2.2.2.2.2.2.2.1,.i x.2.2.2.2.2.2.2.2.1,.i x.2.2.2.2.2.2.2.2.2.1,.i x.2.2.2.2.2.2.2.2.2.2.1,.i x.2.2.2.2.2.2.2.2.2.2.2.1,.b x.2.2.2.2.2.2.2.2.2.2.2.2.1]++Q0 x.2.2.2.2.2.2.2.2.2.2.2.2.2
abbrev Fy:=U23×U23×U24
def XK (s:LL):Fy:=(et s 0,et s 29,RU s 58)
def EF (x:Fy):LL:=jy x.1++jy x.2.1++Q0 x.2.2
abbrev Fz:=LV×Int×U23×Int×LU×LU×Bool×LU×LU×Bool×Int×Int×Int×Int×Bool×U24
def Kk (s:LL):Fz:=(lL s 0,lI s 1,et s 2,lI s 31,lS s 32,lS s 33,lB s 34,lS s 35,lS s 36,lB s 37,lI s 38,lI s 39,lI s 40,lI s 41,lB s 42,RU s 43)
def EG (x:Fz):LL:=[.l x.1,.i x.2.1]++jy x.2.2.1++[.i x.2.2.2.1,.s x.2.2.2.2.1,.s x.2.2.2.2.2.1,.b x.2.2.2.2.2.2.1,.s x.2.2.2.2.2.2.2.1,.s x.2.2.2.2.2.2.2.2.1,.b x.2.2.2.2.2.2.2.2.2.1,.i x.2.2.2.2.2.2.2.2.2.2.1,.i x.2.2.2.2.2.2.2.2.2.2.2.1,.i x.2.2.2.2.2.2.2.2.2.2.2.2.1,.i x.2.2.2.2.2.2.2.2.2.2.2.2.2.1,.b x.2.2.2.2.2.2.2.2.2.2.2.2.2.2.1]++Q0 x.2.2.2.2.2.2.2.2.2.2.2.2.2.2.2
theorem X7 (x:Fz):Kk (EG x)=x:=rfl
abbrev F0:=Int×U23×Int×LU×LU×Bool×LU×LU×Bool×Int×Int×Int×Int×Bool×U23
def Kl (s:LL):F0:=(lI s 0,et s 1,lI s 30,lS s 31,lS s 32,lB s 33,lS s 34,lS s 35,lB s 36,lI s 37,lI s 38,lI s 39,lI s 40,lB s 41,et s 42)
def EH (x:F0):LL:=[.i x.1]++jy x.2.1++[.i x.2.2.1,.s x.2.2.2.1,.s x.2.2.2.2.1,.b x.2.2.2.2.2.1,.s x.2.2.2.2.2.2.1,.s x.2.2.2.2.2.2.2.1,.b x.2.2.2.2.2.2.2.2.1,.i x.2.2.2.2.2.2.2.2.2.1,.i x.2.2.2.2.2.2.2.2.2.2.1,.i x.2.2.2.2.2.2.2.2.2.2.2.1,.i x.2.2.2.2.2.2.2.2.2.2.2.2.1,.b x.2.2.2.2.2.2.2.2.2.2.2.2.2.1]++jy x.2.2.2.2.2.2.2.2.2.2.2.2.2.2
theorem X8 (x:F0):Kl (EH x)=x:=rfl
abbrev F1:=Int×Int×U23×Int×LU×LU×Bool×LU×LU×Bool×Int×Int×Int×Int×Bool
def Km (s:LL):F1:=(lI s 0,lI s 1,et s 2,lI s 31,lS s 32,lS s 33,lB s 34,lS s 35,lS s 36,lB s 37,lI s 38,lI s 39,lI s 40,lI s 41,lB s 42)
def EI (x:F1):LL:=[.i x.1,.i x.2.1]++jy x.2.2.1++[.i x.2.2.2.1,.s x.2.2.2.2.1,.s x.2.2.2.2.2.1,.b x.2.2.2.2.2.2.1,.s x.2.2.2.2.2.2.2.1,.s x.2.2.2.2.2.2.2.2.1,.b x.2.2.2.2.2.2.2.2.2.1,.i x.2.2.2.2.2.2.2.2.2.2.1,.i x.2.2.2.2.2.2.2.2.2.2.2.1,.i x.2.2.2.2.2.2.2.2.2.2.2.2.1,.i x.2.2.2.2.2.2.2.2.2.2.2.2.2.1,.b x.2.2.2.2.2.2.2.2.2.2.2.2.2.2]
theorem X9 (x:F1):Km (EI x)=x:=rfl
abbrev F2:=LV×Int×Int×LU×LU×Bool×LU×LU×Bool×Int×Int×Int×Int×Bool×U23
def Kn (s:LL):F2:=(lL s 0,lI s 1,lI s 2,lS s 3,lS s 4,lB s 5,lS s 6,lS s 7,lB s 8,lI s 9,lI s 10,lI s 11,lI s 12,lB s 13,et s 14)
def EK (x:F2):LL:=[.l x.1,.i x.2.1,.i x.2.2.1,.s x.2.2.2.1,.s x.2.2.2.2.1,.b x.2.2.2.2.2.1,.s x.2.2.2.2.2.2.1,.s x.2.2.2.2.2.2.2.1,.b x.2.2.2.2.2.2.2.2.1,.i x.2.2.2.2.2.2.2.2.2.1,.i x.2.2.2.2.2.2.2.2.2.2.1,.i x.2.2.2.2.2.2.2.2.2.2.2.1,.i x.2.2.2.2.2.2.2.2.2.2.2.2.1,.b x.2.2.2.2.2.2.2.2.2.2.2.2.2.1]++jy x.2.2.2.2.2.2.2.2.2.2.2.2.2.2
theorem X_ (x:F2):Kn (EK x)=x:=rfl
abbrev F_:=U23×U23
def XL (s:LL):F_:=(et s 0,et s 29)
def LB (x:F_):LL:=jy x.1++jy x.2
abbrev GA:=Int×Int×LU×LU×Bool×LU×LU×Bool×Int×Int×Int×Int×Bool×U23
def Ko (s:LL):GA:=(lI s 0,lI s 1,lS s 2,lS s 3,lB s 4,lS s 5,lS s 6,lB s 7,lI s 8,lI s 9,lI s 10,lI s 11,lB s 12,et s 13)
def EL (x:GA):LL:=[.i x.1,.i x.2.1,.s x.2.2.1,.s x.2.2.2.1,.b x.2.2.2.2.1,.s x.2.2.2.2.2.1,.s x.2.2.2.2.2.2.1,.b x.2.2.2.2.2.2.2.1,.i x.2.2.2.2.2.2.2.2.1,.i x.2.2.2.2.2.2.2.2.2.1,.i x.2.2.2.2.2.2.2.2.2.2.1,.i x.2.2.2.2.2.2.2.2.2.2.2.1,.b x.2.2.2.2.2.2.2.2.2.2.2.2.1]++jy x.2.2.2.2.2.2.2.2.2.2.2.2.2
theorem YA (x:GA):Ko (EL x)=x:=rfl
abbrev GB:=Int×U5×Int×LU×LU×Bool×LU×LU×Bool×Int×Int×Int×Int×Bool×U19×U8
def Kq (s:LL):GB:=(lI s 0,fQ s 1,lI s 3,lS s 4,lS s 5,lB s 6,lS s 7,lS s 8,lB s 9,lI s 10,lI s 11,lI s 12,lI s 13,lB s 14,fy s 15,dr s 19)
def EM (x:GB):LL:=[.i x.1]++xN x.2.1++[.i x.2.2.1,.s x.2.2.2.1,.s x.2.2.2.2.1,.b x.2.2.2.2.2.1,.s x.2.2.2.2.2.2.1,.s x.2.2.2.2.2.2.2.1,.b x.2.2.2.2.2.2.2.2.1,.i x.2.2.2.2.2.2.2.2.2.1,.i x.2.2.2.2.2.2.2.2.2.2.1,.i x.2.2.2.2.2.2.2.2.2.2.2.1,.i x.2.2.2.2.2.2.2.2.2.2.2.2.1,.b x.2.2.2.2.2.2.2.2.2.2.2.2.2.1]++sA x.2.2.2.2.2.2.2.2.2.2.2.2.2.2.1++mr x.2.2.2.2.2.2.2.2.2.2.2.2.2.2.2
theorem YB (x:GB):Kq (EM x)=x:=rfl
abbrev GC:=Int×Bool×LU×LU×Bool×LU×LU×Bool×Int×Int×Int×Int×Bool×Int×U19×U8×Bool×LU×LU×Bool×LU×LU×Bool×Int×Int×Int×Int×Bool×LV×LV×Int
def XM (s:LL):GC:=(lI s 0,lB s 1,lS s 2,lS s 3,lB s 4,lS s 5,lS s 6,lB s 7,lI s 8,lI s 9,lI s 10,lI s 11,lB s 12,lI s 13,fy s 14,dr s 18,lB s 40,lS s 41,lS s 42,lB s 43,lS s 44,lS s 45,lB s 46,lI s 47,lI s 48,lI s 49,lI s 50,lB s 51,lL s 52,lL s 53,lI s 54)
def EN (x:GC):LL:=[.i x.1,.b x.2.1,.s x.2.2.1,.s x.2.2.2.1,.b x.2.2.2.2.1,.s x.2.2.2.2.2.1,.s x.2.2.2.2.2.2.1,.b x.2.2.2.2.2.2.2.1,.i x.2.2.2.2.2.2.2.2.1,.i x.2.2.2.2.2.2.2.2.2.1,.i x.2.2.2.2.2.2.2.2.2.2.1,.i x.2.2.2.2.2.2.2.2.2.2.2.1,.b x.2.2.2.2.2.2.2.2.2.2.2.2.1,.i x.2.2.2.2.2.2.2.2.2.2.2.2.2.1]++sA x.2.2.2.2.2.2.2.2.2.2.2.2.2.2.1++mr x.2.2.2.2.2.2.2.2.2.2.2.2.2.2.2.1++[.b x.2.2.2.2.2.2.2.2.2.2.2.2.2.2.2.2.1,.s x.2.2.2.2.2.2.2.2.2.2.2.2.2.2.2.2.2.1,.s x.2.2.2.2.2.2.2.2.2.2.2.2.2.2.2.2.2.2.1,.b x.2.2.2.2.2.2.2.2.2.2.2.2.2.2.2.2.2.2.2.1,.s x.2.2.2.2.2.2.2.2.2.2.2.2.2.2.2.2.2.2.2.2.1,.s x.2.2.2.2.2.2.2.2.2.2.2.2.2.2.2.2.2.2.2.2.2.1,.b x.2.2.2.2.2.2.2.2.2.2.2.2.2.2.2.2.2.2.2.2.2.2.1,.i x.2.2.2.2.2.2.2.2.2.2.2.2.2.2.2.2.2.2.2.2.2.2.2.1,.i x.2.2.2.2.2.2.2.2.2.2.2.2.2.2.2.2.2.2.2.2.2.2.2.2.1,.i x.2.2.2.2.2.2.2.2.2.2.2.2.2.2.2.2.2.2.2.2.2.2.2.2.2.1,.i x.2.2.2.2.2.2.2.2.2.2.2.2.2.2.2.2.2.2.2.2.2.2.2.2.2.2.1,.b x.2.2.2.2.2.2.2.2.2.2.2.2.2.2.2.2.2.2.2.2.2.2.2.2.2.2.2.1,.l x.2.2.2.2.2.2.2.2.2.2.2.2.2.2.2.2.2.2.2.2.2.2.2.2.2.2.2.2.1,.l x.2.2.2.2.2.2.2.2.2.2.2.2.2.2.2.2.2.2.2.2.2.2.2.2.2.2.2.2.2.1,.i x.2.2.2.2.2.2.2.2.2.2.2.2.2.2.2.2.2.2.2.2.2.2.2.2.2.2.2.2.2.2]
abbrev GD:=Int×U5×Int×Bool×LU×LU×Bool×LU×LU×Bool×Int×Int×Int×Int×Bool×Int×U19×U8×Bool×LU×LU×Bool×LU×LU×Bool×Int×Int×Int×Int×Bool×LV×LV×Int
def Kr (s:LL):GD:=(lI s 0,fQ s 1,lI s 3,lB s 4,lS s 5,lS s 6,lB s 7,lS s 8,lS s 9,lB s 10,lI s 11,lI s 12,lI s 13,lI s 14,lB s 15,lI s 16,fy s 17,dr s 21,lB s 43,lS s 44,lS s 45,lB s 46,lS s 47,lS s 48,lB s 49,lI s 50,lI s 51,lI s 52,lI s 53,lB s 54,lL s 55,lL s 56,lI s 57)
def EO (x:GD):LL:=[.i x.1]++xN x.2.1++[.i x.2.2.1,.b x.2.2.2.1,.s x.2.2.2.2.1,.s x.2.2.2.2.2.1,.b x.2.2.2.2.2.2.1,.s x.2.2.2.2.2.2.2.1,.s x.2.2.2.2.2.2.2.2.1,.b x.2.2.2.2.2.2.2.2.2.1,.i x.2.2.2.2.2.2.2.2.2.2.1,.i x.2.2.2.2.2.2.2.2.2.2.2.1,.i x.2.2.2.2.2.2.2.2.2.2.2.2.1,.i x.2.2.2.2.2.2.2.2.2.2.2.2.2.1,.b x.2.2.2.2.2.2.2.2.2.2.2.2.2.2.1,.i x.2.2.2.2.2.2.2.2.2.2.2.2.2.2.2.1]++sA x.2.2.2.2.2.2.2.2.2.2.2.2.2.2.2.2.1++mr x.2.2.2.2.2.2.2.2.2.2.2.2.2.2.2.2.2.1++[.b x.2.2.2.2.2.2.2.2.2.2.2.2.2.2.2.2.2.2.1,.s x.2.2.2.2.2.2.2.2.2.2.2.2.2.2.2.2.2.2.2.1,.s x.2.2.2.2.2.2.2.2.2.2.2.2.2.2.2.2.2.2.2.2.1,.b x.2.2.2.2.2.2.2.2.2.2.2.2.2.2.2.2.2.2.2.2.2.1,.s x.2.2.2.2.2.2.2.2.2.2.2.2.2.2.2.2.2.2.2.2.2.2.1,.s x.2.2.2.2.2.2.2.2.2.2.2.2.2.2.2.2.2.2.2.2.2.2.2.1,.b x.2.2.2.2.2.2.2.2.2.2.2.2.2.2.2.2.2.2.2.2.2.2.2.2.1,.i x.2.2.2.2.2.2.2.2.2.2.2.2.2.2.2.2.2.2.2.2.2.2.2.2.2.1,.i x.2.2.2.2.2.2.2.2.2.2.2.2.2.2.2.2.2.2.2.2.2.2.2.2.2.2.1,.i x.2.2.2.2.2.2.2.2.2.2.2.2.2.2.2.2.2.2.2.2.2.2.2.2.2.2.2.1,.i x.2.2.2.2.2.2.2.2.2.2.2.2.2.2.2.2.2.2.2.2.2.2.2.2.2.2.2.2.1,.b x.2.2.2.2.2.2.2.2.2.2.2.2.2.2.2.2.2.2.2.2.2.2.2.2.2.2.2.2.2.1,.l x.2.2.2.2.2.2.2.2.2.2.2.2.2.2.2.2.2.2.2.2.2.2.2.2.2.2.2.2.2.2.1,.l x.2.2.2.2.2.2.2.2.2.2.2.2.2.2.2.2.2.2.2.2.2.2.2.2.2.2.2.2.2.2.2.1,.i x.2.2.2.2.2.2.2.2.2.2.2.2.2.2.2.2.2.2.2.2.2.2.2.2.2.2.2.2.2.2.2.2]
theorem YC (x:GD):Kr (EO x)=x:=rfl
abbrev GE:=Int×Int×Int×Bool×LU×LU×Bool×LU×LU×Bool×Int×Int×Int×Int×Bool×Int×Bool×U20×U0
def Ks (s:LL):GE:=(lI s 0,lI s 1,lI s 2,lB s 3,lS s 4,lS s 5,lB s 6,lS s 7,lS s 8,lB s 9,lI s 10,lI s 11,lI s 12,lI s 13,lB s 14,lI s 15,lB s 16,uU s 17,fx s 50)
def vr (x:GE):LL:=[.i x.1,.i x.2.1,.i x.2.2.1,.b x.2.2.2.1,.s x.2.2.2.2.1,.s x.2.2.2.2.2.1,.b x.2.2.2.2.2.2.1,.s x.2.2.2.2.2.2.2.1,.s x.2.2.2.2.2.2.2.2.1,.b x.2.2.2.2.2.2.2.2.2.1,.i x.2.2.2.2.2.2.2.2.2.2.1,.i x.2.2.2.2.2.2.2.2.2.2.2.1,.i x.2.2.2.2.2.2.2.2.2.2.2.2.1,.i x.2.2.2.2.2.2.2.2.2.2.2.2.2.1,.b x.2.2.2.2.2.2.2.2.2.2.2.2.2.2.1,.i x.2.2.2.2.2.2.2.2.2.2.2.2.2.2.2.1,.b x.2.2.2.2.2.2.2.2.2.2.2.2.2.2.2.2.1]++Ze x.2.2.2.2.2.2.2.2.2.2.2.2.2.2.2.2.2.1++uL x.2.2.2.2.2.2.2.2.2.2.2.2.2.2.2.2.2.2
theorem YD (x:GE):Ks (vr x)=x:=rfl
abbrev GF:=LV×LU×LU×Int
def Kt (s:LL):GF:=(lL s 0,lS s 1,lS s 2,lI s 3)
def EP (x:GF):LL:=[.l x.1,.s x.2.1,.s x.2.2.1,.i x.2.2.2]
theorem YE (x:GF):Kt (EP x)=x:=rfl
abbrev GG:=Int×Int×LV×Int×Int
def Ku (s:LL):GG:=(lI s 0,lI s 1,lL s 2,lI s 3,lI s 4)
def zQ (x:GG):LL:=[.i x.1,.i x.2.1,.l x.2.2.1,.i x.2.2.2.1,.i x.2.2.2.2]
theorem YF (x:GG):Ku (zQ x)=x:=rfl
abbrev GH:=Int×Int×Int×LV
def Kv (s:LL):GH:=(lI s 0,lI s 1,lI s 2,lL s 3)
def zR (x:GH):LL:=[.i x.1,.i x.2.1,.i x.2.2.1,.l x.2.2.2]
theorem YG (x:GH):Kv (zR x)=x:=rfl
abbrev GI:=LV×LV×Int×Int×U17
def Kw (s:LL):GI:=(lL s 0,lL s 1,lI s 2,lI s 3,iH s 4)
def zT (x:GI):LL:=[.l x.1,.l x.2.1,.i x.2.2.1,.i x.2.2.2.1]++r_ x.2.2.2.2
theorem YH (x:GI):Kw (zT x)=x:=rfl
abbrev GJ:=LV×Int×U17
def Kx (s:LL):GJ:=(lL s 0,lI s 1,iH s 2)
def zU (x:GJ):LL:=[.l x.1,.i x.2.1]++r_ x.2.2
theorem YI (x:GJ):Kx (zU x)=x:=rfl
abbrev GK:=Int×LV×Int×Int
def Ky (s:LL):GK:=(lI s 0,lL s 1,lI s 2,lI s 3)
def zV (x:GK):LL:=[.i x.1,.l x.2.1,.i x.2.2.1,.i x.2.2.2]
theorem YJ (x:GK):Ky (zV x)=x:=rfl
abbrev GL:=Int×Int×U19
def Kz (s:LL):GL:=(lI s 0,lI s 1,fy s 2)
def zW (x:GL):LL:=[.i x.1,.i x.2.1]++sA x.2.2
theorem YK (x:GL):Kz (zW x)=x:=rfl
def q0 (y z:U5):Bool:=(y.a==z.a)&&((y.b==z.b)&&true)
def q1 (y z:U4):Bool:=(y.a==z.a)&&((y.b==z.b)&&((y.c==z.c)&&((y.d==z.d)&&((y.e==z.e)&&((y.f==z.f)&&((y.g==z.g)&&true))))))
def w0 (y:U6):V:=.agg [.str y.a,.str y.b,.int .i64 y.c,.sl 2 true y.d]
def w1 (y:U9):V:=.agg [.int .i64 y.a,.str y.b,.sl 2 true y.c,.str y.d]
def w2 (y:U5):V:=.agg [.str y.a,.str y.b]
def w3 (y:U11):V:=.agg [.int .i64 y.a,.str y.b]
def w4 (y:U12):V:=.agg [.str y.a,.int .i64 y.b]
def w5 (y:U10):V:=.agg [.int .i64 y.a,.str y.b,.str y.c,.str y.d,.int .i64 y.e,.bool y.f,.int .i64 y.g,.str y.h]
def w6 (y:U14):V:=.agg [.str y.a,.str y.b,.bool y.c,.int .i64 y.d,.str y.e]
def w7 (y:U13):V:=.agg [.int .i64 y.a,.str y.b,.str y.c,.str y.d,.str y.e]
def w8 (y:U16):V:=.agg [.str y.a,.str y.b,.str y.c,.int .i64 y.d,.int .i64 y.e,.str y.f,.int .i64 y.g,.bool y.h,.str y.i,.int .i64 y.j]
def w9 (y:U18):V:=.agg [.str y.a,.str y.b,.str y.c,.str y.d,.bool y.e,.sl 1 true y.f,.sl 1 true y.g,.sl 1 true y.h,.str y.i,.str y.j,.sl 4 false y.k,.bool y.l,.sl 4 false y.m,.sl 1 true y.n,.sl 8 true y.o,.sl 5 true y.p,.sl 2 true y.q,.int .i64 y.r,.int .i64 y.s,.int .i64 y.t,.int .i64 y.u,.sl 2 true y.v,.sl 1 true y.w,.bool y.x,.bool y.y]
def oW (y:U3):V:=.agg [.str y.a,.sl 7 true y.b]
def AQ (y:U15):V:=.agg [.str y.a,.str y.b,.str y.c,.bool y.d]
def k1x (y:U8):V:=.agg [.str y.a,.str y.b,.bool y.c,.sl 1 true y.d,.sl 1 true y.e,.sl 1 true y.f,.str y.g,.str y.h,.sl 4 false y.i,.bool y.j,.sl 4 false y.k,.sl 1 true y.l,.sl 8 true y.m,.sl 5 true y.n,.sl 2 true y.o,.int .i64 y.p,.int .i64 y.q,.int .i64 y.r,.int .i64 y.s,.sl 2 true y.t,.sl 1 true y.u,.bool y.v]
def tJ (y:U24):V:=.agg [.str y.a,.str y.b,.int .i64 y.c,.bool y.d,.int .i64 y.e,.int .i64 y.f,.str y.g,.int .i64 y.h,.bool y.i,.str y.j]
def AR (y:U25):V:=.agg [.str y.a,.str y.b,.int .i64 y.c,.int .i64 y.d,.str y.e,.int .i64 y.f,.bool y.g,.str y.h,.bool y.i]
def Jv (y:U22):V:=.agg [.str y.a,.str y.b,.int .i64 y.c,.int .i64 y.d,.str y.e,.int .i64 y.f,.bool y.g,.str y.h]
def i0k (y:U4):V:=.agg [.str y.a,.int .i64 y.b,.int .i64 y.c,.str y.d,.int .i64 y.e,.bool y.f,.str y.g]
def ol (y:U0):V:=.agg [.sl 1 true y.a,.int .i64 y.b,.int .i64 y.c]
def e1c (y:U1):V:=.agg [.bool y.a,.own 1 1 .flat y.b,.own 2 1 .flat y.c,.own 3 1 .flat y.d,.str y.e]
def MF (y:U2):V:=.agg [.int .i64 y.a,.int .i64 y.b,.str y.c,.int .i64 y.d,.bool y.e,.str y.f]
def k1y (y:U1):V:=.agg [.bool y.a,.view 1 1 .flat y.b,.view 2 1 .flat y.c,.view 3 1 .flat y.d,.str y.e]
def i0l (y:U7):V:=.agg [.own 0 4 .clean y.a,.own 1 1 .flat y.b]
def e1d (y:U8):V:=.agg [.str y.a,.str y.b,.bool y.c,.view 3 1 .flat y.d,.view 4 1 .flat y.e,.view 5 1 .flat y.f,.str y.g,.str y.h,.own 8 4 .clean y.i,.bool y.j,.own 10 4 .clean y.k,.own 11 1 .flat y.l,.own 12 8 .flat y.m,.own 13 5 .flat y.n,.own 14 2 .flat y.o,.int .i64 y.p,.int .i64 y.q,.int .i64 y.r,.int .i64 y.s,.own 19 2 .flat y.t,.own 20 1 .flat y.u,.bool y.v]
def GU (y:U8):V:=.agg [.str y.a,.str y.b,.bool y.c,.own 3 1 .flat y.d,.own 4 1 .flat y.e,.own 5 1 .flat y.f,.str y.g,.str y.h,.own 8 4 .clean y.i,.bool y.j,.own 10 4 .clean y.k,.own 11 1 .flat y.l,.own 12 8 .flat y.m,.own 13 5 .flat y.n,.own 14 2 .flat y.o,.int .i64 y.p,.int .i64 y.q,.int .i64 y.r,.int .i64 y.s,.own 19 2 .flat y.t,.own 20 1 .flat y.u,.bool y.v]
def k1z (y:U9):V:=.agg [.int .i64 y.a,.str y.b,.own 2 2 .flat y.c,.str y.d]
def e1e (y:U7):V:=.agg [.own 0 4 .clean y.a,.view 1 1 .flat y.b]
def MG (y:U8):V:=.agg [.str y.a,.str y.b,.bool y.c,.own 3 1 .flat y.d,.own 4 1 .flat y.e,.own 5 1 .flat y.f,.str y.g,.str y.h,.view 8 4 .clean y.i,.bool y.j,.own 10 4 .clean y.k,.view 11 1 .flat y.l,.own 12 8 .flat y.m,.own 13 5 .flat y.n,.own 14 2 .flat y.o,.int .i64 y.p,.int .i64 y.q,.int .i64 y.r,.int .i64 y.s,.own 19 2 .flat y.t,.own 20 1 .flat y.u,.bool y.v]
def f0o (y:U17):V:=.agg [.own 0 25 .clean y.a,.int .i64 y.b]
def b1d (y:U17):V:=.agg [.view 0 25 .clean y.a,.int .i64 y.b]
def Ci (y:U19):V:=.agg [.own 0 2 .clean y.a,.own 1 10 .flat y.b,.own 2 4 .flat y.c,.int .i64 y.d]
def b1e (y:U20):V:=.agg [.own 0 2 .clean y.a,.own 1 10 .flat y.b,.own 2 4 .flat y.c,.int .i64 y.d,.own 4 25 .clean y.e,.int .i64 y.f,.bool y.g,.str y.h,.str y.i,.bool y.j,.own 10 1 .flat y.k,.own 11 1 .flat y.l,.own 12 1 .flat y.m,.str y.n,.str y.o,.own 15 4 .clean y.p,.bool y.q,.own 17 4 .clean y.r,.own 18 1 .flat y.s,.own 19 8 .flat y.t,.own 20 5 .flat y.u,.own 21 2 .flat y.v,.int .i64 y.w,.int .i64 y.x,.int .i64 y.y,.int .i64 y.z,.own 26 2 .flat y.aa,.own 27 1 .flat y.ab,.bool y.ac,.own 29 8 .flat y.ad,.own 30 2 .clean y.ae,.int .i64 y.af,.bool y.ag]
def l1a (y:U21):V:=.agg [.bool y.a,.str y.b,.str y.c,.bool y.d,.own 4 1 .flat y.e,.own 5 1 .flat y.f,.own 6 1 .flat y.g,.str y.h,.str y.i,.own 9 4 .clean y.j,.bool y.k,.own 11 4 .clean y.l,.own 12 1 .flat y.m,.own 13 8 .flat y.n,.own 14 5 .flat y.o,.own 15 2 .flat y.p,.int .i64 y.q,.int .i64 y.r,.int .i64 y.s,.int .i64 y.t,.own 20 2 .flat y.u,.own 21 1 .flat y.v,.bool y.w,.own 23 8 .flat y.x,.own 24 2 .clean y.y,.int .i64 y.z]
def i0m (y:U8):V:=.agg [.str y.a,.str y.b,.bool y.c,.own 7 1 .flat y.d,.own 8 1 .flat y.e,.own 9 1 .flat y.f,.str y.g,.str y.h,.view 12 4 .clean y.i,.bool y.j,.own 14 4 .clean y.k,.view 15 1 .flat y.l,.own 16 8 .flat y.m,.own 17 5 .flat y.n,.own 18 2 .flat y.o,.int .i64 y.p,.int .i64 y.q,.int .i64 y.r,.int .i64 y.s,.own 23 2 .flat y.t,.own 24 1 .flat y.u,.bool y.v]
def l1b (y:U23):V:=.agg [.own 0 2 .clean y.a,.own 1 10 .flat y.b,.own 2 4 .flat y.c,.int .i64 y.d,.str y.e,.str y.f,.bool y.g,.view 7 1 .flat y.h,.view 8 1 .flat y.i,.view 9 1 .flat y.j,.str y.k,.str y.l,.own 12 4 .clean y.m,.bool y.n,.own 14 4 .clean y.o,.own 15 1 .flat y.p,.own 16 8 .flat y.q,.own 17 5 .flat y.r,.own 18 2 .flat y.s,.int .i64 y.t,.int .i64 y.u,.int .i64 y.v,.int .i64 y.w,.own 23 2 .flat y.x,.own 24 1 .flat y.y,.bool y.z,.own 26 1 .flat y.aa,.own 27 10 .flat y.ab,.own 28 9 .flat y.ac]
def e1f (y:U23):V:=.agg [.own 0 2 .clean y.a,.own 1 10 .flat y.b,.own 2 4 .flat y.c,.int .i64 y.d,.str y.e,.str y.f,.bool y.g,.own 7 1 .flat y.h,.own 8 1 .flat y.i,.own 9 1 .flat y.j,.str y.k,.str y.l,.own 12 4 .clean y.m,.bool y.n,.own 14 4 .clean y.o,.own 15 1 .flat y.p,.own 16 8 .flat y.q,.own 17 5 .flat y.r,.own 18 2 .flat y.s,.int .i64 y.t,.int .i64 y.u,.int .i64 y.v,.int .i64 y.w,.own 23 2 .flat y.x,.own 24 1 .flat y.y,.bool y.z,.own 26 1 .flat y.aa,.own 27 10 .flat y.ab,.own 28 9 .flat y.ac]
def b1f (y:U23):V:=.agg [.own 0 2 .clean y.a,.own 1 10 .flat y.b,.own 2 4 .flat y.c,.int .i64 y.d,.str y.e,.str y.f,.bool y.g,.own 7 1 .flat y.h,.own 8 1 .flat y.i,.own 9 1 .flat y.j,.str y.k,.str y.l,.view 12 4 .clean y.m,.bool y.n,.own 14 4 .clean y.o,.view 15 1 .flat y.p,.own 16 8 .flat y.q,.own 17 5 .flat y.r,.own 18 2 .flat y.s,.int .i64 y.t,.int .i64 y.u,.int .i64 y.v,.int .i64 y.w,.own 23 2 .flat y.x,.own 24 1 .flat y.y,.bool y.z,.view 26 1 .flat y.aa,.own 27 10 .flat y.ab,.own 28 9 .flat y.ac]
def b1g (y:U23):V:=.agg [.own 0 2 .clean y.a,.own 1 10 .flat y.b,.own 2 4 .flat y.c,.int .i64 y.d,.str y.e,.str y.f,.bool y.g,.own 7 1 .flat y.h,.own 8 1 .flat y.i,.own 9 1 .flat y.j,.str y.k,.str y.l,.view 12 4 .clean y.m,.bool y.n,.own 14 4 .clean y.o,.view 15 1 .flat y.p,.own 16 8 .flat y.q,.own 17 5 .flat y.r,.own 18 2 .flat y.s,.int .i64 y.t,.int .i64 y.u,.int .i64 y.v,.int .i64 y.w,.own 23 2 .flat y.x,.own 24 1 .flat y.y,.bool y.z,.own 26 1 .flat y.aa,.own 27 10 .flat y.ab,.own 28 9 .flat y.ac]
def e1g (y:U21):V:=.agg [.bool y.a,.str y.b,.str y.c,.bool y.d,.own 8 1 .flat y.e,.own 9 1 .flat y.f,.own 10 1 .flat y.g,.str y.h,.str y.i,.view 13 4 .clean y.j,.bool y.k,.own 15 4 .clean y.l,.view 16 1 .flat y.m,.own 17 8 .flat y.n,.own 18 5 .flat y.o,.own 19 2 .flat y.p,.int .i64 y.q,.int .i64 y.r,.int .i64 y.s,.int .i64 y.t,.own 24 2 .flat y.u,.own 25 1 .flat y.v,.bool y.w,.own 27 8 .flat y.x,.own 28 2 .clean y.y,.int .i64 y.z]
def l1c (y:U20):V:=.agg [.own 0 2 .clean y.a,.own 1 10 .flat y.b,.own 2 4 .flat y.c,.int .i64 y.d,.own 4 25 .clean y.e,.int .i64 y.f,.bool y.g,.str y.h,.str y.i,.bool y.j,.own 10 1 .flat y.k,.own 11 1 .flat y.l,.own 12 1 .flat y.m,.str y.n,.str y.o,.view 15 4 .clean y.p,.bool y.q,.own 17 4 .clean y.r,.view 18 1 .flat y.s,.own 19 8 .flat y.t,.own 20 5 .flat y.u,.own 21 2 .flat y.v,.int .i64 y.w,.int .i64 y.x,.int .i64 y.y,.int .i64 y.z,.own 26 2 .flat y.aa,.own 27 1 .flat y.ab,.bool y.ac,.own 29 8 .flat y.ad,.own 30 2 .clean y.ae,.int .i64 y.af,.bool y.ag]
def l1d (y:U20):V:=.agg [.own 0 2 .clean y.a,.own 1 10 .flat y.b,.own 2 4 .flat y.c,.int .i64 y.d,.view 4 25 .clean y.e,.int .i64 y.f,.bool y.g,.str y.h,.str y.i,.bool y.j,.own 10 1 .flat y.k,.own 11 1 .flat y.l,.own 12 1 .flat y.m,.str y.n,.str y.o,.own 15 4 .clean y.p,.bool y.q,.own 17 4 .clean y.r,.own 18 1 .flat y.s,.own 19 8 .flat y.t,.own 20 5 .flat y.u,.own 21 2 .flat y.v,.int .i64 y.w,.int .i64 y.x,.int .i64 y.y,.int .i64 y.z,.own 26 2 .flat y.aa,.own 27 1 .flat y.ab,.bool y.ac,.own 29 8 .flat y.ad,.own 30 2 .clean y.ae,.int .i64 y.af,.bool y.ag]
def b1h (y:U20):V:=.agg [.own 0 2 .clean y.a,.own 1 10 .flat y.b,.own 2 4 .flat y.c,.int .i64 y.d,.view 4 25 .clean y.e,.int .i64 y.f,.bool y.g,.str y.h,.str y.i,.bool y.j,.own 10 1 .flat y.k,.own 11 1 .flat y.l,.own 12 1 .flat y.m,.str y.n,.str y.o,.view 15 4 .clean y.p,.bool y.q,.own 17 4 .clean y.r,.view 18 1 .flat y.s,.own 19 8 .flat y.t,.own 20 5 .flat y.u,.own 21 2 .flat y.v,.int .i64 y.w,.int .i64 y.x,.int .i64 y.y,.int .i64 y.z,.own 26 2 .flat y.aa,.own 27 1 .flat y.ab,.bool y.ac,.own 29 8 .flat y.ad,.own 30 2 .clean y.ae,.int .i64 y.af,.bool y.ag]
def z0:List V:=[.sl 1 true []]
def z1:List V:=[.ptr 58 0,.agg [.sl 1 true [],.int .i64 0,.int .i64 0]]
def z2:List V:=[.ptr 31 0,.int .i64 0,.agg [.sl 1 true [],.int .i64 0,.int .i64 0]]
def z3:List V:=[.ptr 12 0,.sl 1 true [],.agg [.sl 1 true [],.int .i64 0,.int .i64 0]]
def z4:List V:=[.ptr 25 0,.int .i64 0,.agg [.sl 1 true [],.int .i64 0,.int .i64 0]]
def z5:List V:=[.ptr 23 0,.agg [.sl 1 true [],.int .i64 0,.int .i64 0]]
def z6:List V:=[.ptr 9 0,.int .i64 0,.agg [.sl 1 true [],.int .i64 0,.int .i64 0]]
def z7:List V:=[.ptr 48 0,.agg [.sl 1 true [],.int .i64 0,.int .i64 0]]
def z8:List V:=[.ptr 36 0,.int .i64 0,.agg [.sl 1 true [],.int .i64 0,.int .i64 0]]
def z9:List V:=[.ptr 27 0,.int .i64 0,.agg [.sl 1 true [],.int .i64 0,.int .i64 0]]
def i0o:List V:=[.ptr 21 0,.agg [.sl 1 true [],.int .i64 0,.int .i64 0]]
def e1i:List V:=[.ptr 18 0,.agg [.sl 1 true [],.int .i64 0,.int .i64 0]]
def b1l:List V:=[.int .i64 0,.int .i64 0,.int .i64 0]
def qE:List V:=[.str []]
def TJ:List V:=[.agg [.bool false,.sl 1 true [],.sl 1 true [],.sl 1 true [],.str []]]
def i0p:List V:=[.str [],.sl 1 true []]
def e1j:List V:=[.ptr 23 0,.int .i64 0,.agg [.sl 1 true [],.int .i64 0,.int .i64 0]]
def e1k:List V:=[.ptr 46 0,.agg [.sl 1 true [],.int .i64 0,.int .i64 0]]
def e1l:List V:=[.sl 2 false [],.str []]
def e1m:List V:=[.agg [.str [],.sl 7 true []],.str []]
def TK:List V:=[.str [],.int .u8 0]
def Ss:List V:=[.agg [.int .i64 0,.int .i64 0,.str [],.int .i64 0,.bool false,.str []]]
def e1n:List V:=[.agg [.str [],.sl 7 true []]]
def l1f:List V:=[.sl 2 false [],.agg [.str [],.str []],.agg [.int .i64 0,.int .i64 0,.str [],.int .i64 0,.bool false,.str []]]
def e1o:List V:=[.ptr 85 0,.agg [.sl 1 true [],.int .i64 0,.int .i64 0]]
def TL:List V:=[.agg [.str [],.str []]]
def MH:List V:=[]
def e1p:List V:=[.agg [.str [],.str []],.agg [.int .i64 0,.int .i64 0,.str [],.int .i64 0,.bool false,.str []]]
def TM:List V:=[.ptr 15 0,.agg [.sl 1 true [],.int .i64 0,.int .i64 0]]
def e1q:List V:=[.ptr 28 0,.agg [.sl 1 true [],.int .i64 0,.int .i64 0]]
def e1r:List V:=[.sl 2 true []]
def b1m:List V:=[.sl 4 false []]
def e1s:List V:=[.agg [.sl 4 false [],.sl 1 true []]]
def kq:List V:=[.agg [.str [],.str [],.bool false,.sl 1 true [],.sl 1 true [],.sl 1 true [],.str [],.str [],.sl 4 false [],.bool false,.sl 4 false [],.sl 1 true [],.sl 8 true [],.sl 5 true [],.sl 2 true [],.int .i64 0,.int .i64 0,.int .i64 0,.int .i64 0,.sl 2 true [],.sl 1 true [],.bool false]]
def e1t:List V:=[.sl 2 true [],.str []]
def e1u:List V:=[.agg [.str []],.str []]
def b1n:List V:=[.agg [.str [],.str [],.bool false,.sl 1 true [],.sl 1 true [],.sl 1 true [],.str [],.str [],.sl 4 false [],.bool false,.sl 4 false [],.sl 1 true [],.sl 8 true [],.sl 5 true [],.sl 2 true [],.int .i64 0,.int .i64 0,.int .i64 0,.int .i64 0,.sl 2 true [],.sl 1 true [],.bool false],.str []]
def i0q:List V:=[.agg [.str []]]
def e1v:List V:=[.agg [.sl 4 false [],.sl 1 true []],.int .i64 0]
def Su:List V:=[.int .i64 0]
def e1w:List V:=[.agg [.sl 4 false [],.sl 1 true []],.str []]
def e1x:List V:=[.sl 1 false [],.str []]
def e1y:List V:=[.agg [.sl 4 false [],.sl 1 true []],.sl 1 false [],.agg [.int .i64 0,.str []]]
def e1z:List V:=[.agg [.sl 4 false [],.sl 1 true []],.sl 1 false [],.sl 2 true []]
def f1a:List V:=[.agg [.str [],.str [],.bool false,.sl 1 true [],.sl 1 true [],.sl 1 true [],.str [],.str [],.sl 4 false [],.bool false,.sl 4 false [],.sl 1 true [],.sl 8 true [],.sl 5 true [],.sl 2 true [],.int .i64 0,.int .i64 0,.int .i64 0,.int .i64 0,.sl 2 true [],.sl 1 true [],.bool false],.str [],.bool false]
def f1b:List V:=[.agg [.own 0 4 .clean [],.own 1 1 .flat []],.str []]
def b1o:List V:=[.agg [.sl 4 false [],.sl 1 true []],.agg [.int .i64 0,.str [],.sl 2 true [],.str []]]
def TN:List V:=[.str [],.str []]
def b1p:List V:=[.agg [.str [],.str [],.bool false,.sl 1 true [],.sl 1 true [],.sl 1 true [],.str [],.str [],.sl 4 false [],.bool false,.sl 4 false [],.sl 1 true [],.sl 8 true [],.sl 5 true [],.sl 2 true [],.int .i64 0,.int .i64 0,.int .i64 0,.int .i64 0,.sl 2 true [],.sl 1 true [],.bool false],.int .i64 0]
def b1q:List V:=[.agg [.int .i64 0,.str [],.str [],.str [],.str []]]
def i0r:List V:=[.sl 1 true [],.str []]
def b1r:List V:=[.agg [.bool false,.sl 1 true [],.sl 1 true [],.sl 1 true [],.str []],.int .i64 0,.str []]
def f1c:List V:=[.agg [.bool false,.sl 1 true [],.sl 1 true [],.sl 1 true [],.str []],.agg [.int .i64 0,.str [],.str [],.str [],.str []]]
def b1s:List V:=[.agg [.str [],.str [],.bool false,.sl 1 true [],.sl 1 true [],.sl 1 true [],.str [],.str [],.sl 4 false [],.bool false,.sl 4 false [],.sl 1 true [],.sl 8 true [],.sl 5 true [],.sl 2 true [],.int .i64 0,.int .i64 0,.int .i64 0,.int .i64 0,.sl 2 true [],.sl 1 true [],.bool false],.int .i64 0,.str [],.str [],.int .i64 0]
def f1d:List V:=[.agg [.str [],.str [],.bool false,.own 3 1 .flat [],.own 4 1 .flat [],.own 5 1 .flat [],.str [],.str [],.view 8 4 .clean [],.bool false,.own 10 4 .clean [],.view 11 1 .flat [],.own 12 8 .flat [],.own 13 5 .flat [],.own 14 2 .flat [],.int .i64 0,.int .i64 0,.int .i64 0,.int .i64 0,.own 19 2 .flat [],.own 20 1 .flat [],.bool false],.agg [.int .i64 0,.str [],.sl 2 true [],.str []],.int .i64 0]
def f1e:List V:=[.agg [.bool false,.sl 1 true [],.sl 1 true [],.sl 1 true [],.str []],.str []]
def f1f:List V:=[.agg [.str [],.str []],.agg [.str [],.str []]]
def CY:List V:=[.agg [.str [],.str [],.bool false,.sl 1 true [],.sl 1 true [],.sl 1 true [],.str [],.str [],.sl 4 false [],.bool false,.sl 4 false [],.sl 1 true [],.sl 8 true [],.sl 5 true [],.sl 2 true [],.int .i64 0,.int .i64 0,.int .i64 0,.int .i64 0,.sl 2 true [],.sl 1 true [],.bool false],.agg [.str [],.str []]]
def f1g:List V:=[.agg [.str [],.str [],.bool false,.own 3 1 .flat [],.own 4 1 .flat [],.own 5 1 .flat [],.str [],.str [],.view 8 4 .clean [],.bool false,.own 10 4 .clean [],.view 11 1 .flat [],.own 12 8 .flat [],.own 13 5 .flat [],.own 14 2 .flat [],.int .i64 0,.int .i64 0,.int .i64 0,.int .i64 0,.own 19 2 .flat [],.own 20 1 .flat [],.bool false],.int .i64 0]
def f1h:List V:=[.sl 2 true [],.agg [.str [],.str []]]
def i0s:List V:=[.int .i64 0,.int .i64 0]
def f1i:List V:=[.agg [.str [],.str [],.bool false,.sl 1 true [],.sl 1 true [],.sl 1 true [],.str [],.str [],.sl 4 false [],.bool false,.sl 4 false [],.sl 1 true [],.sl 8 true [],.sl 5 true [],.sl 2 true [],.int .i64 0,.int .i64 0,.int .i64 0,.int .i64 0,.sl 2 true [],.sl 1 true [],.bool false],.agg [.str [],.str []],.own 0 2 .flat [],.own 1 2 .flat []]
def f1j:List V:=[.agg [.str [],.str [],.bool false,.own 3 1 .flat [],.own 4 1 .flat [],.own 5 1 .flat [],.str [],.str [],.own 8 4 .clean [],.bool false,.own 10 4 .clean [],.own 11 1 .flat [],.own 12 8 .flat [],.own 13 5 .flat [],.own 14 2 .flat [],.int .i64 0,.int .i64 0,.int .i64 0,.int .i64 0,.own 19 2 .flat [],.own 20 1 .flat [],.bool false],.str []]
def f1k:List V:=[.sl 2 false [],.agg [.str [],.str []]]
def f1l:List V:=[.agg [.int .i64 0,.int .i64 0,.str [],.int .i64 0,.bool false,.str []],.int .i64 0]
def i0t:List V:=[.agg [.bool false,.sl 1 true [],.sl 1 true [],.sl 1 true [],.str []],.agg [.int .i64 0,.str [],.str [],.str [],.str []],.agg [.int .i64 0,.int .i64 0,.str [],.int .i64 0,.bool false,.str []]]
def f1m:List V:=[.agg [.str [],.str [],.bool false,.sl 1 true [],.sl 1 true [],.sl 1 true [],.str [],.str [],.sl 4 false [],.bool false,.sl 4 false [],.sl 1 true [],.sl 8 true [],.sl 5 true [],.sl 2 true [],.int .i64 0,.int .i64 0,.int .i64 0,.int .i64 0,.sl 2 true [],.sl 1 true [],.bool false],.int .i64 0,.agg [.int .i64 0,.int .i64 0,.str [],.int .i64 0,.bool false,.str []]]
def g0m:List V:=[.agg [.str [],.str [],.bool false,.sl 1 true [],.sl 1 true [],.sl 1 true [],.str [],.str [],.sl 4 false [],.bool false,.sl 4 false [],.sl 1 true [],.sl 8 true [],.sl 5 true [],.sl 2 true [],.int .i64 0,.int .i64 0,.int .i64 0,.int .i64 0,.sl 2 true [],.sl 1 true [],.bool false],.agg [.str [],.str []],.agg [.int .i64 0,.int .i64 0,.str [],.int .i64 0,.bool false,.str []]]
def f1n:List V:=[.ptr 64 0,.agg [.sl 1 true [],.int .i64 0,.int .i64 0]]
def b1t:List V:=[.ptr 6 0,.agg [.sl 1 true [],.int .i64 0,.int .i64 0]]
def b1u:List V:=[.ptr 10 0,.agg [.sl 1 true [],.int .i64 0,.int .i64 0]]
def i0u:List V:=[.agg [.sl 10 true []]]
def b1v:List V:=[.agg [.sl 10 true []],.str [],.agg [.str [],.str []]]
def f1o:List V:=[.agg [.sl 10 true []],.str [],.agg [.str [],.str []],.agg [.int .i64 0,.int .i64 0,.str [],.int .i64 0,.bool false,.str []],.int .i64 0]
def f1p:List V:=[.ptr 30 0,.agg [.sl 1 true [],.int .i64 0,.int .i64 0]]
def b1w:List V:=[.ptr 49 0,.agg [.sl 1 true [],.int .i64 0,.int .i64 0]]
def xO:List V:=[.agg [.sl 25 false [],.int .i64 0]]
def i0v:List V:=[.agg [.sl 25 false [],.int .i64 0],.agg [.str [],.str [],.bool false,.sl 1 true [],.sl 1 true [],.sl 1 true [],.str [],.str [],.sl 4 false [],.bool false,.sl 4 false [],.sl 1 true [],.sl 8 true [],.sl 5 true [],.sl 2 true [],.int .i64 0,.int .i64 0,.int .i64 0,.int .i64 0,.sl 2 true [],.sl 1 true [],.bool false]]
def i0w:List V:=[.agg [.sl 25 false [],.int .i64 0],.int .i64 0]
def f1q:List V:=[.ptr 25 0,.agg [.sl 1 true [],.int .i64 0,.int .i64 0]]
def f1r:List V:=[.ptr 37 0,.agg [.sl 1 true [],.int .i64 0,.int .i64 0]]
def i0x:List V:=[.sl 2 false []]
def Sw:List V:=[.agg [.sl 2 false [],.sl 10 true [],.sl 4 true [],.int .i64 0]]
def f1s:List V:=[.agg [.sl 10 true []],.str [],.agg [.str [],.str []],.int .i64 0]
def f1t:List V:=[.agg [.sl 2 false [],.sl 10 true [],.sl 4 true [],.int .i64 0],.str [],.agg [.str [],.str []],.agg [.int .i64 0,.int .i64 0,.str [],.int .i64 0,.bool false,.str []]]
def f1u:List V:=[.agg [.sl 2 false [],.sl 10 true [],.sl 4 true [],.int .i64 0],.str [],.agg [.str [],.str []],.bool false]
def f1v:List V:=[.ptr 53 0,.agg [.sl 1 true [],.int .i64 0,.int .i64 0]]
def f1w:List V:=[.sl 2 false [],.bool false]
def f1x:List V:=[.ptr 19 0,.agg [.sl 1 true [],.int .i64 0,.int .i64 0]]
def f1y:List V:=[.ptr 22 0,.int .i64 0,.agg [.sl 1 true [],.int .i64 0,.int .i64 0]]
def Sx:List V:=[.agg [.sl 2 false [],.sl 10 true [],.sl 4 true [],.int .i64 0,.sl 25 false [],.int .i64 0,.bool false,.str [],.str [],.bool false,.sl 1 true [],.sl 1 true [],.sl 1 true [],.str [],.str [],.sl 4 false [],.bool false,.sl 4 false [],.sl 1 true [],.sl 8 true [],.sl 5 true [],.sl 2 true [],.int .i64 0,.int .i64 0,.int .i64 0,.int .i64 0,.sl 2 true [],.sl 1 true [],.bool false,.sl 8 true [],.sl 2 false [],.int .i64 0,.bool false]]
def f1z:List V:=[.agg [.bool false,.str [],.str [],.bool false,.sl 1 true [],.sl 1 true [],.sl 1 true [],.str [],.str [],.sl 4 false [],.bool false,.sl 4 false [],.sl 1 true [],.sl 8 true [],.sl 5 true [],.sl 2 true [],.int .i64 0,.int .i64 0,.int .i64 0,.int .i64 0,.sl 2 true [],.sl 1 true [],.bool false,.sl 8 true [],.sl 2 false [],.int .i64 0]]
def g1a:List V:=[.sl 2 false [],.sl 2 false []]
def i0y:List V:=[.agg [.sl 2 false [],.sl 10 true [],.sl 4 true [],.int .i64 0],.agg [.bool false,.str [],.str [],.bool false,.sl 1 true [],.sl 1 true [],.sl 1 true [],.str [],.str [],.sl 4 false [],.bool false,.sl 4 false [],.sl 1 true [],.sl 8 true [],.sl 5 true [],.sl 2 true [],.int .i64 0,.int .i64 0,.int .i64 0,.int .i64 0,.sl 2 true [],.sl 1 true [],.bool false,.sl 8 true [],.sl 2 false [],.int .i64 0]]
def g1b:List V:=[.agg [.sl 2 false [],.sl 10 true [],.sl 4 true [],.int .i64 0],.agg [.str [],.str []],.sl 1 true []]
def HG:List V:=[.agg [.sl 2 false [],.sl 10 true [],.sl 4 true [],.int .i64 0,.str [],.str [],.bool false,.sl 1 true [],.sl 1 true [],.sl 1 true [],.str [],.str [],.sl 4 false [],.bool false,.sl 4 false [],.sl 1 true [],.sl 8 true [],.sl 5 true [],.sl 2 true [],.int .i64 0,.int .i64 0,.int .i64 0,.int .i64 0,.sl 2 true [],.sl 1 true [],.bool false,.sl 1 true [],.sl 10 true [],.sl 9 true []]]
def g0n:List V:=[.sl 10 true []]
def g1c:List V:=[.sl 5 true [],.sl 2 true []]
def g1d:List V:=[.agg [.str [],.str [],.bool false,.sl 1 true [],.sl 1 true [],.sl 1 true [],.str [],.str [],.sl 4 false [],.bool false,.sl 4 false [],.sl 1 true [],.sl 8 true [],.sl 5 true [],.sl 2 true [],.int .i64 0,.int .i64 0,.int .i64 0,.int .i64 0,.sl 2 true [],.sl 1 true [],.bool false],.agg [.int .i64 0,.str [],.str [],.str [],.str []]]
def g1e:List V:=[.agg [.str [],.str [],.bool false,.sl 1 true [],.sl 1 true [],.sl 1 true [],.str [],.str [],.sl 4 false [],.bool false,.sl 4 false [],.sl 1 true [],.sl 8 true [],.sl 5 true [],.sl 2 true [],.int .i64 0,.int .i64 0,.int .i64 0,.int .i64 0,.sl 2 true [],.sl 1 true [],.bool false],.sl 5 true []]
def Jx:List V:=[.sl 9 true [],.agg [.str [],.str []]]
def f0r:List V:=[.sl 10 true [],.agg [.str [],.str []]]
def f0s:List V:=[.sl 10 true [],.agg [.str [],.str []],.agg [.int .i64 0,.int .i64 0,.str [],.int .i64 0,.bool false,.str []],.bool false]
def f0t:List V:=[.sl 9 true []]
def f0u:List V:=[.agg [.int .i64 0,.str [],.sl 2 true [],.str []],.str []]
def f0v:List V:=[.sl 4 false [],.str []]
def f0w:List V:=[.sl 10 true [],.int .i64 0]
def f0x:List V:=[.sl 9 true [],.agg [.str [],.str []],.agg [.int .i64 0,.int .i64 0,.str [],.int .i64 0,.bool false,.str []]]
def f0y:List V:=[.agg [.own 0 2 .clean [],.own 1 10 .flat [],.own 2 4 .flat [],.int .i64 0,.str [],.str [],.bool false,.own 7 1 .flat [],.own 8 1 .flat [],.own 9 1 .flat [],.str [],.str [],.view 12 4 .clean [],.bool false,.own 14 4 .clean [],.view 15 1 .flat [],.own 16 8 .flat [],.own 17 5 .flat [],.own 18 2 .flat [],.int .i64 0,.int .i64 0,.int .i64 0,.int .i64 0,.own 23 2 .flat [],.own 24 1 .flat [],.bool false,.own 26 1 .flat [],.own 27 10 .flat [],.own 28 9 .flat []],.int .i64 0]
def GX:List V:=[.agg [.sl 2 false [],.sl 10 true [],.sl 4 true [],.int .i64 0,.str [],.str [],.bool false,.sl 1 true [],.sl 1 true [],.sl 1 true [],.str [],.str [],.sl 4 false [],.bool false,.sl 4 false [],.sl 1 true [],.sl 8 true [],.sl 5 true [],.sl 2 true [],.int .i64 0,.int .i64 0,.int .i64 0,.int .i64 0,.sl 2 true [],.sl 1 true [],.bool false,.sl 1 true [],.sl 10 true [],.sl 9 true []],.int .i64 0]
def f0z:List V:=[.agg [.sl 2 false [],.sl 10 true [],.sl 4 true [],.int .i64 0,.str [],.str [],.bool false,.sl 1 true [],.sl 1 true [],.sl 1 true [],.str [],.str [],.sl 4 false [],.bool false,.sl 4 false [],.sl 1 true [],.sl 8 true [],.sl 5 true [],.sl 2 true [],.int .i64 0,.int .i64 0,.int .i64 0,.int .i64 0,.sl 2 true [],.sl 1 true [],.bool false,.sl 1 true [],.sl 10 true [],.sl 9 true []],.sl 1 true []]
def g0a:List V:=[.agg [.sl 2 false [],.sl 10 true [],.sl 4 true [],.int .i64 0],.agg [.str [],.str []],.sl 1 true [],.sl 1 true []]
def g0b:List V:=[.agg [.sl 2 false [],.sl 10 true [],.sl 4 true [],.int .i64 0],.agg [.str [],.str []]]
def Jy:List V:=[.agg [.sl 2 false [],.sl 10 true [],.sl 4 true [],.int .i64 0,.sl 25 false [],.int .i64 0,.bool false,.str [],.str [],.bool false,.sl 1 true [],.sl 1 true [],.sl 1 true [],.str [],.str [],.sl 4 false [],.bool false,.sl 4 false [],.sl 1 true [],.sl 8 true [],.sl 5 true [],.sl 2 true [],.int .i64 0,.int .i64 0,.int .i64 0,.int .i64 0,.sl 2 true [],.sl 1 true [],.bool false,.sl 8 true [],.sl 2 false [],.int .i64 0,.bool false],.agg [.str [],.str []],.sl 1 true [],.sl 1 true []]
def g0c:List V:=[.agg [.sl 2 false [],.sl 10 true [],.sl 4 true [],.int .i64 0,.sl 25 false [],.int .i64 0,.bool false,.str [],.str [],.bool false,.sl 1 true [],.sl 1 true [],.sl 1 true [],.str [],.str [],.sl 4 false [],.bool false,.sl 4 false [],.sl 1 true [],.sl 8 true [],.sl 5 true [],.sl 2 true [],.int .i64 0,.int .i64 0,.int .i64 0,.int .i64 0,.sl 2 true [],.sl 1 true [],.bool false,.sl 8 true [],.sl 2 false [],.int .i64 0,.bool false],.int .i64 0,.sl 1 true [],.sl 1 true []]
def g0d:List V:=[.ptr 7 0,.agg [.sl 1 true [],.int .i64 0,.int .i64 0]]
def g0e:List V:=[.str [],.agg [.str [],.str []]]
def g0f:List V:=[.agg [.sl 2 false [],.sl 10 true [],.sl 4 true [],.int .i64 0],.str [],.agg [.str [],.str []]]
def g0g:List V:=[.agg [.sl 2 false [],.sl 10 true [],.sl 4 true [],.int .i64 0,.sl 25 false [],.int .i64 0,.bool false,.str [],.str [],.bool false,.sl 1 true [],.sl 1 true [],.sl 1 true [],.str [],.str [],.sl 4 false [],.bool false,.sl 4 false [],.sl 1 true [],.sl 8 true [],.sl 5 true [],.sl 2 true [],.int .i64 0,.int .i64 0,.int .i64 0,.int .i64 0,.sl 2 true [],.sl 1 true [],.bool false,.sl 8 true [],.sl 2 false [],.int .i64 0,.bool false],.agg [.str [],.str []]]
def g0h:List V:=[.ptr 55 0,.agg [.sl 1 true [],.int .i64 0,.int .i64 0]]
def g0i:List V:=[.ptr 31 0,.agg [.sl 1 true [],.int .i64 0,.int .i64 0]]
def g0j:List V:=[.ptr 35 0,.agg [.sl 1 true [],.int .i64 0,.int .i64 0]]
def Jz:List V:=[.ptr 39 0,.agg [.sl 1 true [],.int .i64 0,.int .i64 0]]
def g0k:List V:=[.agg [.sl 2 false [],.sl 10 true [],.sl 4 true [],.int .i64 0],.int .i64 0]
def g0l:List V:=[.ptr 27 0,.agg [.sl 1 true [],.int .i64 0,.int .i64 0]]
def So:List V:=[.agg [.str [],.str [],.str [],.bool false]]
def CX:List V:=[.agg [.sl 10 true []],.int .i64 0]
def Sp:List V:=[.sl 4 true []]
def S9 {α:Type}(l:LV)(i:Nat)(f:Int->Option α):Option α:=idx false [.int .u8] l i λe=>f e.1
def B1 {α:Type}(l:LV)(i:Nat)(f:LU->Option α):Option α:=idx false [.str] l i λe=>f e.1
def Iy {α:Type}(l:LV)(i:Nat)(f:Int->Option α):Option α:=idx false [.int .i64] l i λe=>f e.1
def wM {α:Type}(l:LV)(i:Nat)(f:U3->Option α):Option α:=idx true [.str,.sl 7 true] l i λe=>f ⟨e.1,e.2.1⟩
def Ce {α:Type}(l:LV)(i:Nat)(f:U4->Option α):Option α:=idx true [.str,.int .i64,.int .i64,.str,.int .i64,.bool,.str] l i λe=>f ⟨e.1,e.2.1,e.2.2.1,e.2.2.2.1,e.2.2.2.2.1,e.2.2.2.2.2.1,e.2.2.2.2.2.2.1⟩
def S_ {α:Type}(l:LV)(i:Nat)(f:U9->Option α):Option α:=idx true [.int .i64,.str,.sl 2 true,.str] l i λe=>f ⟨e.1,e.2.1,e.2.2.1,e.2.2.2.1⟩
def Ep {α:Type}(l:LV)(i:Nat)(f:U6->Option α):Option α:=idx true [.str,.str,.int .i64,.sl 2 true] l i λe=>f ⟨e.1,e.2.1,e.2.2.1,e.2.2.2.1⟩
def Qd {α:Type}(l:LV)(i:Nat)(f:U5->Option α):Option α:=idx true [.str,.str] l i λe=>f ⟨e.1,e.2.1⟩
def pM {α:Type}(l:LV)(i:Nat)(f:U10->Option α):Option α:=idx true [.int .i64,.str,.str,.str,.int .i64,.bool,.int .i64,.str] l i λe=>f ⟨e.1,e.2.1,e.2.2.1,e.2.2.2.1,e.2.2.2.2.1,e.2.2.2.2.2.1,e.2.2.2.2.2.2.1,e.2.2.2.2.2.2.2.1⟩
def TA {α:Type}(l:LV)(i:Nat)(f:LV->Option α):Option α:=idx true [.sl 2 true] l i λe=>f e.1
def El {α:Type}(l:LV)(i:Nat)(f:U12->Option α):Option α:=idx true [.str,.int .i64] l i λe=>f ⟨e.1,e.2.1⟩
def Iw {α:Type}(l:LV)(i:Nat)(f:U11->Option α):Option α:=idx true [.int .i64,.str] l i λe=>f ⟨e.1,e.2.1⟩
def ie {α:Type}(l:LV)(i:Nat)(f:U14->Option α):Option α:=idx true [.str,.str,.bool,.int .i64,.str] l i λe=>f ⟨e.1,e.2.1,e.2.2.1,e.2.2.2.1,e.2.2.2.2.1⟩
def oO {α:Type}(l:LV)(i:Nat)(f:U16->Option α):Option α:=idx true [.str,.str,.str,.int .i64,.int .i64,.str,.int .i64,.bool,.str,.int .i64] l i λe=>f ⟨e.1,e.2.1,e.2.2.1,e.2.2.2.1,e.2.2.2.2.1,e.2.2.2.2.2.1,e.2.2.2.2.2.2.1,e.2.2.2.2.2.2.2.1,e.2.2.2.2.2.2.2.2.1,e.2.2.2.2.2.2.2.2.2.1⟩
def jw {α:Type}(l:LV)(i:Nat)(f:U18->Option α):Option α:=idx true [.str,.str,.str,.str,.bool,.sl 1 true,.sl 1 true,.sl 1 true,.str,.str,.sl 4 false,.bool,.sl 4 false,.sl 1 true,.sl 8 true,.sl 5 true,.sl 2 true,.int .i64,.int .i64,.int .i64,.int .i64,.sl 2 true,.sl 1 true,.bool,.bool] l i λe=>f ⟨e.1,e.2.1,e.2.2.1,e.2.2.2.1,e.2.2.2.2.1,e.2.2.2.2.2.1,e.2.2.2.2.2.2.1,e.2.2.2.2.2.2.2.1,e.2.2.2.2.2.2.2.2.1,e.2.2.2.2.2.2.2.2.2.1,e.2.2.2.2.2.2.2.2.2.2.1,e.2.2.2.2.2.2.2.2.2.2.2.1,e.2.2.2.2.2.2.2.2.2.2.2.2.1,e.2.2.2.2.2.2.2.2.2.2.2.2.2.1,e.2.2.2.2.2.2.2.2.2.2.2.2.2.2.1,e.2.2.2.2.2.2.2.2.2.2.2.2.2.2.2.1,e.2.2.2.2.2.2.2.2.2.2.2.2.2.2.2.2.1,e.2.2.2.2.2.2.2.2.2.2.2.2.2.2.2.2.2.1,e.2.2.2.2.2.2.2.2.2.2.2.2.2.2.2.2.2.2.1,e.2.2.2.2.2.2.2.2.2.2.2.2.2.2.2.2.2.2.2.1,e.2.2.2.2.2.2.2.2.2.2.2.2.2.2.2.2.2.2.2.2.1,e.2.2.2.2.2.2.2.2.2.2.2.2.2.2.2.2.2.2.2.2.2.1,e.2.2.2.2.2.2.2.2.2.2.2.2.2.2.2.2.2.2.2.2.2.2.1,e.2.2.2.2.2.2.2.2.2.2.2.2.2.2.2.2.2.2.2.2.2.2.2.1,e.2.2.2.2.2.2.2.2.2.2.2.2.2.2.2.2.2.2.2.2.2.2.2.2.1⟩
def Em {α:Type}(l:LV)(i:Nat)(f:U22->Option α):Option α:=idx true [.str,.str,.int .i64,.int .i64,.str,.int .i64,.bool,.str] l i λe=>f ⟨e.1,e.2.1,e.2.2.1,e.2.2.2.1,e.2.2.2.2.1,e.2.2.2.2.2.1,e.2.2.2.2.2.2.1,e.2.2.2.2.2.2.2.1⟩
def wL {α:Type}(l:LV)(i:Nat)(f:U24->Option α):Option α:=idx true [.str,.str,.int .i64,.bool,.int .i64,.int .i64,.str,.int .i64,.bool,.str] l i λe=>f ⟨e.1,e.2.1,e.2.2.1,e.2.2.2.1,e.2.2.2.2.1,e.2.2.2.2.2.1,e.2.2.2.2.2.2.1,e.2.2.2.2.2.2.2.1,e.2.2.2.2.2.2.2.2.1,e.2.2.2.2.2.2.2.2.2.1⟩
def yO {α:Type}(l:LV)(i:Nat)(f:U13->Option α):Option α:=idx true [.int .i64,.str,.str,.str,.str] l i λe=>f ⟨e.1,e.2.1,e.2.2.1,e.2.2.2.1,e.2.2.2.2.1⟩
def B3 {α:Type}(l:LV)(i:Nat)(f:U25->Option α):Option α:=idx true [.str,.str,.int .i64,.int .i64,.str,.int .i64,.bool,.str,.bool] l i λe=>f ⟨e.1,e.2.1,e.2.2.1,e.2.2.2.1,e.2.2.2.2.1,e.2.2.2.2.2.1,e.2.2.2.2.2.2.1,e.2.2.2.2.2.2.2.1,e.2.2.2.2.2.2.2.2.1⟩
def Eo {α:Type}(l:LV)(i:Nat)(f:U15->Option α):Option α:=idx true [.str,.str,.str,.bool] l i λe=>f ⟨e.1,e.2.1,e.2.2.1,e.2.2.2.1⟩
def fO {α:Type}(l:LV)(i o:Nat)(f:LU->Option α):Option α:=idxAt [.str] l i o λe=>f e.1
def Yy {α:Type}(l:LV)(i o:Nat)(f:U9->Option α):Option α:=idxAt [.int .i64,.str,.sl 2 true,.str] l i o λe=>f ⟨e.1,e.2.1,e.2.2.1,e.2.2.2.1⟩
def Is {α:Type}(l:LV)(i o:Nat)(f:Int->Option α):Option α:=idxAt [.int .i64] l i o λe=>f e.1
def h0x {α:Type}(l:LV)(i o:Nat)(f:LV->Option α):Option α:=idxAt [.sl 2 true] l i o λe=>f e.1
def oN {α:Type}(l:LV)(i o:Nat)(f:U5->Option α):Option α:=idxAt [.str,.str] l i o λe=>f ⟨e.1,e.2.1⟩
def Yz {α:Type}(l:LV)(i o:Nat)(f:Bool->Option α):Option α:=idxAt [.bool] l i o λe=>f e.1
def S8 {α:Type}(l:LV)(i o:Nat)(f:U13->Option α):Option α:=idxAt [.int .i64,.str,.str,.str,.str] l i o λe=>f ⟨e.1,e.2.1,e.2.2.1,e.2.2.2.1,e.2.2.2.2.1⟩
def Y0 {α:Type}(l:LV)(i o:Nat)(f:U24->Option α):Option α:=idxAt [.str,.str,.int .i64,.bool,.int .i64,.int .i64,.str,.int .i64,.bool,.str] l i o λe=>f ⟨e.1,e.2.1,e.2.2.1,e.2.2.2.1,e.2.2.2.2.1,e.2.2.2.2.2.1,e.2.2.2.2.2.2.1,e.2.2.2.2.2.2.2.1,e.2.2.2.2.2.2.2.2.1,e.2.2.2.2.2.2.2.2.2.1⟩
def c1z {α:Type}(l:LV)(i o:Nat)(f:LV->Option α):Option α:=idxAt [.sl 7 true] l i o λe=>f e.1
end
end Go.Am

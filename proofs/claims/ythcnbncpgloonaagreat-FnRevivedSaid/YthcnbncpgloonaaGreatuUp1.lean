/-
  Functions of the program over structures, extracted by program (symu.py) out of their code: what each computes, and, by the kernel's reckoning, that the machine's looking form computes just that; so what the machine answers.
-/
import Derived.Test.YthcnbncpgloonaaGreatuAmCfg
import Derived.Test.YthcnbncpgloonaaGreatuUp0
import Derived.KernelRfl
set_option maxRecDepth 10000
set_option linter.unusedVariables false
namespace Go.Am
open Go Go.Proofs
noncomputable section
def g1n (a0s:f0e)(b0a:h0a):c0m:=λ β c k=>
 a0s _ 8 c λ n1 y2=>
 br (n1 == 0) (
 b0a _ [.str [112],.str [98],.str [115,99,114,105,112,116],.str [112,97,103,101]] y2 λ t3 y4=>
 cs ([47]:LU) t3 <|
 k ([47]++t3) y4) (
 br (n1 == 1) (
 b0a _ [.str [97,112,112],.str [99,100,110,47,108,105,98],.str [108,105,98],.str [101,118,105,108,47,97,112,112]] y2 λ t5 y6=>
 cs ([115,99,114,105,112,116,32,115,114,99,61]:LU) t5 <|
 k ([115,99,114,105,112,116,32,115,114,99,61]++t5) y6) (
 br (n1 == 2) (
 b0a _ [.str [97,112,112],.str [117,116,105,108]] y2 λ t7 y8=>
 cs ([115,99,114,105,112,116,32,115,114,99,61]:LU) t7 <|
 cs ([115,99,114,105,112,116,32,115,114,99,61]++t7:LU) ([32,107,105,110,100,61]:LU) <|
 b0a _ [.str [100,101,102,101,114],.str [109,111,100,117,108,101]] y8 λ t9 y10=>
 cs (([115,99,114,105,112,116,32,115,114,99,61]++t7)++[32,107,105,110,100,61]) t9 <|
 k ((([115,99,114,105,112,116,32,115,114,99,61]++t7)++[32,107,105,110,100,61])++t9) y10) (
 br (n1 == 3) (
 b0a _ [.str [108,111,103,111],.str [99,100,110,47,108,111,103,111]] y2 λ t11 y12=>
 cs ([105,109,103,32,115,114,99,61]:LU) t11 <|
 k ([105,109,103,32,115,114,99,61]++t11) y12) (
 br (n1 == 4) (
 b0a _ [.str [115,116,121,108,101],.str [99,100,110,47,115,116,121,108,101]] y2 λ t13 y14=>
 cs ([108,105,110,107,32,104,114,101,102,61]:LU) t13 <|
 k ([108,105,110,107,32,104,114,101,102,61]++t13) y14) (
 br (n1 == 5) (
 b0a _ [.str [112,32,97,61,98],.str [],.str [80],.str [112,32,97],.str [112,32,97,61],.str [112,32,32,97,61,98],.str [112,32,97,61,98,32,97,61,99],.str [112,32,97,61,98,32,98,61,99,32,99,61,100,32,100,61,101,32,101,61,102],.str [47],.str [112,32,97,61,98,61,99]] y2 λ t15 y16=>
 k t15 y16) (
 b0a _ [.str [112],.str [98],.str [112,97,103,101],.str [115,99,114,105,112,116]] y2 λ t17 y18=>
 k t17 y18))))))
def k0c:c0m:=g1n a0s b0a
abbrev q1o (F:c0m):WT:=WU z8 (l0f F)
theorem z1q (a0s:f0e)(b0a:h0a):KI [(43,ioW (o0i a0s)),(77,ioW (u0d b0a))] noX 150 ⟨[.pt],48,1,false⟩ Tryz.f150 z8 (l0f (g1n a0s b0a )):=λ _ _ _=>by kernel_rfl
theorem u1k:a0l D 150 (ioW (q1o k0c)):=a0x Tryz.func150 (tc j0f (tc o0a tn)) (z1q a0s b0a )
def g1j (a0s:f0e)(b0e:g0z)(b0a:h0a)(k0c:c0m):e0l:=λ β most c k=>
 a0s _ (wi (most+1)) c λ n1 y2=>
 whl dS6 (λ x3=>
 br (decide (x3.2.1 > 0)) (
 b0e _ 3 x3.2.2 λ b4 y5=>
 br b4 (
 b0a _ [.str [104,105],.str [97,32,98],.str [99,111,117,110,116],.str [120,62,121],.str []] y5 λ t6 y7=>
 cs x3.1 t6 <|
 some (.inl (eS6 (x3.1++t6,wi (x3.2.1 - 1),y7)))) (
 cs x3.1 ([60]:LU) <|
 k0c _ y5 λ t8 y9=>
 cs (x3.1++[60]) t8 <|
 cs ((x3.1++[60])++t8) ([62]:LU) <|
 some (.inl (eS6 (((x3.1++[60])++t8)++[62],wi (x3.2.1 - 1),y9))))) (
 some (.inr (0,eS5 (x3.1,x3.2.2))))) (eS6 ([],n1,y2)) λ r14=>
 wx dS5 r14.2 λ x15=>
 b0e _ 6 x15.2 λ b16 y17=>
 br b16 (
 b0a _ [.str [60,112],.str [60],.str [101,110,100]] y17 λ t18 y19=>
 cs x15.1 t18 <|
 k (x15.1++t18) y19) (
 k x15.1 y17)
def k0a:e0l:=g1j a0s b0e b0a k0c
def y1d:a0y:=λ i=>b0c i [] [(3,[(.exit 0,xkb 36 37 [(0,.ptr 36 0),(5,.str [])] [(36,.agg [.sl 1 true [],.int .i64 0,.int .i64 0])])])]
abbrev q1k (F:e0l):WT:=WU z9 (r0z F)
theorem z1m (a0s:f0e)(b0e:g0z)(b0a:h0a)(k0c:c0m):KI [(43,ioW (o0i a0s)),(67,ioW (u0c b0e)),(77,ioW (u0d b0a)),(150,ioW (q1o k0c))] y1d 125 ⟨[.pt,.data],36,1,false⟩ Tryz.f125 z9 (r0z (g1j a0s b0e b0a k0c )):=λ _ _ _=>by kernel_rfl
theorem u1e:a0l D 125 (ioW (q1k k0a)):=a0x Tryz.func125 (tc j0f (tc n0z (tc o0a (tc u1k tn)))) (z1m a0s b0e b0a k0c )
def s1j (f0d:e0l)(j0z:c0m)(b0a:h0a)(k0a:e0l):e0l:=λ β kind c k=>
 br (kind == 2) (
 f0d _ 3 c λ t1 y2=>
 k t1 y2) (
 br (kind == 3) (
 j0z _ c λ t3 y4=>
 k t3 y4) (
 br (kind == 5) (
 b0a _ [.str [],.str [105,109,112,111,114,116,32,117,116,105,108,59],.str [105,109,112,111,114,116,32,108,105,98,59],.str [105,109,112,111,114,116,32,99,100,110,47,108,105,98,59],.str [105,109,112,111,114,116,32,97,112,112,59,105,109,112,111,114,116,32,117,116,105,108,59]] c λ t5 y6=>
 b0a _ [.str [115,97,121,32,109],.str [99,111,117,110,116,32,112],.str [97,100,100,32,98],.str [108,111,111,107,32,112]] y6 λ t7 y8=>
 cs t5 t7 <|
 k (t5++t7) y8) (
 br (kind == 4) (
 k [112,105,120,101,108,115] c) (
 k0a _ 8 c λ t9 y10=>
 k t9 y10))))
def r0m:e0l:=s1j f0d j0z b0a k0a
abbrev y1a (F:e0l):WT:=WU z10 (r0z F)
theorem j2z (f0d:e0l)(j0z:c0m)(b0a:h0a)(k0a:e0l):KI [(104,ioW (g1u f0d)),(124,ioW (q1j j0z)),(77,ioW (u0d b0a)),(125,ioW (q1k k0a))] noX 99 ⟨[.pt,.data],27,1,false⟩ Tryz.f99 z10 (r0z (s1j f0d j0z b0a k0a )):=λ _ _ _=>by kernel_rfl
theorem b2e:a0l D 99 (ioW (y1a r0m)):=a0x Tryz.func99 (tc j1v (tc u1d (tc o0a (tc u1e tn)))) (j2z f0d j0z b0a k0a )
abbrev i0d:Type 1:=(β:Type)→U0→(LV→U0→Option β)→Option β
def g1k (b0e:g0z):i0d:=λ β c k=>
 whl dS7 (λ x1=>
 br (decide (x1.2.2.2.1 < x1.2.2.1)) (
 ci x1.2.2.2.1 x1.2.1 <|
 ia0 x1.2.1 x1.2.2.2.1.toNat 0 λ t2=>
 b0e _ 2 x1.2.2.2.2 λ b3 y4=>
 br b3 (
 ca x1.1 ([.str t2]:LV) 16 <|
 some (.inl (eS7 (x1.1++([.str t2]:LV),x1.2.1,x1.2.2.1,wi (x1.2.2.2.1+1),y4)))) (
 some (.inl (eS7 (x1.1,x1.2.1,x1.2.2.1,wi (x1.2.2.2.1+1),y4))))) (
 some (.inr (0,eS3 (x1.1,x1.2.2.2.2))))) (eS7 ([],[.str [104,111,109,101],.str [99,100,110],.str [101,118,105,108]],(nL ([.str [104,111,109,101],.str [99,100,110],.str [101,118,105,108]]:LV)),0,c)) λ r7=>
 wx dS3 r7.2 λ x8=>
 k x8.1 x8.2
def i0a:i0d:=g1k b0e
def y1e:a0y:=λ i=>b0c i [] [(3,[(.exit 0,xkb 21 22 [(3,.own 1000000 1 .flat [])] [(21,.agg [.sl 1 true [],.int .i64 0,.int .i64 0])])])]
def p1r (F:i0d):GT:=λ β s k=>F β (rd0 s 0) (λ y1 y2=>k (.tup [.own 0 1 .flat y1,w10 y2]))
abbrev q1l (F:i0d):WT:=WU z11 (p1r F)
theorem z1n (b0e:g0z):KI [(67,ioW (u0c b0e))] y1e 128 ⟨[.pt],21,1,false⟩ Tryz.f128 z11 (p1r (g1k b0e )):=λ _ _ _=>by kernel_rfl
theorem u1f:a0l D 128 (ioW (q1l i0a)):=a0x Tryz.func128 (tc n0z tn) (z1n b0e )
abbrev n0j:Type 1:=(β:Type)→U0→(U2→U0→Option β)→Option β
def g1f (b0e:g0z)(i0a:i0d):n0j:=λ β c k=>
 b0e _ 2 c λ b1 y2=>
 br b1 (
 k ⟨false,[],[],[],[]⟩ y2) (
 i0a _ y2 λ l3 y4=>
 i0a _ y4 λ l5 y6=>
 i0a _ y6 λ l7 y8=>
 b0e _ 2 y8 λ b9 y10=>
 br b9 (
 k ⟨true,l3,l5,l7,[110,55]⟩ y10) (
 k ⟨true,l3,l5,l7,[]⟩ y10))
def f0c:n0j:=g1f b0e i0a
def p1p (F:n0j):GT:=λ β s k=>F β (rd0 s 0) (λ y1 y2=>k (.tup [w12 y1,w10 y2]))
abbrev g1t (F:n0j):WT:=WU z12 (p1p F)
theorem z1i (b0e:g0z)(i0a:i0d):KI [(67,ioW (u0c b0e)),(128,ioW (q1l i0a))] noX 101 ⟨[.pt],18,1,false⟩ Tryz.f101 z12 (p1p (g1f b0e i0a )):=λ _ _ _=>by kernel_rfl
theorem j1u:a0l D 101 (ioW (g1t f0c)):=a0x Tryz.func101 (tc n0z (tc u1f tn)) (z1i b0e i0a )
abbrev T25:Type 1:=(β:Type)→Int→Int→Int→(Bool→Option β)→Option β
def P25:T25:=λ β x l0x most k=>
 br (decide (x ≥ l0x)) (
 k (decide (x≤most))) (
 k false)
def F25:T25:=P25
def G25 (F:T25):GT:=λ β s k=>F β (lI s 0) (lI s 1) (lI s 2) (λ y1=>k (.bool y1))
abbrev W25 (F:T25):WT:=WU z13 (G25 F)
theorem k25:KU [] noX 25 Tryz.f25 z13 (G25 (P25 )):=λ _ _ _=>by kernel_rfl
theorem v0b:a0l D 25 (W25 F25):=a0b Tryz.func25 tn (k25 )
theorem u1u:a0l D1 25 (W25 F25):=a0b Tryz.func25 tn (k25 )
abbrev k0f:Type 1:=(β:Type)→LU→(Bool→Option β)→Option β
def f2d (F25:T25):k0f:=λ β s k=>
 whl y1q (λ x1=>
 br (decide (x1.2 < (nS x1.1))) (
 idxS x1.1 x1.2 λ b2=>
 br (decide (b2 < 97)) (
 some (.inr (1,z0h (x1.1,false)))) (
 idxS x1.1 x1.2 λ b3=>
 br (decide (b3 > 122)) (
 some (.inr (1,z0h (x1.1,false)))) (
 some (.inl (s0k (x1.1,wi (x1.2+1))))))) (
 some (.inr (0,eS9 x1.1)))) (s0k (s,0)) λ r5=>
 if r5.1=0 then
 wx dS9 r5.2 λ x6=>
 F25 _ (nS x6) 1 8 λ b8=>
 k b8
 else
 wx h2x r5.2 λ x7=>
 k x7.2
def d0n:k0f:=f2d F25
def w2q:a0y:=λ i=>b0c i [] [(2,[(.exit 0,xk 23 [(0,.str [])] []),(.ret,xk 23 [(0,.str []),(2,.bool false)] [])])]
def c2g (F:k0f):GT:=λ β s k=>F β (lS s 0) (λ y1=>k (.bool y1))
abbrev w0k (F:k0f):WT:=WU z14 (c2g F)
theorem t2y (F25:T25):KU [(25,W25 F25)] w2q 122 Tryz.f122 z14 (c2g (f2d F25 )):=λ _ _ _=>by kernel_rfl
theorem a1c:a0l D 122 (w0k d0n):=a0b Tryz.func122 (tc v0b tn) (t2y F25 )
theorem r1k:a0l D1 122 (w0k d0n):=a0b Tryz.func122 (tc u1u tn) (t2y F25 )
def g2a (d0n:k0f):T4:=λ β l k=>
 whl dS0 (λ x1=>
 br (decide (x1.2 < (nL x1.1))) (
 c0 x1.2 <|
 ix2 x1.1 x1.2.toNat λ t2=>
 d0n _ t2 λ b3=>
 br (!b3) (
 some (.inr (1,i2g (x1.1,false)))) (
 some (.inl (eS0 (x1.1,wi (x1.2+1)))))) (
 some (.inr (0,eS8 x1.1)))) (eS0 (l,0)) λ r4=>
 if r4.1=0 then
 wx dS8 r4.2 λ x5=>
 k (decide ((nL x5)≤4))
 else
 wx r2w r4.2 λ x6=>
 k x6.2
def b1l:T4:=g2a d0n
def w2z:a0y:=λ i=>b0c i [] [(2,[(.exit 0,xk 19 [(0,.sl 1 true [])] []),(.ret,xk 19 [(0,.sl 1 true []),(2,.bool false)] [])])]
theorem u2d (d0n:k0f):KU [(122,w0k d0n)] w2z 151 Tryz.f151 z0 (G4 (g2a d0n )):=λ _ _ _=>by kernel_rfl
theorem k2y:a0l D 151 (W4 b1l):=a0b Tryz.func151 (tc a1c tn) (u2d d0n )
theorem b2m:a0l D1 151 (W4 b1l):=a0b Tryz.func151 (tc r1k tn) (u2d d0n )
def g2b (F25:T25):k0f:=λ β s k=>
 whl y1q (λ x1=>
 br (decide (x1.2 < (nS x1.1))) (
 idxS x1.1 x1.2 λ b2=>
 br (decide (b2 < 97)) (
 idxS x1.1 x1.2 λ b3=>
 br (decide (b3 < 48)) (
 idxS x1.1 x1.2 λ b4=>
 br (b4 != 47) (
 some (.inr (1,z0h (x1.1,false)))) (
 some (.inl (s0k (x1.1,wi (x1.2+1)))))) (
 idxS x1.1 x1.2 λ b5=>
 br (decide (b5 > 57)) (
 idxS x1.1 x1.2 λ b6=>
 br (b6 != 47) (
 some (.inr (1,z0h (x1.1,false)))) (
 some (.inl (s0k (x1.1,wi (x1.2+1)))))) (
 some (.inl (s0k (x1.1,wi (x1.2+1))))))) (
 idxS x1.1 x1.2 λ b7=>
 br (decide (b7 > 122)) (
 idxS x1.1 x1.2 λ b8=>
 br (decide (b8 < 48)) (
 idxS x1.1 x1.2 λ b9=>
 br (b9 != 47) (
 some (.inr (1,z0h (x1.1,false)))) (
 some (.inl (s0k (x1.1,wi (x1.2+1)))))) (
 idxS x1.1 x1.2 λ b10=>
 br (decide (b10 > 57)) (
 idxS x1.1 x1.2 λ b11=>
 br (b11 != 47) (
 some (.inr (1,z0h (x1.1,false)))) (
 some (.inl (s0k (x1.1,wi (x1.2+1)))))) (
 some (.inl (s0k (x1.1,wi (x1.2+1))))))) (
 some (.inl (s0k (x1.1,wi (x1.2+1))))))) (
 some (.inr (0,eS9 x1.1)))) (s0k (s,0)) λ r13=>
 if r13.1=0 then
 wx dS9 r13.2 λ x14=>
 F25 _ (nS x14) 1 20 λ b16=>
 k b16
 else
 wx h2x r13.2 λ x15=>
 k x15.2
def n0i:k0f:=g2b F25
def x2a:a0y:=λ i=>b0c i [] [(2,[(.exit 0,xk 41 [(0,.str [])] []),(.ret,xk 41 [(0,.str []),(2,.bool false)] [])])]
theorem u2e (F25:T25):KU [(25,W25 F25)] x2a 152 Tryz.f152 z14 (c2g (g2b F25 )):=λ _ _ _=>by kernel_rfl
theorem u1l:a0l D 152 (w0k n0i):=a0b Tryz.func152 (tc v0b tn) (u2e F25 )
theorem b2n:a0l D1 152 (w0k n0i):=a0b Tryz.func152 (tc u1u tn) (u2e F25 )
abbrev v1n:Type 1:=(β:Type)→U2→(Bool→Option β)→Option β
def f2f (b1l:T4)(n0i:k0f):v1n:=λ β p k=>
 br (!p.a) (
 br ((nL p.b) == 0) (
 br ((nL p.c) == 0) (
 br ((nL p.d) == 0) (
 k (p.e == [])) (
 k false)) (
 k false)) (
 k false)) (
 b1l _ p.b λ b2=>
 br b2 (
 b1l _ p.c λ b3=>
 br b3 (
 b1l _ p.d λ b4=>
 br b4 (
 br (p.e == []) (
 k true) (
 n0i _ p.e λ b5=>
 k b5)) (
 k false)) (
 k false)) (
 k false))
def f1r:v1n:=f2f b1l n0i
def o2z (F:v1n):GT:=λ β s k=>F β (rd2 s 0) (λ y1=>k (.bool y1))
abbrev h2d (F:v1n):WT:=WU z15 (o2z F)
theorem u2a (b1l:T4)(n0i:k0f):KU [(151,W4 b1l),(152,w0k n0i)] noX 126 Tryz.f126 z15 (o2z (f2f b1l n0i )):=λ _ _ _=>by kernel_rfl
theorem k2n:a0l D 126 (h2d f1r):=a0b Tryz.func126 (tc k2y (tc u1l tn)) (u2a b1l n0i )
theorem b2j:a0l D1 126 (h2d f1r):=a0b Tryz.func126 (tc b2m (tc b2n tn)) (u2a b1l n0i )
abbrev v1o:Type 1:=(β:Type)→LU→LV→(LU→Option β)→Option β
def f2g:v1o:=λ β word l k=>
 whl r2x (λ x1=>
 br (decide (x1.2.2 < (nL x1.2.1))) (
 cs x1.1 ([32]:LU) <|
 c0 x1.2.2 <|
 ix2 x1.2.1 x1.2.2.toNat λ t2=>
 cs (x1.1++[32]) t2 <|
 some (.inl (i2h ((x1.1++[32])++t2,x1.2.1,wi (x1.2.2+1))))) (
 some (.inr (0,eS9 x1.1)))) (i2h (word,l,0)) λ r3=>
 wx dS9 r3.2 λ x4=>
 k x4
def b1k:v1o:=f2g
def w2r:a0y:=λ i=>b0c i [] [(2,[(.exit 0,xk 20 [(0,.str [])] [])])]
def p2a (F:v1o):GT:=λ β s k=>F β (lS s 0) (lL s 1) (λ y1=>k (.str y1))
abbrev h2e (F:v1o):WT:=WU z16 (p2a F)
theorem u2b:KU [] w2r 127 Tryz.f127 z16 (p2a (f2g )):=λ _ _ _=>by kernel_rfl
theorem k2o:a0l D 127 (h2e b1k):=a0b Tryz.func127 tn (u2b )
theorem b2k:a0l D1 127 (h2e b1k):=a0b Tryz.func127 tn (u2b )
abbrev m1q:Type 1:=(β:Type)→U2→(LU→Option β)→Option β
def e2k (f1r:v1n)(b1k:v1o):m1q:=λ β p k=>
 jt0 (b1k _ [115,99,114,105,112,116] p.b λ t3=>
 cs t3 ([59]:LU) <|
 b1k _ [115,116,121,108,101] p.c λ t4=>
 cs (t3++[59]) t4 <|
 cs ((t3++[59])++t4) ([59]:LU) <|
 b1k _ [105,109,103] p.d λ t5=>
 cs (((t3++[59])++t4)++[59]) t5 <|
 br (!(p.e == [])) (
 cs ((((t3++[59])++t4)++[59])++t5) ([59,110,111,110,99,101,32]:LU) <|
 cs (((((t3++[59])++t4)++[59])++t5)++[59,110,111,110,99,101,32]) p.e <|
 k ((((((t3++[59])++t4)++[59])++t5)++[59,110,111,110,99,101,32])++p.e)) (
 k ((((t3++[59])++t4)++[59])++t5))) λ j7=>
 f1r _ p λ b1=>
 br (!b1) (
 k []) (
 br (!p.a) (
 k []) (
 j7))
def l0d:m1q:=e2k f1r b1k
def o2n (F:m1q):GT:=λ β s k=>F β (rd2 s 0) (λ y1=>k (.str y1))
abbrev x1m (F:m1q):WT:=WU z15 (o2n F)
theorem t2x (f1r:v1n)(b1k:v1o):KU [(126,h2d f1r),(127,h2e b1k)] noX 100 Tryz.f100 z15 (o2n (e2k f1r b1k )):=λ _ _ _=>by kernel_rfl
theorem u1a:a0l D 100 (x1m l0d):=a0b Tryz.func100 (tc k2n (tc k2o tn)) (t2x f1r b1k )
theorem b2h:a0l D1 100 (x1m l0d):=a0b Tryz.func100 (tc b2j (tc b2k tn)) (t2x f1r b1k )
abbrev d1g:Type 1:=(β:Type)→Int→U0→(U3→U0→Option β)→Option β
def s1g (r0m:e0l)(d0i:o0h)(b0e:g0z)(f0c:n0j)(l0d:m1q):d1g:=λ β kind c k=>
 r0m _ kind c λ t1 y2=>
 d0i _ [.int .i64 0,.int .i64 5,.int .i64 50] y2 λ n3 y4=>
 b0e _ 2 y4 λ b5 y6=>
 br (kind == 1) (
 f0c _ y6 λ y7 y8=>
 l0d _ y7 λ t9=>
 k ⟨200,kind,t1,n3,b5,t9⟩ y8) (
 k ⟨200,kind,t1,n3,b5,[]⟩ y6)
def k0n:d1g:=s1g r0m d0i b0e f0c l0d
def x1h (F:d1g):GT:=λ β s k=>F β (lI s 0) (rd0 s 1) (λ y1 y2=>k (.tup [w13 y1,w10 y2]))
abbrev x1x (F:d1g):WT:=WU z17 (x1h F)
theorem j2w (r0m:e0l)(d0i:o0h)(b0e:g0z)(f0c:n0j)(l0d:m1q):KI [(99,ioW (y1a r0m)),(56,ioW (g1w d0i)),(67,ioW (u0c b0e)),(101,ioW (g1t f0c)),(100,x1m l0d)] noX 81 ⟨[.pt,.data],23,1,false⟩ Tryz.f81 z17 (x1h (s1g r0m d0i b0e f0c l0d )):=λ _ _ _=>by kernel_rfl
theorem b2b:a0l D 81 (ioW (x1x k0n)):=a0x Tryz.func81 (tc b2e (tc c1k (tc n0z (tc j1u (tc u1a tn))))) (j2w r0m d0i b0e f0c l0d )
abbrev T94:Type 1:=(β:Type)→LV→LU→(Int→Option β)→Option β
def P94:T94:=λ β l host k=>
 whl w1j (λ x1=>
 br (decide (x1.2.2 < (nL x1.1))) (
 c0 x1.2.2 <|
 ix3 x1.1 x1.2.2.toNat λ y2=>
 br (y2.a == x1.2.1) (
 some (.inr (1,y0s x1.2.2))) (
 some (.inl (h1x (x1.1,x1.2.1,wi (x1.2.2+1)))))) (
 some (.inr (0,[])))) (h1x (l,host,0)) λ r3=>
 if r3.1=0 then
 k (-1)
 else
 wx q1w r3.2 λ x4=>
 k x4
def F94:T94:=P94
def X94:a0y:=λ i=>b0c i [] [(2,[(.exit 0,xk 20 [] []),(.ret,xk 20 [(4,.int .i64 0)] [])])]
def G94 (F:T94):GT:=λ β s k=>F β (lL s 0) (lS s 1) (λ y1=>k (.int .i64 y1))
abbrev W94 (F:T94):WT:=WU z18 (G94 F)
theorem k94:KU [] X94 94 Tryz.f94 z18 (G94 (P94 )):=λ _ _ _=>by kernel_rfl
theorem d3m:a0l D 94 (W94 F94):=a0b Tryz.func94 tn (k94 )
theorem l2x:a0l D1 94 (W94 F94):=a0b Tryz.func94 tn (k94 )
abbrev T96:Type 1:=(β:Type)→U4→LU→(Int→Option β)→Option β
def P96:T96:=λ β s path k=>
 whl r2y (λ x1=>
 br (decide (x1.2.1 < (nL x1.2.2.b))) (
 c0 x1.2.1 <|
 ix4 x1.2.2.b x1.2.1.toNat λ y2=>
 br (y2.a == x1.1) (
 some (.inr (1,y0s x1.2.1))) (
 some (.inl (i2i (x1.1,wi (x1.2.1+1),x1.2.2))))) (
 some (.inr (0,[])))) (i2i (path,0,s)) λ r3=>
 if r3.1=0 then
 k (-1)
 else
 wx q1w r3.2 λ x4=>
 k x4
def F96:T96:=P96
def X96:a0y:=λ i=>b0c i [] [(2,[(.exit 0,xk 22 [] []),(.ret,xk 22 [(4,.int .i64 0)] [])])]
def G96 (F:T96):GT:=λ β s k=>F β (rd4 s 0) (lS s 2) (λ y1=>k (.int .i64 y1))
abbrev W96 (F:T96):WT:=WU z19 (G96 F)
theorem k96:KU [] X96 96 Tryz.f96 z19 (G96 (P96 )):=λ _ _ _=>by kernel_rfl
theorem d3o:a0l D 96 (W96 F96):=a0b Tryz.func96 tn (k96 )
theorem l2y:a0l D1 96 (W96 F96):=a0b Tryz.func96 tn (k96 )
abbrev f1w:Type 1:=(β:Type)→LU→Int→(LV→Option β)→Option β
def g2c:f1w:=λ β s xby k=>
 whl r2z (λ x1=>
 br (decide (x1.2.2.2.2≤(nS x1.1))) (
 jt1 (λ (b3:Bool)=>
 br b3 (
 cc x1.2.2.2.1 x1.2.2.2.2 (nS x1.1) <|
 ca x1.2.2.1 ([.str ((x1.1.take x1.2.2.2.2.toNat).drop x1.2.2.2.1.toNat)]:LV) 16 <|
 some (.inl (d2b (x1.1,x1.2.1,x1.2.2.1++([.str ((x1.1.take x1.2.2.2.2.toNat).drop x1.2.2.2.1.toNat)]:LV),wi (x1.2.2.2.2+1),wi (x1.2.2.2.2+1))))) (
 some (.inl (d2b (x1.1,x1.2.1,x1.2.2.1,x1.2.2.2.1,wi (x1.2.2.2.2+1)))))) λ j4=>
 br (x1.2.2.2.2 == (nS x1.1)) (
 j4 true) (
 idxS x1.1 x1.2.2.2.2 λ b2=>
 j4 (b2 == x1.2.1))) (
 some (.inr (0,eS8 x1.2.2.1)))) (d2b (s,xby,[],0,0)) λ r9=>
 wx dS8 r9.2 λ x10=>
 k x10
def i0b:f1w:=g2c
def x2b:a0y:=λ i=>b0c i [] [(4,[(.exit 0,xk 36 [(5,.own 1000000 1 .flat [])] [])])]
def p2s (F:f1w):GT:=λ β s k=>F β (lS s 0) (lI s 1) (λ y1=>k (.own 0 1 .flat y1))
abbrev w1h (F:f1w):WT:=WU z20 (p2s F)
theorem u2f:KU [] x2b 153 Tryz.f153 z20 (p2s (g2c )):=λ _ _ _=>by kernel_rfl
theorem o1l:a0l D 153 (w1h i0b):=a0b Tryz.func153 tn (u2f )
theorem b2o:a0l D1 153 (w1h i0b):=a0b Tryz.func153 tn (u2f )
abbrev q1c:Type 1:=(β:Type)→LU→(U2→Bool→Option β)→Option β
def f2j (i0b:f1w)(l0d:m1q):q1c:=λ β s k=>
 br (s == []) (
 k ⟨false,[],[],[],[]⟩ true) (
 i0b _ s 59 λ l1=>
 br (decide ((nL l1) < 3)) (
 k ⟨false,[],[],[],[]⟩ false) (
 ci 0 l1 <|
 ia0 l1 0 0 λ t2=>
 i0b _ t2 32 λ l3=>
 cc 1 (nL l3) (nL l3) <|
 ci 1 l1 <|
 ia0 l1 1 0 λ t4=>
 i0b _ t4 32 λ l5=>
 cc 1 (nL l5) (nL l5) <|
 ci 2 l1 <|
 ia0 l1 2 0 λ t6=>
 i0b _ t6 32 λ l7=>
 cc 1 (nL l7) (nL l7) <|
 br (decide ((nL l1) > 3)) (
 ci 3 l1 <|
 ia0 l1 3 0 λ t8=>
 br (decide ((nS t8) > 6)) (
 ci 3 l1 <|
 ia0 l1 3 0 λ t11=>
 cc 6 (nS t11) (nS t11) <|
 l0d _ ⟨true,(l3.take ((nL l3).toNat)).drop 1,(l5.take ((nL l5).toNat)).drop 1,(l7.take ((nL l7).toNat)).drop 1,(t11.take ((nS t11).toNat)).drop 6⟩ λ t16=>
 br (!(t16 == s)) (
 k ⟨false,[],[],[],[]⟩ false) (
 k ⟨true,(l3.take ((nL l3).toNat)).drop 1,(l5.take ((nL l5).toNat)).drop 1,(l7.take ((nL l7).toNat)).drop 1,(t11.take ((nS t11).toNat)).drop 6⟩ true)) (
 l0d _ ⟨true,(l3.take ((nL l3).toNat)).drop 1,(l5.take ((nL l5).toNat)).drop 1,(l7.take ((nL l7).toNat)).drop 1,[]⟩ λ t17=>
 br (!(t17 == s)) (
 k ⟨false,[],[],[],[]⟩ false) (
 k ⟨true,(l3.take ((nL l3).toNat)).drop 1,(l5.take ((nL l5).toNat)).drop 1,(l7.take ((nL l7).toNat)).drop 1,[]⟩ true))) (
 l0d _ ⟨true,(l3.take ((nL l3).toNat)).drop 1,(l5.take ((nL l5).toNat)).drop 1,(l7.take ((nL l7).toNat)).drop 1,[]⟩ λ t18=>
 br (!(t18 == s)) (
 k ⟨false,[],[],[],[]⟩ false) (
 k ⟨true,(l3.take ((nL l3).toNat)).drop 1,(l5.take ((nL l5).toNat)).drop 1,(l7.take ((nL l7).toNat)).drop 1,[]⟩ true))))
def t0y:q1c:=f2j i0b l0d
def p2d (F:q1c):GT:=λ β s k=>F β (lS s 0) (λ y1 y2=>k (.tup [w14 y1,.bool y2]))
abbrev c2l (F:q1c):WT:=WU z14 (p2d F)
theorem u2c (i0b:f1w)(l0d:m1q):KU [(153,w1h i0b),(100,x1m l0d)] noX 131 Tryz.f131 z14 (p2d (f2j i0b l0d )):=λ _ _ _=>by kernel_rfl
theorem a2m:a0l D 131 (c2l t0y):=a0b Tryz.func131 (tc o1l (tc u1a tn)) (u2c i0b l0d )
theorem b2l:a0l D1 131 (c2l t0y):=a0b Tryz.func131 (tc b2o (tc b2h tn)) (u2c i0b l0d )
abbrev m1u:Type 1:=(β:Type)→U3→(Bool→Option β)→Option β
def f2e (t0y:q1c)(F25:T25):m1u:=λ β x k=>
 t0y _ x.f λ y1 b2=>
 F25 _ x.a 100 599 λ b3=>
 br b3 (
 F25 _ x.b 1 5 λ b4=>
 br b4 (
 br (decide ((nS x.c)≤400)) (
 F25 _ x.d 0 1000 λ b5=>
 br b5 (
 k b2) (
 k false)) (
 k false)) (
 k false)) (
 k false)
def o0f:m1u:=f2e t0y F25
def o2y (F:m1u):GT:=λ β s k=>F β (rd3 s 0) (λ y1=>k (.bool y1))
abbrev x1p (F:m1u):WT:=WU z21 (o2y F)
theorem t2z (t0y:q1c)(F25:T25):KU [(131,c2l t0y),(25,W25 F25)] noX 123 Tryz.f123 z21 (o2y (f2e t0y F25 )):=λ _ _ _=>by kernel_rfl
theorem a2k:a0l D 123 (x1p o0f):=a0b Tryz.func123 (tc a2m (tc v0b tn)) (t2z t0y F25 )
theorem b2i:a0l D1 123 (x1p o0f):=a0b Tryz.func123 (tc b2l (tc u1u tn)) (t2z t0y F25 )
abbrev T98:Type 1:=(β:Type)→U4→(Bool→Option β)→Option β
def P98 (d0n:k0f)(o0f:m1u):T98:=λ β s k=>
 whl h2y (λ x1=>
 br (decide (x1.1 < (nL x1.2.b))) (
 jt0 (whl s2a (λ x7=>
 br (decide (x7.2.1 < x7.1)) (
 c0 x7.2.1 <|
 ix4 x7.2.2.b x7.2.1.toNat λ y8=>
 c0 x7.1 <|
 ix4 x7.2.2.b x7.1.toNat λ y9=>
 br (y8.a == y9.a) (
 some (.inr (1,t2l (false,x7.1,x7.2.2)))) (
 some (.inl (i2j (x7.1,wi (x7.2.1+1),x7.2.2))))) (
 some (.inr (0,y1r (x7.1,x7.2.2))))) (i2j (x1.1,0,x1.2)) λ r10=>
 if r10.1=0 then
 wx h2y r10.2 λ x11=>
 some (.inl (y1r (wi (x11.1+1),x11.2)))
 else
 wx x2o r10.2 λ x12=>
 some (.inr (1,d2c (x12.1,x12.2.2)))) λ j13=>
 c0 x1.1 <|
 ix4 x1.2.b x1.1.toNat λ y2=>
 d0n _ y2.a λ b3=>
 br (!b3) (
 some (.inr (1,d2c (false,x1.2)))) (
 c0 x1.1 <|
 ix4 x1.2.b x1.1.toNat λ y4=>
 o0f _ ⟨y4.b,y4.c,y4.d,y4.e,y4.f,y4.g⟩ λ b5=>
 br (!b5) (
 some (.inr (1,d2c (false,x1.2)))) (
 j13))) (
 some (.inr (0,t2k x1.2)))) (y1r (0,s)) λ r14=>
 if r14.1=0 then
 wx x2n r14.2 λ x15=>
 d0n _ x15.a λ b17=>
 br b17 (
 k (decide ((nL x15.b)≤10))) (
 k false)
 else
 wx x2p r14.2 λ x16=>
 k x16.1
def F98:T98:=P98 d0n o0f
def X98:a0y:=λ i=>b0c i [] [(2,[(.exit 0,xk 57 [(1,.ptr 1 0)] [(1,.agg [.str [],.sl 7 true []])]),(.ret,xk 57 [(1,.ptr 1 0),(2,.bool false)] [(1,.agg [.str [],.sl 7 true []])])]),(7,[(.exit 2,xk 57 [(1,.ptr 1 0),(3,.int .i64 0)] [(1,.agg [.str [],.sl 7 true []])]),(.ret,xk 57 [(1,.ptr 1 0),(2,.bool false),(3,.int .i64 0)] [(1,.agg [.str [],.sl 7 true []])])])]
def G98 (F:T98):GT:=λ β s k=>F β (rd4 s 0) (λ y1=>k (.bool y1))
abbrev W98 (F:T98):WT:=WU z22 (G98 F)
theorem k98 (d0n:k0f)(o0f:m1u):KU [(122,w0k d0n),(123,x1p o0f)] X98 98 Tryz.f98 z22 (G98 (P98 d0n o0f )):=λ _ _ _=>by kernel_rfl
theorem l2z:a0l D1 98 (W98 F98):=a0b Tryz.func98 (tc r1k (tc b2i tn)) (k98 d0n o0f )
abbrev T80:Type 1:=(β:Type)→LV→U6→U3→(LV→Bool→Option β)→Option β
def F80:T80:=λ β l a x k=>b2q (λ β xs h k=>F94 β xs h k) (λ β h fs p k=>F96 β ⟨h,fs⟩ p k) (λ β h fs k=>F98 β ⟨h,fs⟩ k) β l a.a a.b x.a x.b x.c x.d x.e x.f k
def G80 (F:T80):GT:=λ β s k=>F β (lL s 0) (rd6 s 1) (rd3 s 3) (λ y1 y2=>k (.tup [.own 0 2 .clean y1,.bool y2]))
abbrev W80 (F:T80):WT:=WU z23 (G80 F)
theorem d3f:a0l D 80 (W80 F80):=h1p (λ _ _ _=>by kernel_rfl) (b2g (Fsv:=(λ β xs h k=>F94 β xs h k)) (FF:=(λ β h fs p k=>F96 β ⟨h,fs⟩ p k)) (FI:=(λ β h fs k=>F98 β ⟨h,fs⟩ k)) (λ _=>rfl) (p0r (λ _ _ _=>by kernel_rfl) l2x) (p0r (λ _ _ _=>by kernel_rfl) l2y) (p0r (λ _ _ _=>by kernel_rfl) l2z))
def s1d (b0e:g0z)(k0n:d1g)(F80:T80):i0d:=λ β c k=>
 whl dS7 (λ x1=>
 br (decide (x1.2.2.2.1 < x1.2.2.1)) (
 ci x1.2.2.2.1 x1.2.1 <|
 ia0 x1.2.1 x1.2.2.2.1.toNat 0 λ t2=>
 whl s2b (λ x3=>
 br (decide (x3.2.2.2.2.2.2.2.1 < x3.2.2.2.2.2.2.1)) (
 ci x3.2.2.2.2.2.2.2.1 x3.2.2.2.2.2.1 <|
 ia0 x3.2.2.2.2.2.1 x3.2.2.2.2.2.2.2.1.toNat 0 λ t4=>
 jt2 (λ (n9:Int) (y10:U0)=>
 b0e _ 6 y10 λ b11 y12=>
 br (!b11) (
 k0n _ n9 y12 λ y13 y14=>
 F80 _ x3.1 ⟨x3.2.1,t4⟩ y13 λ l15 b16=>
 some (.inl (d2d (l15,x3.2.1,x3.2.2.1,x3.2.2.2.1,x3.2.2.2.2.1,x3.2.2.2.2.2.1,x3.2.2.2.2.2.2.1,wi (x3.2.2.2.2.2.2.2.1+1),y14)))) (
 some (.inl (d2d (x3.1,x3.2.1,x3.2.2.1,x3.2.2.2.1,x3.2.2.2.2.1,x3.2.2.2.2.2.1,x3.2.2.2.2.2.2.1,wi (x3.2.2.2.2.2.2.2.1+1),y12))))) λ j17=>
 br (!(t4 == [97,112,112])) (
 b0e _ 2 x3.2.2.2.2.2.2.2.2 λ b5 y6=>
 br b5 (
 j17 5 y6) (
 j17 2 y6)) (
 j17 2 x3.2.2.2.2.2.2.2.2)) (
 some (.inr (0,eS4 (x3.1,x3.2.1,x3.2.2.1,x3.2.2.2.1,x3.2.2.2.2.1,x3.2.2.2.2.2.2.2.2))))) (d2d (x1.1,t2,x1.2.1,x1.2.2.1,x1.2.2.2.1,[.str [97,112,112],.str [108,105,98],.str [117,116,105,108]],(nL ([.str [97,112,112],.str [108,105,98],.str [117,116,105,108]]:LV)),0,x1.2.2.2.2)) λ r18=>
 wx dS4 r18.2 λ x19=>
 b0e _ 4 x19.2.2.2.2.2 λ b20 y21=>
 br (!b20) (
 k0n _ 3 y21 λ y22 y23=>
 F80 _ x19.1 ⟨x19.2.1,[115,116,121,108,101]⟩ y22 λ l24 b25=>
 b0e _ 4 y23 λ b26 y27=>
 br (!b26) (
 k0n _ 4 y27 λ y28 y29=>
 F80 _ l24 ⟨x19.2.1,[108,111,103,111]⟩ y28 λ l30 b31=>
 some (.inl (eS7 (l30,x19.2.2.1,x19.2.2.2.1,wi (x19.2.2.2.2.1+1),y29)))) (
 some (.inl (eS7 (l24,x19.2.2.1,x19.2.2.2.1,wi (x19.2.2.2.2.1+1),y27))))) (
 b0e _ 4 y21 λ b32 y33=>
 br (!b32) (
 k0n _ 4 y33 λ y34 y35=>
 F80 _ x19.1 ⟨x19.2.1,[108,111,103,111]⟩ y34 λ l36 b37=>
 some (.inl (eS7 (l36,x19.2.2.1,x19.2.2.2.1,wi (x19.2.2.2.2.1+1),y35)))) (
 some (.inl (eS7 (x19.1,x19.2.2.1,x19.2.2.2.1,wi (x19.2.2.2.2.1+1),y33)))))) (
 some (.inr (0,eS3 (x1.1,x1.2.2.2.2))))) (eS7 ([],[.str [104,111,109,101],.str [99,100,110],.str [101,118,105,108]],(nL ([.str [104,111,109,101],.str [99,100,110],.str [101,118,105,108]]:LV)),0,c)) λ r46=>
 wx dS3 r46.2 λ x47=>
 k0n _ 1 x47.2 λ y48 y49=>
 F80 _ x47.1 ⟨[104,111,109,101],[105,110,100,101,120]⟩ y48 λ l50 b51=>
 k0n _ 1 y49 λ y52 y53=>
 F80 _ l50 ⟨[104,111,109,101],[110,101,120,116]⟩ y52 λ l54 b55=>
 k l54 y53
def r0i:i0d:=s1d b0e k0n F80
def h2q:a0y:=λ i=>b0c i [] [(3,[(.exit 0,xkb 85 86 [(0,.ptr 85 0),(3,.own 1000000 2 .clean [])] [(85,.agg [.sl 1 true [],.int .i64 0,.int .i64 0])])]),(6,[(.exit 2,xkb 85 86 [(0,.ptr 85 0),(3,.own 1000000 2 .clean []),(5,.str []),(10,.own 1000001 1 .flat []),(11,.int .i64 0),(12,.int .i64 0)] [(85,.agg [.sl 1 true [],.int .i64 0,.int .i64 0])])])]
def x1e (F:i0d):GT:=λ β s k=>F β (rd0 s 0) (λ y1 y2=>k (.tup [.own 0 2 .clean y1,w10 y2]))
abbrev x1v (F:i0d):WT:=WU z24 (x1e F)
theorem j2t (b0e:g0z)(k0n:d1g)(F80:T80):KI [(67,ioW (u0c b0e)),(81,ioW (x1x k0n)),(80,W80 F80)] h2q 71 ⟨[.pt],85,1,false⟩ Tryz.f71 z24 (x1e (s1d b0e k0n F80 )):=λ _ _ _=>by kernel_rfl
theorem a2z:a0l D 71 (ioW (x1v r0i)):=a0x Tryz.func71 (tc n0z (tc b2b (tc d3f tn))) (j2t b0e k0n F80 )
abbrev f1v:Type 1:=(β:Type)→U6→(Bool→Option β)→Option β
def f2k (d0n:k0f):f1v:=λ β a k=>
 d0n _ a.a λ b1=>
 br b1 (
 d0n _ a.b λ b2=>
 k b2) (
 k false)
def k0m:f1v:=f2k d0n
def p2e (F:f1v):GT:=λ β s k=>F β (rd6 s 0) (λ y1=>k (.bool y1))
abbrev x1q (F:f1v):WT:=WU z25 (p2e F)
theorem a3i (d0n:k0f):KU [(122,w0k d0n)] noX 132 Tryz.f132 z25 (p2e (f2k d0n )):=λ _ _ _=>by kernel_rfl
theorem o1k:a0l D 132 (x1q k0m):=a0b Tryz.func132 (tc a1c tn) (a3i d0n )
abbrev v1q:Type 1:=(β:Type)→(U8→Option β)→Option β
def f2l:v1q:=λ β  k=>
 k ⟨[w0 ⟨[112,97,103,101],[],(-1),[]⟩],[.int .i64 0]⟩
def l1s:v1q:=f2l
def p2f (F:v1q):GT:=λ β s k=>F β  (λ y1=>k (w15 y1))
abbrev q2p (F:v1q):WT:=WU z1 (p2f F)
theorem a3j:KU [] noX 133 Tryz.f133 z1 (p2f (f2l )):=λ _ _ _=>by kernel_rfl
theorem k2q:a0l D 133 (q2p l1s):=a0b Tryz.func133 tn (a3j )
abbrev v1k:Type 1:=(β:Type)→U6→U3→(U9→Bool→Option β)→Option β
def e2m (t0y:q1c)(k0m:f1v)(o0f:m1u)(l1s:v1q):v1k:=λ β a x k=>
 t0y _ x.f λ y1 b2=>
 jt0 (l1s _  λ y6=>
 k ⟨a.a,a.b,y1.a,y1.b,y1.c,y1.d,y1.e,[],[],false,y6.a,y6.b,[],[],[],0,0,0,0,[],[],false⟩ true) λ j7=>
 k0m _ a λ b3=>
 br (!b3) (
 k ⟨[],[],false,[],[],[],[],[],[],false,[],[],[],[],[],0,0,0,0,[],[],false⟩ false) (
 o0f _ x λ b4=>
 br (!b4) (
 k ⟨[],[],false,[],[],[],[],[],[],false,[],[],[],[],[],0,0,0,0,[],[],false⟩ false) (
 br (!b2) (
 k ⟨[],[],false,[],[],[],[],[],[],false,[],[],[],[],[],0,0,0,0,[],[],false⟩ false) (
 br (x.a != 200) (
 k ⟨[],[],false,[],[],[],[],[],[],false,[],[],[],[],[],0,0,0,0,[],[],false⟩ false) (
 br (x.b != 1) (
 k ⟨[],[],false,[],[],[],[],[],[],false,[],[],[],[],[],0,0,0,0,[],[],false⟩ false) (
 j7)))))
def l1j:v1k:=e2m t0y k0m o0f l1s
def o2p (F:v1k):GT:=λ β s k=>F β (rd6 s 0) (rd3 s 2) (λ y1 y2=>k (.tup [w16 y1,.bool y2]))
abbrev q2l (F:v1k):WT:=WU z26 (o2p F)
theorem z2p (t0y:q1c)(k0m:f1v)(o0f:m1u)(l1s:v1q):KU [(131,c2l t0y),(132,x1q k0m),(123,x1p o0f),(133,q2p l1s)] noX 103 Tryz.f103 z26 (o2p (e2m t0y k0m o0f l1s )):=λ _ _ _=>by kernel_rfl
theorem k2f:a0l D 103 (q2l l1j):=a0b Tryz.func103 (tc a2m (tc o1k (tc a2k (tc k2q tn)))) (z2p t0y k0m o0f l1s )
abbrev h0b:Type 1:=(β:Type)→U0→(U9→U0→Option β)→Option β
def s1h (f0c:n0j)(l0d:m1q)(l1j:v1k):h0b:=λ β c k=>
 f0c _ c λ y1 y2=>
 l0d _ y1 λ t3=>
 l1j _ ⟨[104,111,109,101],[105,110,100,101,120]⟩ ⟨200,1,[],0,false,t3⟩ λ y4 b5=>
 k y4 y2
def r0k:h0b:=s1h f0c l0d l1j
def x1i (F:h0b):GT:=λ β s k=>F β (rd0 s 0) (λ y1 y2=>k (.tup [w16 y1,w10 y2]))
abbrev x1y (F:h0b):WT:=WU z27 (x1i F)
theorem j2x (f0c:n0j)(l0d:m1q)(l1j:v1k):KI [(101,ioW (g1t f0c)),(100,x1m l0d),(103,q2l l1j)] noX 83 ⟨[.pt],15,1,false⟩ Tryz.f83 z27 (x1i (s1h f0c l0d l1j )):=λ _ _ _=>by kernel_rfl
theorem b2c:a0l D 83 (ioW (x1y r0k)):=a0x Tryz.func83 (tc j1u (tc u1a (tc k2f tn))) (j2x f0c l0d l1j )
def s1i (b0a:h0a)(a0s:f0e)(f0d:e0l):c0m:=λ β c k=>
 b0a _ [.str [],.str [60,112,62,104,105,60,47,112,62],.str [60,108,105,110,107,32,104,114,101,102,61,115,116,121,108,101,62]] c λ t1 y2=>
 a0s _ 6 y2 λ n3 y4=>
 whl dS6 (λ x5=>
 br (decide (x5.2.1 > 0)) (
 f0d _ 2 x5.2.2 λ t6 y7=>
 cs ([60,115,99,114,105,112,116,62]:LU) t6 <|
 cs ([60,115,99,114,105,112,116,62]++t6:LU) ([60,47,115,99,114,105,112,116,62]:LU) <|
 b0a _ [.str [60,115,99,114,105,112,116,32,115,114,99,61,97,112,112,62,60,47,115,99,114,105,112,116,62],.str (([60,115,99,114,105,112,116,62]++t6)++[60,47,115,99,114,105,112,116,62]),.str [60,115,99,114,105,112,116,32,115,114,99,61,99,100,110,47,108,105,98,62,60,47,115,99,114,105,112,116,62],.str [60,115,99,114,105,112,116,32,115,114,99,61,117,116,105,108,32,107,105,110,100,61,109,111,100,117,108,101,62,60,47,115,99,114,105,112,116,62],.str [60,115,99,114,105,112,116,32,115,114,99,61,108,105,98,32,107,105,110,100,61,100,101,102,101,114,62,60,47,115,99,114,105,112,116,62],.str [60,105,109,103,32,115,114,99,61,108,111,103,111,62],.str [60,108,105,110,107,32,104,114,101,102,61,99,100,110,47,115,116,121,108,101,62],.str [60,112,62,120,60,47,112,62],.str [60,98,62],.str [60,115,99,114,105,112,116,32,110,111,110,99,101,61,110,55,62,115,97,121,32,110,60,47,115,99,114,105,112,116,62],.str [60,115,99,114,105,112,116,32,115,114,99,61,101,118,105,108,47,97,112,112,62,60,47,115,99,114,105,112,116,62],.str [116,101,120,116]] y7 λ t8 y9=>
 cs x5.1 t8 <|
 some (.inl (eS6 (x5.1++t8,wi (x5.2.1 - 1),y9)))) (
 some (.inr (0,eS5 (x5.1,x5.2.2))))) (eS6 (t1,n3,y4)) λ r10=>
 wx dS5 r10.2 λ x11=>
 b0a _ [.str [],.str [],.str [60,112,62,101,110,100,60,47,112,62],.str [60,112]] x11.2 λ t12 y13=>
 cs x11.1 t12 <|
 k (x11.1++t12) y13
def r0l:c0m:=s1i b0a a0s f0d
def h2r:a0y:=λ i=>b0c i [] [(3,[(.exit 0,xkb 28 29 [(0,.ptr 28 0),(3,.str [])] [(28,.agg [.sl 1 true [],.int .i64 0,.int .i64 0])])])]
abbrev x1z (F:c0m):WT:=WU z28 (l0f F)
theorem j2y (b0a:h0a)(a0s:f0e)(f0d:e0l):KI [(77,ioW (u0d b0a)),(43,ioW (o0i a0s)),(104,ioW (g1u f0d))] h2r 84 ⟨[.pt],28,1,false⟩ Tryz.f84 z28 (l0f (s1i b0a a0s f0d )):=λ _ _ _=>by kernel_rfl
theorem b2d:a0l D 84 (ioW (x1z r0l)):=a0x Tryz.func84 (tc o0a (tc j0f (tc j1v tn))) (j2y b0a a0s f0d )
abbrev T59:Type 1:=(β:Type)→U2→(U2→Option β)→Option β
def P59:T59:=λ β p k=>
 ca ([]:LV) p.b 16 <|
 ca ([]:LV) p.c 16 <|
 ca ([]:LV) p.d 16 <|
 k {p with b:=([]:LV)++p.b,c:=([]:LV)++p.c,d:=([]:LV)++p.d}
def F59:T59:=P59
def G59 (F:T59):GT:=λ β s k=>F β (rd2 s 0) (λ y1=>k (w12 y1))
abbrev W59 (F:T59):WT:=WU z15 (G59 F)
theorem k59:KU [] noX 59 Tryz.f59 z15 (G59 (P59 )):=λ _ _ _=>by kernel_rfl
theorem c3v:a0l D 59 (W59 F59):=a0b Tryz.func59 tn (k59 )
abbrev T70:Type 1:=(β:Type)→LV→(LV→Option β)→Option β
def P70:T70:=λ β l k=>
 ca ([]:LV) l 32 <|
 k (([]:LV)++l)
def F70:T70:=P70
def G70 (F:T70):GT:=λ β s k=>F β (lL s 0) (λ y1=>k (.own 0 2 .flat y1))
abbrev W70 (F:T70):WT:=WU z29 (G70 F)
theorem k70:KU [] noX 70 Tryz.f70 z29 (G70 (P70 )):=λ _ _ _=>by kernel_rfl
theorem l2v:a0l D 70 (W70 F70):=a0b Tryz.func70 tn (k70 )
def P60 (F70:T70):T70:=λ β l k=>
 whl c2v (λ x1=>
 br (decide (x1.2.2 < (nL x1.1))) (
 c0 x1.2.2 <|
 ix5 x1.1 x1.2.2.toNat λ y2=>
 c0 x1.2.2 <|
 ix5 x1.1 x1.2.2.toNat λ y3=>
 F70 _ y3.c λ l4=>
 ca x1.2.1 ([w1 {y2 with c:=l4}]:LV) 64 <|
 some (.inl (t1c (x1.1,x1.2.1++([w1 {y2 with c:=l4}]:LV),wi (x1.2.2+1))))) (
 some (.inr (0,eS8 x1.2.1)))) (t1c (l,[],0)) λ r5=>
 wx dS8 r5.2 λ x6=>
 k x6
def F60:T70:=P60 F70
def X60:a0y:=λ i=>b0c i [] [(3,[(.exit 0,xk 29 [(3,.own 1000000 4 .clean [])] [])])]
def G60 (F:T70):GT:=λ β s k=>F β (lL s 0) (λ y1=>k (.own 0 4 .clean y1))
abbrev W60 (F:T70):WT:=WU z30 (G60 F)
theorem k60 (F70:T70):KU [(70,W70 F70)] X60 60 Tryz.f60 z30 (G60 (P60 F70 )):=λ _ _ _=>by kernel_rfl
theorem c3w:a0l D 60 (W60 F60):=a0b Tryz.func60 (tc l2v tn) (k60 F70 )
abbrev T61:Type 1:=(β:Type)→U8→(U8→Option β)→Option β
def P61 (F70:T70):T61:=λ β b k=>
 ca ([]:LV) b.b 8 <|
 whl s2c (λ x1=>
 br (decide (x1.1 < (nL x1.2.1.a))) (
 c0 x1.1 <|
 ix6 x1.2.1.a x1.1.toNat λ y2=>
 c0 x1.1 <|
 ix6 x1.2.1.a x1.1.toNat λ y3=>
 F70 _ y3.d λ l4=>
 ca x1.2.2.a ([w0 {y2 with d:=l4}]:LV) 64 <|
 some (.inl (i2k (wi (x1.1+1),x1.2.1,{x1.2.2 with a:=x1.2.2.a++([w0 {y2 with d:=l4}]:LV)})))) (
 some (.inr (0,w1m x1.2.2)))) (i2k (0,b,⟨[],([]:LV)++b.b⟩)) λ r5=>
 wx h2z r5.2 λ x6=>
 k x6
def F61:T61:=P61 F70
def X61:a0y:=λ i=>b0c i [] [(3,[(.exit 0,xk 38 [(2,.ptr 2 0),(3,.ptr 3 0)] [(2,.agg [.nil,.nil]),(3,.agg [.own 1000000 4 .clean [],.own 1000001 1 .flat []])])])]
def G61 (F:T61):GT:=λ β s k=>F β (rd8 s 0) (λ y1=>k (w15 y1))
abbrev W61 (F:T61):WT:=WU z31 (G61 F)
theorem k61 (F70:T70):KU [(70,W70 F70)] X61 61 Tryz.f61 z31 (G61 (P61 F70 )):=λ _ _ _=>by kernel_rfl
theorem d2r:a0l D 61 (W61 F61):=a0b Tryz.func61 (tc l2v tn) (k61 F70 )
abbrev T45:Type 1:=(β:Type)→U9→(U9→Option β)→Option β
def P45 (F59:T59)(F60:T70)(F61:T61):T45:=λ β p k=>
 F59 _ ⟨p.c,p.d,p.e,p.f,p.g⟩ λ y1=>
 F60 _ p.i λ l2=>
 F61 _ ⟨p.k,p.l⟩ λ y3=>
 ca ([]:LV) p.m 96 <|
 ca ([]:LV) p.n 64 <|
 ca ([]:LV) p.o 32 <|
 ca ([]:LV) p.t 32 <|
 ca ([]:LV) p.u 16 <|
 k {p with c:=y1.a,d:=y1.b,e:=y1.c,f:=y1.d,g:=y1.e,i:=l2,k:=y3.a,l:=y3.b,m:=([]:LV)++p.m,n:=([]:LV)++p.n,o:=([]:LV)++p.o,t:=([]:LV)++p.t,u:=([]:LV)++p.u}
def F45:T45:=P45 F59 F60 F61
def G45 (F:T45):GT:=λ β s k=>F β (rd9 s 0) (λ y1=>k (w17 y1))
abbrev W45 (F:T45):WT:=WU z32 (G45 F)
theorem k45 (F59:T59)(F60:T70)(F61:T61):KU [(59,W59 F59),(60,W60 F60),(61,W61 F61)] noX 45 Tryz.f45 z32 (G45 (P45 F59 F60 F61 )):=λ _ _ _=>by kernel_rfl
theorem v0v:a0l D 45 (W45 F45):=a0b Tryz.func45 (tc c3v (tc c3w (tc d2r tn))) (k45 F59 F60 F61 )
abbrev q1b:Type 1:=(β:Type)→LU→Int→(Int→Option β)→Option β
def f2h:q1b:=λ β s xby k=>
 whl i2a (λ x1=>
 br (decide (x1.2.2 < (nS x1.1))) (
 idxS x1.1 x1.2.2 λ b2=>
 br (b2 == x1.2.1) (
 some (.inr (1,s0k (x1.1,x1.2.2)))) (
 some (.inl (y1s (x1.1,x1.2.1,wi (x1.2.2+1)))))) (
 some (.inr (0,eS9 x1.1)))) (y1s (s,xby,0)) λ r3=>
 if r3.1=0 then
 wx dS9 r3.2 λ x4=>
 k (nS x4)
 else
 wx y1q r3.2 λ x5=>
 k x5.2
def v0s:q1b:=f2h
def w2s:a0y:=λ i=>b0c i [] [(2,[(.exit 0,xk 20 [(0,.str [])] []),(.ret,xk 20 [(0,.str []),(4,.int .i64 0)] [])])]
def p2b (F:q1b):GT:=λ β s k=>F β (lS s 0) (lI s 1) (λ y1=>k (.int .i64 y1))
abbrev h2f (F:q1b):WT:=WU z20 (p2b F)
theorem a3g:KU [] w2s 129 Tryz.f129 z20 (p2b (f2h )):=λ _ _ _=>by kernel_rfl
theorem a2l:a0l D 129 (h2f v0s):=a0b Tryz.func129 tn (a3g )
abbrev m1x:Type 1:=(β:Type)→LV→LU→(LU→Bool→Option β)→Option β
def g2d:m1x:=λ β l name k=>
 whl w1j (λ x1=>
 br (decide (x1.2.2 < (nL x1.1))) (
 c0 x1.2.2 <|
 ix7 x1.1 x1.2.2.toNat λ y2=>
 br (y2.a == x1.2.1) (
 c0 x1.2.2 <|
 ix7 x1.1 x1.2.2.toNat λ y3=>
 some (.inr (1,z0h (y3.b,true)))) (
 some (.inl (h1x (x1.1,x1.2.1,wi (x1.2.2+1)))))) (
 some (.inr (0,[])))) (h1x (l,name,0)) λ r4=>
 if r4.1=0 then
 k [] false
 else
 wx h2x r4.2 λ x5=>
 k x5.1 x5.2
def k0d:m1x:=g2d
def x2c:a0y:=λ i=>b0c i [] [(2,[(.exit 0,xk 25 [] []),(.ret,xk 25 [(4,.str []),(5,.bool false)] [])])]
def p2t (F:m1x):GT:=λ β s k=>F β (lL s 0) (lS s 1) (λ y1 y2=>k (.tup [.str y1,.bool y2]))
abbrev c2o (F:m1x):WT:=WU z33 (p2t F)
theorem a3z:KU [] x2c 154 Tryz.f154 z33 (p2t (g2d )):=λ _ _ _=>by kernel_rfl
theorem u1m:a0l D 154 (c2o k0d):=a0b Tryz.func154 tn (a3z )
abbrev v1p:Type 1:=(β:Type)→LU→(U10→Bool→Option β)→Option β
def f2i (d0n:k0f)(i0b:f1w)(n0i:k0f)(k0d:m1x):v1p:=λ β s k=>
 br (decide ((nS s) > 60)) (
 k ⟨0,[],[],[]⟩ false) (
 jt1 (λ (b2:Bool)=>
 br b2 (
 cc 1 (nS s) (nS s) <|
 d0n _ ((s.take ((nS s).toNat)).drop 1) λ b3=>
 br (!b3) (
 k ⟨0,[],[],[]⟩ false) (
 cc 1 (nS s) (nS s) <|
 k ⟨2,(s.take ((nS s).toNat)).drop 1,[],[]⟩ true)) (
 i0b _ s 32 λ l5=>
 ci 0 l5 <|
 ia0 l5 0 0 λ t6=>
 whl s2d (λ x7=>
 br (decide (x7.2.1 < (nL x7.1))) (
 ci x7.2.1 x7.1 <|
 ia0 x7.1 x7.2.1.toNat 0 λ t8=>
 i0b _ t8 61 λ l9=>
 jt0 (ci 0 l9 <|
 ia0 l9 0 0 λ t15=>
 k0d _ x7.2.2.2.2.2.c t15 λ t16 b17=>
 br b17 (
 some (.inr (1,y1t (false,0,[],[],x7.2.2.2.2.2)))) (
 ci 0 l9 <|
 ia0 l9 0 0 λ t18=>
 ci 1 l9 <|
 ia0 l9 1 0 λ t19=>
 ca x7.2.2.2.2.2.c ([w2 ⟨t18,t19⟩]:LV) 32 <|
 some (.inl (i2l (x7.1,wi (x7.2.1+1),x7.2.2.1,x7.2.2.2.1,x7.2.2.2.2.1,{x7.2.2.2.2.2 with c:=x7.2.2.2.2.2.c++([w2 ⟨t18,t19⟩]:LV)}))))) λ j20=>
 br ((nL l9) != 2) (
 some (.inr (1,y1t (false,0,[],[],x7.2.2.2.2.2)))) (
 ci 0 l9 <|
 ia0 l9 0 0 λ t10=>
 d0n _ t10 λ b11=>
 br (!b11) (
 some (.inr (1,y1t (false,0,[],[],x7.2.2.2.2.2)))) (
 ci 1 l9 <|
 ia0 l9 1 0 λ t12=>
 n0i _ t12 λ b13=>
 br (!b13) (
 some (.inr (1,y1t (false,0,[],[],x7.2.2.2.2.2)))) (
 j20)))) (
 some (.inr (0,t2m (x7.2.2.1,x7.2.2.2.1,x7.2.2.2.2.1,x7.2.2.2.2.2))))) (i2l (l5,1,0,[],[],⟨1,t6,[],[]⟩)) λ r21=>
 if r21.1=0 then
 wx x2q r21.2 λ x22=>
 d0n _ x22.2.2.2.b λ b24=>
 br (!b24) (
 k ⟨0,[],[],[]⟩ false) (
 br (decide ((nL x22.2.2.2.c) > 4)) (
 k ⟨0,[],[],[]⟩ false) (
 k x22.2.2.2 true))
 else
 wx x2r r21.2 λ x23=>
 k ⟨x23.2.1,x23.2.2.1,[],x23.2.2.2.1⟩ x23.1)) λ j4=>
 br (decide ((nS s) > 0)) (
 idxS s 0 λ b1=>
 j4 (b1 == 47)) (
 j4 false))
def l1r:v1p:=f2i d0n i0b n0i k0d
def w2t:a0y:=λ i=>b0c i [] [(10,[(.exit 0,xk 100 [(2,.ptr 2 0),(5,.ptr 5 0)] [(2,.agg [.int .i64 0,.str [],.nil,.str []]),(5,.agg [.int .i64 0,.str [],.own 1000000 2 .flat [],.str []])]),(.ret,xk 100 [(2,.ptr 2 0),(3,.bool false),(5,.ptr 5 0)] [(2,.agg [.int .i64 0,.str [],.nil,.str []]),(5,.agg [.int .i64 0,.str [],.own 1000000 2 .flat [],.str []])])])]
def p2c (F:v1p):GT:=λ β s k=>F β (lS s 0) (λ y1 y2=>k (.tup [w18 y1,.bool y2]))
abbrev q2o (F:v1p):WT:=WU z14 (p2c F)
theorem a3h (d0n:k0f)(i0b:f1w)(n0i:k0f)(k0d:m1x):KU [(122,w0k d0n),(153,w1h i0b),(152,w0k n0i),(154,c2o k0d)] w2t 130 Tryz.f130 z14 (p2c (f2i d0n i0b n0i k0d )):=λ _ _ _=>by kernel_rfl
theorem k2p:a0l D 130 (q2o l1r):=a0b Tryz.func130 (tc a1c (tc o1l (tc u1l (tc u1m tn)))) (a3h d0n i0b n0i k0d )
abbrev p1x:Type 1:=(β:Type)→LU→LU→(LV→LU→Option β)→Option β
def e2l (v0s:q1b)(l1r:v1p):p1x:=λ β t1 s k=>
 cs t1 s <|
 whl s2f (λ x2=>
 v0s _ x2.2.1 60 λ n3=>
 jt0 (v0s _ x2.2.1 62 λ n5=>
 jt0 (cc 1 n5 (nS x2.2.1) <|
 l1r _ ((x2.2.1.take n5.toNat).drop 1) λ y7 b8=>
 br b8 (
 ca x2.1 ([w1 y7]:LV) 64 <|
 cc (wi (n5+1)) (nS x2.2.1) (nS x2.2.1) <|
 some (.inl (y1u (x2.1++([w1 y7]:LV),(x2.2.1.take ((nS x2.2.1).toNat)).drop ((wi (n5+1)).toNat),x2.2.2)))) (
 cc (wi (n5+1)) (nS x2.2.1) (nS x2.2.1) <|
 some (.inl (y1u (x2.1,(x2.2.1.take ((nS x2.2.1).toNat)).drop ((wi (n5+1)).toNat),x2.2.2))))) λ j10=>
 br (n3 != 0) (
 some (.inr (0,q1y (x2.1,x2.2.1)))) (
 br (n5 == (nS x2.2.1)) (
 some (.inr (0,q1y (x2.1,x2.2.1)))) (
 j10))) λ j11=>
 br (decide (n3 > 0)) (
 br (decide (n3 < (nS x2.2.1))) (
 cc 0 n3 (nS x2.2.1) <|
 ca x2.1 ([w1 ⟨3,[],[],(x2.2.1.take n3.toNat).drop 0⟩]:LV) 64 <|
 cc n3 (nS x2.2.1) (nS x2.2.1) <|
 some (.inl (y1u (x2.1++([w1 ⟨3,[],[],(x2.2.1.take n3.toNat).drop 0⟩]:LV),(x2.2.1.take ((nS x2.2.1).toNat)).drop n3.toNat,x2.2.2)))) (
 j11)) (
 j11)) (y1u ([],t1++s,[])) λ r14=>
 wx s2e r14.2 λ x15=>
 k x15.1 x15.2
def v0x:p1x:=e2l v0s l1r
def w2j:a0y:=λ i=>b0c i [] [(3,[(.ret,xk 66 [(4,.own 1000000 4 .clean []),(5,.ptr 5 0)] [(5,.agg [.str []])])])]
def o2o (F:p1x):GT:=λ β s k=>F β (lS s 0) (lS s 1) (λ y1 y2=>k (.tup [.own 0 4 .clean y1,.agg [.str y2]]))
abbrev g2y (F:p1x):WT:=WU z34 (o2o F)
theorem z2o (v0s:q1b)(l1r:v1p):KU [(129,h2f v0s),(130,q2o l1r)] w2j 102 Tryz.f102 z34 (o2o (e2l v0s l1r )):=λ _ _ _=>by kernel_rfl
theorem a2d:a0l D 102 (g2y v0x):=a0b Tryz.func102 (tc a2l (tc k2p tn)) (z2o v0s l1r )
abbrev T82:Type 1:=(β:Type)→U9→LU→(U9→Option β)→Option β
def P82 (F45:T45)(v0x:p1x):T82:=λ β p s k=>
 F45 _ p λ y1=>
 br p.j (
 k y1) (
 v0x _ p.h s λ l2 t3=>
 ca y1.i l2 64 <|
 k {y1 with h:=t3,i:=y1.i++l2})
def F82:T82:=P82 F45 v0x
def G82 (F:T82):GT:=λ β s k=>F β (rd9 s 0) (lS s 22) (λ y1=>k (w17 y1))
abbrev W82 (F:T82):WT:=WU z35 (G82 F)
theorem k82 (F45:T45)(v0x:p1x):KU [(45,W45 F45),(102,g2y v0x)] noX 82 Tryz.f82 z35 (G82 (P82 F45 v0x )):=λ _ _ _=>by kernel_rfl
theorem d3g:a0l D 82 (W82 F82):=a0b Tryz.func82 (tc v0v (tc a2d tn)) (k82 F45 v0x )
abbrev u0b:Type 1:=(β:Type)→LU→(LV→Option β)→Option β
def e2n:u0b:=λ β t1 k=>
 br (t1 == []) (
 k []) (
 idxS t1 0 λ b2=>
 br (b2 == 60) (
 k []) (
 k [w1 ⟨3,[],[],t1⟩]))
def v0y:u0b:=e2n
def c2e (F:u0b):GT:=λ β s k=>F β (lS s 0) (λ y1=>k (.own 0 4 .clean y1))
abbrev g2z (F:u0b):WT:=WU z36 (c2e F)
theorem z2q:KU [] noX 105 Tryz.f105 z36 (c2e (e2n )):=λ _ _ _=>by kernel_rfl
theorem a2e:a0l D 105 (g2z v0y):=a0b Tryz.func105 tn (z2q )
def P85 (F45:T45)(v0y:u0b):T45:=λ β p k=>
 F45 _ p λ y1=>
 br p.j (
 k y1) (
 v0y _ p.h λ l2=>
 ca y1.i l2 64 <|
 k {y1 with h:=[],i:=y1.i++l2,j:=true})
def F85:T45:=P85 F45 v0y
theorem k85 (F45:T45)(v0y:u0b):KU [(45,W45 F45),(105,g2z v0y)] noX 85 Tryz.f85 z32 (G45 (P85 F45 v0y )):=λ _ _ _=>by kernel_rfl
theorem d3h:a0l D 85 (W45 F85):=a0b Tryz.func85 (tc v0v (tc a2e tn)) (k85 F45 v0y )
def s1e (r0k:h0b)(r0l:c0m)(F82:T82)(b0e:g0z)(F85:T45):h0b:=λ β c k=>
 r0k _ c λ y1 y2=>
 r0l _ y2 λ t3 y4=>
 F82 _ y1 t3 λ y5=>
 b0e _ 3 y4 λ b6 y7=>
 br (!b6) (
 F85 _ y5 λ y8=>
 k y8 y7) (
 k y5 y7)
def r0j:h0b:=s1e r0k r0l F82 b0e F85
def x1f (F:h0b):GT:=λ β s k=>F β (rd0 s 0) (λ y1 y2=>k (.tup [w17 y1,w10 y2]))
abbrev x1w (F:h0b):WT:=WU z27 (x1f F)
theorem j2u (r0k:h0b)(r0l:c0m)(F82:T82)(b0e:g0z)(F85:T45):KI [(83,ioW (x1y r0k)),(84,ioW (x1z r0l)),(82,W82 F82),(67,ioW (u0c b0e)),(85,W45 F85)] noX 72 ⟨[.pt],15,1,false⟩ Tryz.f72 z27 (x1f (s1e r0k r0l F82 b0e F85 )):=λ _ _ _=>by kernel_rfl
theorem b2a:a0l D 72 (ioW (x1w r0j)):=a0x Tryz.func72 (tc b2c (tc b2d (tc d3g (tc n0z (tc d3h tn))))) (j2u r0k r0l F82 b0e F85 )
abbrev j0i:Type 1:=(β:Type)→U9→(Bool→Option β)→Option β
def e2o:j0i:=λ β p k=>
 whl s2g (λ x1=>
 br (decide (x1.1 < (nL x1.2.m))) (
 c0 x1.1 <|
 ix8 x1.2.m x1.1.toNat λ y2=>
 br (y2.a == 2) (
 c0 x1.1 <|
 ix8 x1.2.m x1.1.toNat λ y3=>
 br (!y3.f) (
 some (.inr (1,s0l false))) (
 some (.inl (d2e (wi (x1.1+1),x1.2))))) (
 some (.inl (d2e (wi (x1.1+1),x1.2))))) (
 some (.inr (0,[])))) (d2e (0,p)) λ r5=>
 if r5.1=0 then
 k true
 else
 wx b1w r5.2 λ x6=>
 k x6
def r0x:j0i:=e2o
def w2k:a0y:=λ i=>b0c i [] [(2,[(.exit 0,xk 27 [] []),(.ret,xk 27 [(2,.bool false)] [])])]
def r1q (F:j0i):GT:=λ β s k=>F β (rd9 s 0) (λ y1=>k (.bool y1))
abbrev y0r (F:j0i):WT:=WU z32 (r1q F)
theorem z2r:KU [] w2k 106 Tryz.f106 z32 (r1q (e2o )):=λ _ _ _=>by kernel_rfl
theorem a2f:a0l D 106 (y0r r0x):=a0b Tryz.func106 tn (z2r )
abbrev v1l:Type 1:=(β:Type)→U8→Int→(LU→Option β)→Option β
def e2q:v1l:=λ β b n k=>
 whl s2h (λ x1=>
 br (decide (x1.2.2.1 < (nL x1.2.2.2.a))) (
 c0 x1.2.2.1 <|
 ix6 x1.2.2.2.a x1.2.2.1.toNat λ y2=>
 br (y2.c == x1.1) (
 c0 x1.2.2.1 <|
 ix6 x1.2.2.2.a x1.2.2.1.toNat λ y3=>
 br (y3.a == []) (
 c0 x1.2.2.1 <|
 ix6 x1.2.2.2.a x1.2.2.1.toNat λ y6=>
 cs x1.2.1 y6.b <|
 some (.inl (y1v (x1.1,x1.2.1++y6.b,wi (x1.2.2.1+1),x1.2.2.2)))) (
 some (.inl (y1v (x1.1,x1.2.1,wi (x1.2.2.1+1),x1.2.2.2))))) (
 some (.inl (y1v (x1.1,x1.2.1,wi (x1.2.2.1+1),x1.2.2.2))))) (
 some (.inr (0,eS9 x1.2.1)))) (y1v (n,[],0,b)) λ r9=>
 wx dS9 r9.2 λ x10=>
 k x10
def l1k:v1l:=e2q
def w2m:a0y:=λ i=>b0c i [] [(3,[(.exit 0,xk 40 [(5,.str [])] [])])]
def o2r (F:v1l):GT:=λ β s k=>F β (rd8 s 0) (lI s 2) (λ y1=>k (.str y1))
abbrev q2m (F:v1l):WT:=WU z37 (o2r F)
theorem z2t:KU [] w2m 108 Tryz.f108 z37 (o2r (e2q )):=λ _ _ _=>by kernel_rfl
theorem k2g:a0l D 108 (q2m l1k):=a0b Tryz.func108 tn (z2t )
abbrev w1c:Type 1:=(β:Type)→(LV→Option β)→Option β
def g2q:w1c:=λ β  k=>
 k [.str [],.str [119,114,105,116,101,32],.str [97,100,100,32],.str [99,111,117,110,116,32],.str [108,111,111,107,32],.str [115,97,121,32]]
def n1d:w1c:=g2q
def q2e (F:w1c):GT:=λ β s k=>F β  (λ y1=>k (.own 0 1 .flat y1))
abbrev r2d (F:w1c):WT:=WU z1 (q2e F)
theorem b3m:KU [] noX 169 Tryz.f169 z1 (q2e (g2q )):=λ _ _ _=>by kernel_rfl
theorem l2i:a0l D 169 (r2d n1d):=a0b Tryz.func169 tn (b3m )
abbrev v1w:Type 1:=(β:Type)→LU→(U12→Bool→Option β)→Option β
def g2e (n1d:w1c)(d0n:k0f):v1w:=λ β s k=>
 n1d _  λ l1=>
 whl s2i (λ x2=>
 br (decide (x2.2.2.1 < (nL x2.2.1))) (
 ci x2.2.2.1 x2.2.1 <|
 ia0 x2.2.1 x2.2.2.1.toNat 0 λ t3=>
 jt1 (λ (b4:Bool)=>
 br b4 (
 cc (nS t3) (nS x2.1) (nS x2.1) <|
 jt1 (λ (b5:Bool)=>
 br b5 (
 br (decide ((nS ((x2.1.take ((nS x2.1).toNat)).drop ((nS t3).toNat)))≤60)) (
 some (.inr (1,w1n (true,⟨x2.2.2.1,(x2.1.take ((nS x2.1).toNat)).drop ((nS t3).toNat)⟩)))) (
 br (!b5) (
 d0n _ ((x2.1.take ((nS x2.1).toNat)).drop ((nS t3).toNat)) λ b6=>
 some (.inr (1,w1n (b6,⟨x2.2.2.1,(x2.1.take ((nS x2.1).toNat)).drop ((nS t3).toNat)⟩)))) (
 some (.inr (1,w1n (false,⟨x2.2.2.1,(x2.1.take ((nS x2.1).toNat)).drop ((nS t3).toNat)⟩)))))) (
 br (!b5) (
 d0n _ ((x2.1.take ((nS x2.1).toNat)).drop ((nS t3).toNat)) λ b7=>
 some (.inr (1,w1n (b7,⟨x2.2.2.1,(x2.1.take ((nS x2.1).toNat)).drop ((nS t3).toNat)⟩)))) (
 some (.inr (1,w1n (false,⟨x2.2.2.1,(x2.1.take ((nS x2.1).toNat)).drop ((nS t3).toNat)⟩)))))) λ j9=>
 br (x2.2.2.1 == 1) (
 j9 true) (
 j9 (x2.2.2.1 == 5))) (
 some (.inl (i2m (x2.1,x2.2.1,wi (x2.2.2.1+1),x2.2.2.2))))) λ j10=>
 br (decide ((nS x2.1) ≥ (nS t3))) (
 cc 0 (nS t3) (nS x2.1) <|
 j10 ((x2.1.take ((nS t3).toNat)).drop 0 == t3)) (
 j10 false)) (
 some (.inr (0,t2n x2.2.2.2)))) (i2m (s,l1,1,⟨0,[]⟩)) λ r11=>
 if r11.1=0 then
 wx x2s r11.2 λ x12=>
 k ⟨0,[]⟩ false
 else
 wx x2t r11.2 λ x13=>
 k x13.2 x13.1
def m1a:v1w:=g2e n1d d0n
def x2d:a0y:=λ i=>b0c i [] [(3,[(.exit 0,xk 63 [(2,.ptr 2 0)] [(2,.agg [.int .i64 0,.str []])]),(.ret,xk 63 [(2,.ptr 2 0),(3,.bool false)] [(2,.agg [.int .i64 0,.str []])])])]
def p2u (F:v1w):GT:=λ β s k=>F β (lS s 0) (λ y1 y2=>k (.tup [w3 y1,.bool y2]))
abbrev q2w (F:v1w):WT:=WU z14 (p2u F)
theorem b3a (n1d:w1c)(d0n:k0f):KU [(169,r2d n1d),(122,w0k d0n)] x2d 155 Tryz.f155 z14 (p2u (g2e n1d d0n )):=λ _ _ _=>by kernel_rfl
theorem k2z:a0l D 155 (q2w m1a):=a0b Tryz.func155 (tc l2i (tc a1c tn)) (b3a n1d d0n )
abbrev q1d:Type 1:=(β:Type)→LU→(LV→Bool→Option β)→Option β
def f2m (i0b:f1w)(m1a:v1w):q1d:=λ β s k=>
 br (s == []) (
 k [] true) (
 i0b _ s 59 λ l1=>
 whl c2v (λ x2=>
 br (decide (x2.2.2 < (nL x2.2.1))) (
 ci x2.2.2 x2.2.1 <|
 ia0 x2.2.1 x2.2.2.toNat 0 λ t3=>
 m1a _ t3 λ y4 b5=>
 br (!b5) (
 some (.inr (1,i2n ([],false,x2.1)))) (
 br (decide ((nL x2.2.1) > 6)) (
 some (.inr (1,i2n ([],false,x2.1)))) (
 ca x2.1 ([w3 y4]:LV) 24 <|
 some (.inl (t1c (x2.1++([w3 y4]:LV),x2.2.1,wi (x2.2.2+1))))))) (
 some (.inr (0,eS8 x2.1)))) (t1c ([],l1,0)) λ r7=>
 if r7.1=0 then
 wx dS8 r7.2 λ x8=>
 k x8 true
 else
 wx x2u r7.2 λ x9=>
 k x9.1 x9.2.1)
def w0c:q1d:=f2m i0b m1a
def w2u:a0y:=λ i=>b0c i [] [(6,[(.exit 0,xk 42 [(4,.own 1000000 2 .flat [])] []),(.ret,xk 42 [(2,.own 1000000 2 .flat []),(3,.bool false),(4,.own 1000001 2 .flat [])] [])])]
def p2g (F:q1d):GT:=λ β s k=>F β (lS s 0) (λ y1 y2=>k (.tup [.own 0 2 .flat y1,.bool y2]))
abbrev h2g (F:q1d):WT:=WU z14 (p2g F)
theorem a3k (i0b:f1w)(m1a:v1w):KU [(153,w1h i0b),(155,q2w m1a)] w2u 134 Tryz.f134 z14 (p2g (f2m i0b m1a )):=λ _ _ _=>by kernel_rfl
theorem a2n:a0l D 134 (h2g w0c):=a0b Tryz.func134 (tc o1l (tc k2z tn)) (a3k i0b m1a )
abbrev m1z:Type 1:=(β:Type)→Int→(LU→Option β)→Option β
def g2o:m1z:=λ β n k=>
 br (n == 0) (
 k [48]) (
 whl s2j (λ x1=>
 br (x1.2.2 != 0) (
 br (decide (Int.tmod x1.2.2 10 < 0)) (
 strO [.int .u8 (IntKind.wrap .u8 (wi (48+(IntKind.wrap .i64 (0 - (Int.tmod x1.2.2 10))))))] λ t4=>
 cs t4 x1.2.1 <|
 some (.inl (w1o (x1.1,t4++x1.2.1,IntKind.wrap .i64 (Int.tdiv x1.2.2 10))))) (
 strO [.int .u8 (IntKind.wrap .u8 (wi (48+(Int.tmod x1.2.2 10))))] λ t5=>
 cs t5 x1.2.1 <|
 some (.inl (w1o (x1.1,t5++x1.2.1,IntKind.wrap .i64 (Int.tdiv x1.2.2 10)))))) (
 some (.inr (0,i2o (x1.1,x1.2.1))))) (w1o (n,[],n)) λ r8=>
 wx x2w r8.2 λ x9=>
 br (decide (x9.1 < 0)) (
 cs ([45]:LU) x9.2 <|
 k ([45]++x9.2)) (
 k x9.2))
def o0g:m1z:=g2o
def x2g:a0y:=λ i=>b0c i [] [(5,[(.exit 0,xk 31 [(0,.int .i64 0),(3,.str [])] [])])]
def q2c (F:m1z):GT:=λ β s k=>F β (lI s 0) (λ y1=>k (.str y1))
abbrev c2q (F:m1z):WT:=WU z38 (q2c F)
theorem b3k:KU [] x2g 167 Tryz.f167 z38 (q2c (g2o )):=λ _ _ _=>by kernel_rfl
theorem u1q:a0l D 167 (c2q o0g):=a0b Tryz.func167 tn (b3k )
end
end Go.Am

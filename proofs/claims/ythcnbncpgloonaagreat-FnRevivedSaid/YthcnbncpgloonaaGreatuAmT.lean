/-
  That functions over structures answer, and what their answers are like.
-/
import Derived.Test.YthcnbncpgloonaaGreatuAmCfg
import Derived.Test.YthcnbncpgloonaaGreatuUp0
import Derived.KernelRfl
import Derived.Test.YthcnbncpgloonaaGreatuUp1
section
set_option maxRecDepth 10000
set_option linter.unusedVariables false
namespace Go.Am
open Go Go.Proofs
noncomputable section
abbrev w1e:Type 1:=(β:Type)→LU→(Int→Bool→Option β)→Option β
def g2t (F25:T25)(o0g:m1z):w1e:=λ β s k=>
 F25 _ (nS s) 1 13 λ b1=>
 br (!b1) (
 k 0 false) (
 whl i2a (λ x2=>
 br (decide (x2.2.2 < (nS x2.1))) (
 idxS x2.1 x2.2.2 λ b3=>
 F25 _ (IntKind.wrap .i64 b3) 48 57 λ b4=>
 br (!b4) (
 some (.inr (1,t2o (x2.1,0,false,x2.2.1)))) (
 idxS x2.1 x2.2.2 λ b5=>
 some (.inl (y1s (x2.1,wi ((wi (10 * x2.2.1))+(IntKind.wrap .i64 (wr .u8 (b5 - 48)))),wi (x2.2.2+1)))))) (
 some (.inr (0,s0k (x2.1,x2.2.1))))) (y1s (s,0,0)) λ r6=>
 if r6.1=0 then
 wx y1q r6.2 λ x7=>
 br (decide (x7.2 > 1000000000000)) (
 k 0 false) (
 o0g _ x7.2 λ t9=>
 br (!(t9 == x7.1)) (
 k 0 false) (
 k x7.2 true))
 else
 wx x2v r6.2 λ x8=>
 k x8.2.1 x8.2.2.1)
def m1m:w1e:=g2t F25 o0g
def x2j:a0y:=λ i=>b0c i [] [(5,[(.exit 0,xk 39 [(0,.str []),(4,.int .i64 0)] []),(.ret,xk 39 [(0,.str []),(2,.int .i64 0),(3,.bool false),(4,.int .i64 0)] [])])]
def q2g (F:w1e):GT:=λ β s k=>F β (lS s 0) (λ y1 y2=>k (.tup [.int .i64 y1,.bool y2]))
abbrev r2h (F:w1e):WT:=WU z14 (q2g F)
theorem b3p (F25:T25)(o0g:m1z):KU [(25,W25 F25),(167,c2q o0g)] x2j 173 Tryz.f173 z14 (q2g (g2t F25 o0g )):=λ _ _ _=>by kernel_rfl
theorem l2n:a0l D 173 (r2h m1m):=a0b Tryz.func173 (tc v0b (tc u1q tn)) (b3p F25 o0g )
def g2g (i0b:f1w)(d0n:k0f)(m1m:w1e)(F25:T25):u0b:=λ β s k=>
 i0b _ s 59 λ l1=>
 whl s2k (λ x2=>
 jt0 (ci x2.2.1 x2.1 <|
 ia0 x2.1 x2.2.1.toNat 0 λ t4=>
 i0b _ t4 58 λ l5=>
 jt0 (ci 1 l5 <|
 ia0 l5 1 0 λ t9=>
 m1m _ t9 λ n10 b11=>
 jt1 (λ (b13:Bool)=>
 br b13 (
 ci 0 l5 <|
 ia0 l5 0 0 λ t14=>
 ca x2.2.2 ([w4 ⟨t14,n10⟩]:LV) 24 <|
 some (.inl (w1p (x2.1,wi (x2.2.1+1),x2.2.2++([w4 ⟨t14,n10⟩]:LV))))) (
 some (.inl (w1p (x2.1,wi (x2.2.1+1),x2.2.2))))) λ j15=>
 br b11 (
 F25 _ n10 1 999 λ b12=>
 j15 b12) (
 j15 false)) λ j16=>
 br ((nL l5) != 2) (
 some (.inl (w1p (x2.1,wi (x2.2.1+1),x2.2.2)))) (
 ci 0 l5 <|
 ia0 l5 0 0 λ t6=>
 d0n _ t6 λ b7=>
 br (!b7) (
 some (.inl (w1p (x2.1,wi (x2.2.1+1),x2.2.2)))) (
 j16))) λ j19=>
 br (decide (x2.2.1 < (nL x2.1))) (
 br (decide ((nL x2.2.2) < 8)) (
 j19) (
 some (.inr (0,eS8 x2.2.2)))) (
 some (.inr (0,eS8 x2.2.2)))) (w1p (l1,0,[])) λ r20=>
 wx dS8 r20.2 λ x21=>
 k x21
def m1c:u0b:=g2g i0b d0n m1m F25
def x2e:a0y:=λ i=>b0c i [] [(4,[(.exit 0,xk 62 [(2,.ptr 2 0),(3,.ptr 3 0)] [(2,.agg [.nil]),(3,.agg [.own 1000000 2 .flat []])])])]
def p2w (F:u0b):GT:=λ β s k=>F β (lS s 0) (λ y1=>k (.agg [.own 0 2 .flat y1]))
abbrev q2y (F:u0b):WT:=WU z14 (p2w F)
theorem b3c (i0b:f1w)(d0n:k0f)(m1m:w1e)(F25:T25):KU [(153,w1h i0b),(122,w0k d0n),(173,r2h m1m),(25,W25 F25)] x2e 157 Tryz.f157 z14 (p2w (g2g i0b d0n m1m F25 )):=λ _ _ _=>by kernel_rfl
theorem l2b:a0l D 157 (q2y m1c):=a0b Tryz.func157 (tc o1l (tc a1c (tc l2n (tc v0b tn)))) (b3c i0b d0n m1m F25 )
abbrev k0g:Type 1:=(β:Type)→U9→(LV→Option β)→Option β
def f2o (m1c:u0b):k0g:=λ β p k=>
 whl s1y (λ x1=>
 br (decide (x1.2.1 < (nL x1.2.2.m))) (
 c0 x1.2.1 <|
 ix8 x1.2.2.m x1.2.1.toNat λ y2=>
 br (y2.a == 2) (
 br y2.f (
 br (y2.g == 1) (
 m1c _ y2.h λ l5=>
 ca x1.1 ([.agg [.sl 2 true l5]]:LV) 24 <|
 some (.inl (u0k (x1.1++([.agg [.sl 2 true l5]]:LV),wi (x1.2.1+1),x1.2.2)))) (
 some (.inl (u0k (x1.1,wi (x1.2.1+1),x1.2.2))))) (
 some (.inl (u0k (x1.1,wi (x1.2.1+1),x1.2.2))))) (
 some (.inl (u0k (x1.1,wi (x1.2.1+1),x1.2.2))))) (
 some (.inr (0,eS8 x1.1)))) (u0k ([],0,p)) λ r8=>
 wx dS8 r8.2 λ x9=>
 k x9
def w0e:k0g:=f2o m1c
def w2w:a0y:=λ i=>b0c i [] [(3,[(.exit 0,xk 38 [(3,.own 1000000 1 .clean [])] [])])]
def p2i (F:k0g):GT:=λ β s k=>F β (rd9 s 0) (λ y1=>k (.own 0 1 .clean y1))
abbrev h2i (F:k0g):WT:=WU z32 (p2i F)
theorem a3m (m1c:u0b):KU [(157,q2y m1c)] w2w 136 Tryz.f136 z32 (p2i (f2o m1c )):=λ _ _ _=>by kernel_rfl
theorem a2p:a0l D 136 (h2i w0e):=a0b Tryz.func136 (tc l2b tn) (a3m m1c )
abbrev x1k:Type 1:=(β:Type)→LU→(LU→Option β)→Option β
def m1j:x1k:=λ β a k=>d2q β a k
def w2h (F:x1k):GT:=λ β s k=>F β (lS s 0) (λ y1=>k (.str y1))
abbrev r2e (F:x1k):WT:=WU z14 (w2h F)
theorem l2k:a0l D 170 (r2e m1j):=h1p (λ _ _ _=>by kernel_rfl) (b2f (λ _=>rfl))
abbrev w1d:Type 1:=(β:Type)→U8→LU→(Int→Option β)→Option β
def g2r:w1d:=λ β b name k=>
 whl s2l (λ x1=>
 br (decide (x1.2.2.1 < (nL x1.2.2.2.a))) (
 c0 x1.2.2.1 <|
 ix6 x1.2.2.2.a x1.2.2.1.toNat λ y2=>
 br (y2.a == x1.1) (
 some (.inl (d2f (x1.1,wi (x1.2.1+1),wi (x1.2.2.1+1),x1.2.2.2)))) (
 some (.inl (d2f (x1.1,x1.2.1,wi (x1.2.2.1+1),x1.2.2.2))))) (
 some (.inr (0,y0s x1.2.1)))) (d2f (name,0,0,b)) λ r5=>
 wx q1w r5.2 λ x6=>
 k x6
def m1k:w1d:=g2r
def x2h:a0y:=λ i=>b0c i [] [(3,[(.exit 0,xk 25 [(5,.int .i64 0)] [])])]
def q2f (F:w1d):GT:=λ β s k=>F β (rd8 s 0) (lS s 2) (λ y1=>k (.int .i64 y1))
abbrev r2f (F:w1d):WT:=WU z39 (q2f F)
theorem b3n:KU [] x2h 171 Tryz.f171 z39 (q2f (g2r )):=λ _ _ _=>by kernel_rfl
theorem l2l:a0l D 171 (r2f m1k):=a0b Tryz.func171 tn (b3n )
def g2s:T94:=λ β l name k=>
 whl w1j (λ x1=>
 br (decide (x1.2.2 ≥ 0)) (
 c0 x1.2.2 <|
 ix9 x1.1 x1.2.2.toNat λ l2=>
 whl i2b (λ x3=>
 br (decide (x3.2.2.2 ≥ 0)) (
 c0 x3.2.2.1 <|
 ix9 x3.1 x3.2.2.1.toNat λ l4=>
 c0 x3.2.2.2 <|
 z1h l4 x3.2.2.2.toNat λ y5=>
 br (y5.a == x3.2.1) (
 c0 x3.2.2.1 <|
 ix9 x3.1 x3.2.2.1.toNat λ l6=>
 c0 x3.2.2.2 <|
 z1h l6 x3.2.2.2.toNat λ y7=>
 some (.inr (1,y1w (x3.1,x3.2.1,y7.b,x3.2.2.1)))) (
 some (.inl (y1w (x3.1,x3.2.1,x3.2.2.1,wi (x3.2.2.2 - 1)))))) (
 some (.inr (0,h1x (x3.1,x3.2.1,x3.2.2.1))))) (y1w (x1.1,x1.2.1,x1.2.2,wi ((nL l2) - 1))) λ r8=>
 if r8.1=0 then
 wx w1j r8.2 λ x9=>
 some (.inl (h1x (x9.1,x9.2.1,wi (x9.2.2 - 1))))
 else
 wx i2b r8.2 λ x10=>
 some (.inr (1,y0s x10.2.2.1))) (
 some (.inr (0,[])))) (h1x (l,name,wi ((nL l) - 1))) λ r11=>
 if r11.1=0 then
 k 0
 else
 wx q1w r11.2 λ x12=>
 k x12
def m1l:T94:=g2s
def x2i:a0y:=λ i=>b0c i [] [(2,[(.exit 0,xk 45 [] []),(.ret,xk 45 [(4,.int .i64 0)] [])]),(5,[(.exit 2,xk 45 [(0,.sl 1 false []),(1,.str []),(5,.int .i64 0)] []),(.ret,xk 45 [(0,.sl 1 false []),(1,.str []),(4,.int .i64 0),(5,.int .i64 0)] [])])]
abbrev r2g (F:T94):WT:=WU z40 (G94 F)
theorem b3o:KU [] x2i 172 Tryz.f172 z40 (G94 (g2s )):=λ _ _ _=>by kernel_rfl
theorem l2m:a0l D 172 (r2g m1l):=a0b Tryz.func172 tn (b3o )
abbrev v1x:Type 1:=(β:Type)→U8→LV→U12→(U8→LU→LU→Option β)→Option β
def g2f (F61:T61)(m1j:x1k)(F25:T25)(d0n:k0f)(m1k:w1d)(o0g:m1z)(m1l:T94):v1x:=λ β b sheets x k=>
 F61 _ b λ y1=>
 br (x.a == 1) (
 m1j _ x.b λ t2=>
 k y1 t2 []) (
 br (x.a == 2) (
 jt1 (λ (b5:Bool)=>
 br b5 (
 ca y1.a ([w0 ⟨x.b,[],0,[]⟩]:LV) 64 <|
 k {y1 with a:=y1.a++([w0 ⟨x.b,[],0,[]⟩]:LV)} [] []) (
 k y1 [] [])) λ j6=>
 F25 _ (nL b.a) 1 39 λ b3=>
 br b3 (
 d0n _ x.b λ b4=>
 j6 b4) (
 j6 false)) (
 br (x.a == 3) (
 cs ([99,111,117,110,116,32]:LU) x.b <|
 cs ([99,111,117,110,116,32]++x.b:LU) ([32]:LU) <|
 m1k _ b x.b λ n8=>
 o0g _ n8 λ t9=>
 cs (([99,111,117,110,116,32]++x.b)++[32]) t9 <|
 k y1 [] ((([99,111,117,110,116,32]++x.b)++[32])++t9)) (
 br (x.a == 4) (
 cs ([108,111,111,107,32]:LU) x.b <|
 cs ([108,111,111,107,32]++x.b:LU) ([32]:LU) <|
 m1l _ sheets x.b λ n10=>
 o0g _ n10 λ t11=>
 cs (([108,111,111,107,32]++x.b)++[32]) t11 <|
 k y1 [] ((([108,111,111,107,32]++x.b)++[32])++t11)) (
 br (x.a == 5) (
 cs ([115,97,121,32]:LU) x.b <|
 k y1 [] ([115,97,121,32]++x.b)) (
 k y1 [] [])))))
def m1b:v1x:=g2f F61 m1j F25 d0n m1k o0g m1l
def p2v (F:v1x):GT:=λ β s k=>F β (rd8 s 0) (lL s 2) (d2v s 3) (λ y1 y2 y3=>k (.tup [w15 y1,.str y2,.str y3]))
abbrev q2x (F:v1x):WT:=WU z41 (p2v F)
theorem b3b (F61:T61)(m1j:x1k)(F25:T25)(d0n:k0f)(m1k:w1d)(o0g:m1z)(m1l:T94):KU [(61,W61 F61),(170,r2e m1j),(25,W25 F25),(122,w0k d0n),(171,r2f m1k),(167,c2q o0g),(172,r2g m1l)] noX 156 Tryz.f156 z41 (p2v (g2f F61 m1j F25 d0n m1k o0g m1l )):=λ _ _ _=>by kernel_rfl
theorem l2a:a0l D 156 (q2x m1b):=a0b Tryz.func156 (tc d2r (tc l2k (tc v0b (tc a1c (tc l2l (tc u1q (tc l2m tn))))))) (b3b F61 m1j F25 d0n m1k o0g m1l )
abbrev q1e:Type 1:=(β:Type)→U8→LV→LV→(U8→LU→LV→Option β)→Option β
def f2n (F61:T61)(m1b:v1x):q1e:=λ β b sheets l k=>
 F61 _ b λ y1=>
 whl s2m (λ x2=>
 br (decide (x2.2.2.2.2.1 < (nL x2.2.1))) (
 c0 x2.2.2.2.2.1 <|
 d2p x2.2.1 x2.2.2.2.2.1.toNat λ y3=>
 m1b _ x2.2.2.2.2.2 x2.1 y3 λ y4 t5 t6=>
 cs x2.2.2.1 t5 <|
 br (!(t6 == [])) (
 ca x2.2.2.2.1 ([.str t6]:LV) 16 <|
 some (.inl (d2g (x2.1,x2.2.1,x2.2.2.1++t5,x2.2.2.2.1++([.str t6]:LV),wi (x2.2.2.2.2.1+1),y4)))) (
 some (.inl (d2g (x2.1,x2.2.1,x2.2.2.1++t5,x2.2.2.2.1,wi (x2.2.2.2.2.1+1),y4))))) (
 some (.inr (0,t2p (x2.2.2.1,x2.2.2.2.1,x2.2.2.2.2.2))))) (d2g (sheets,l,[],[],0,y1)) λ r9=>
 wx x2x r9.2 λ x10=>
 k x10.2.2 x10.1 x10.2.1
def w0d:q1e:=f2n F61 m1b
def w2v:a0y:=λ i=>b0c i [] [(5,[(.exit 0,xk 49 [(6,.ptr 6 0),(9,.ptr 9 0),(10,.str []),(11,.own 1000002 1 .flat [])] [(6,.agg [.nil,.nil]),(9,.agg [.own 1000000 4 .clean [],.own 1000001 1 .flat []])])])]
def p2h (F:q1e):GT:=λ β s k=>F β (rd8 s 0) (lL s 2) (lL s 3) (λ y1 y2 y3=>k (.tup [w15 y1,.str y2,.own 3 1 .flat y3]))
abbrev h2h (F:q1e):WT:=WU z42 (p2h F)
theorem a3l (F61:T61)(m1b:v1x):KU [(61,W61 F61),(156,q2x m1b)] w2v 135 Tryz.f135 z42 (p2h (f2n F61 m1b )):=λ _ _ _=>by kernel_rfl
theorem a2o:a0l D 135 (h2h w0d):=a0b Tryz.func135 (tc d2r (tc l2a tn)) (a3l F61 m1b )
def f2p (v0x:p1x)(v0y:u0b):u0b:=λ β s k=>
 v0x _ [] s λ l1 t2=>
 v0y _ t2 λ l3=>
 ca l1 l3 64 <|
 k (l1++l3)
def l1t:u0b:=f2p v0x v0y
abbrev q2q (F:u0b):WT:=WU z14 (c2e F)
theorem a3o (v0x:p1x)(v0y:u0b):KU [(102,g2y v0x),(105,g2z v0y)] noX 137 Tryz.f137 z14 (c2e (f2p v0x v0y )):=λ _ _ _=>by kernel_rfl
theorem k2r:a0l D 137 (q2q l1t):=a0b Tryz.func137 (tc a2d (tc a2e tn)) (a3o v0x v0y )
abbrev p1y:Type 1:=(β:Type)→U9→LU→Bool→(U9→Option β)→Option β
def e2p (F45:T45)(w0c:q1d)(w0e:k0g)(w0d:q1e)(l1t:u0b):p1y:=λ β p code writes k=>
 F45 _ p λ y1=>
 w0c _ code λ l2 b3=>
 br (!b3) (
 br (decide ((nL y1.u) < 40)) (
 ca y1.u ([.str [101,114,114,111,114]]:LV) 16 <|
 k {y1 with u:=y1.u++([.str [101,114,114,111,114]]:LV)}) (
 k y1)) (
 w0e _ p λ l5=>
 w0d _ ⟨p.k,p.l⟩ l5 l2 λ y6 t7 l8=>
 whl s2n (λ x9=>
 jt0 (ci x9.2.2.2.1 x9.2.2.1 <|
 ia0 x9.2.2.1 x9.2.2.2.1.toNat 0 λ t11=>
 ca x9.2.2.2.2.2.2.2.2.2.2.2.2.2.2.2.u ([.str t11]:LV) 16 <|
 some (.inl (i2q (x9.1,x9.2.1,x9.2.2.1,wi (x9.2.2.2.1+1),x9.2.2.2.2.1,x9.2.2.2.2.2.1,x9.2.2.2.2.2.2.1,x9.2.2.2.2.2.2.2.1,x9.2.2.2.2.2.2.2.2.1,x9.2.2.2.2.2.2.2.2.2.1,x9.2.2.2.2.2.2.2.2.2.2.1,x9.2.2.2.2.2.2.2.2.2.2.2.1,x9.2.2.2.2.2.2.2.2.2.2.2.2.1,x9.2.2.2.2.2.2.2.2.2.2.2.2.2.1,x9.2.2.2.2.2.2.2.2.2.2.2.2.2.2.1,{x9.2.2.2.2.2.2.2.2.2.2.2.2.2.2.2 with u:=x9.2.2.2.2.2.2.2.2.2.2.2.2.2.2.2.u++([.str t11]:LV)})))) λ j12=>
 br (decide (x9.2.2.2.1 < (nL x9.2.2.1))) (
 br (decide ((nL x9.2.2.2.2.2.2.2.2.2.2.2.2.2.2.2.u) < 40)) (
 j12) (
 some (.inr (0,i2p (x9.1,x9.2.1,x9.2.2.2.2.1,x9.2.2.2.2.2.1,x9.2.2.2.2.2.2.1,x9.2.2.2.2.2.2.2.1,x9.2.2.2.2.2.2.2.2.1,x9.2.2.2.2.2.2.2.2.2.1,x9.2.2.2.2.2.2.2.2.2.2.1,x9.2.2.2.2.2.2.2.2.2.2.2.1,x9.2.2.2.2.2.2.2.2.2.2.2.2.1,x9.2.2.2.2.2.2.2.2.2.2.2.2.2.1,x9.2.2.2.2.2.2.2.2.2.2.2.2.2.2.1,x9.2.2.2.2.2.2.2.2.2.2.2.2.2.2.2))))) (
 some (.inr (0,i2p (x9.1,x9.2.1,x9.2.2.2.2.1,x9.2.2.2.2.2.1,x9.2.2.2.2.2.2.1,x9.2.2.2.2.2.2.2.1,x9.2.2.2.2.2.2.2.2.1,x9.2.2.2.2.2.2.2.2.2.1,x9.2.2.2.2.2.2.2.2.2.2.1,x9.2.2.2.2.2.2.2.2.2.2.2.1,x9.2.2.2.2.2.2.2.2.2.2.2.2.1,x9.2.2.2.2.2.2.2.2.2.2.2.2.2.1,x9.2.2.2.2.2.2.2.2.2.2.2.2.2.2.1,x9.2.2.2.2.2.2.2.2.2.2.2.2.2.2.2))))) (i2q (writes,t7,l8,0,[],[],false,[],[],false,0,0,0,0,false,{y1 with k:=y6.a,l:=y6.b})) λ r13=>
 wx x2y r13.2 λ x14=>
 br x14.1 (
 l1t _ x14.2.1 λ l15=>
 ca l15 x14.2.2.2.2.2.2.2.2.2.2.2.2.2.i 64 <|
 k {x14.2.2.2.2.2.2.2.2.2.2.2.2.2 with i:=l15++x14.2.2.2.2.2.2.2.2.2.2.2.2.2.i}) (
 k x14.2.2.2.2.2.2.2.2.2.2.2.2.2))
def t0x:p1y:=e2p F45 w0c w0e w0d l1t
def w2l:a0y:=λ i=>b0c i [] [(10,[(.exit 0,xk 74 [(2,.bool false),(6,.ptr 6 0),(7,.ptr 7 0),(11,.str [])] [(6,.agg [.str [],.str [],.bool false,.nil,.nil,.nil,.str [],.str [],.nil,.bool false,.nil,.nil,.nil,.nil,.nil,.int .i64 0,.int .i64 0,.int .i64 0,.int .i64 0,.nil,.nil,.bool false]),(7,.agg [.str [],.str [],.bool false,.own 1000000 1 .flat [],.own 1000001 1 .flat [],.own 1000002 1 .flat [],.str [],.str [],.own 1000003 4 .clean [],.bool false,.own 1000004 4 .clean [],.own 1000005 1 .flat [],.own 1000006 8 .flat [],.own 1000007 5 .flat [],.own 1000008 2 .flat [],.int .i64 0,.int .i64 0,.int .i64 0,.int .i64 0,.own 1000009 2 .flat [],.own 1000010 1 .flat [],.bool false])])])]
def o2q (F:p1y):GT:=λ β s k=>F β (rd9 s 0) (lS s 22) (lB s 23) (λ y1=>k (w17 y1))
abbrev h2a (F:p1y):WT:=WU z43 (o2q F)
theorem z2s (F45:T45)(w0c:q1d)(w0e:k0g)(w0d:q1e)(l1t:u0b):KU [(45,W45 F45),(134,h2g w0c),(136,h2i w0e),(135,h2h w0d),(137,q2q l1t)] w2l 107 Tryz.f107 z43 (o2q (e2p F45 w0c w0e w0d l1t )):=λ _ _ _=>by kernel_rfl
theorem a2g:a0l D 107 (h2a t0x):=a0b Tryz.func107 (tc v0v (tc a2n (tc a2p (tc a2o (tc k2r tn))))) (z2s F45 w0c w0e w0d l1t )
abbrev s0d:Type 1:=(β:Type)→U8→LU→(U8→Option β)→Option β
def g1o (F25:T25):s0d:=λ β b name k=>
 whl s2o (λ x1=>
 br (decide (x1.2.1 > 0)) (
 ci x1.2.1 x1.2.2.b <|
 ia2 x1.2.2.b x1.2.1.toNat 0 λ n2=>
 F25 _ n2 0 (wi ((nL x1.2.2.a) - 1)) λ b3=>
 br b3 (
 ci n2 x1.2.2.a <|
 ia0 x1.2.2.a n2.toNat 0 λ t4=>
 br (t4 == x1.1) (
 cc 0 x1.2.1 (nL x1.2.2.b) <|
 some (.inr (1,t2q ({x1.2.2 with b:=(x1.2.2.b.take x1.2.1.toNat).drop 0},{x1.2.2 with b:=(x1.2.2.b.take x1.2.1.toNat).drop 0})))) (
 some (.inl (d2h (x1.1,wi (x1.2.1 - 1),x1.2.2))))) (
 some (.inl (d2h (x1.1,wi (x1.2.1 - 1),x1.2.2))))) (
 some (.inr (0,w1m x1.2.2)))) (d2h (name,wi ((nL b.b) - 1),b)) λ r6=>
 if r6.1=0 then
 wx h2z r6.2 λ x7=>
 k x7
 else
 wx x2z r6.2 λ x8=>
 k x8.2
def k0e:s0d:=g1o F25
def y1f:a0y:=λ i=>b0c i [] [(2,[(.exit 0,xk 43 [(2,.ptr 2 0),(4,.ptr 4 0)] [(2,.agg [.own 1000000 4 .clean [],.own 1000001 1 .flat []]),(4,.agg [.nil,.nil])]),(.ret,xk 43 [(2,.ptr 2 0),(4,.ptr 4 0)] [(2,.agg [.own 1000000 4 .clean [],.view 1000001 1 .flat []]),(4,.agg [.own 1000000 4 .clean [],.view 1000001 1 .flat []])])])]
def p1u (F:s0d):GT:=λ β s k=>F β (rd8 s 0) (lS s 2) (λ y1=>k (.tup [w19 y1]))
abbrev q1p (F:s0d):WT:=WU z44 (p1u F)
theorem z1r (F25:T25):KI [(25,W25 F25)] y1f 158 ⟨[.mv,.data],43,0,false⟩ Tryz.f158 z44 (p1u (g1o F25 )):=λ _ _ _=>by kernel_rfl
theorem u1n:a0l D 158 (ioW (q1p k0e)):=a0x Tryz.func158 (tc v0b tn) (z1r F25 )
def g2h:k0f:=λ β name k=>
 br (name == [105,109,103]) (
 k true) (
 k (name == [108,105,110,107]))
def m1d:k0f:=g2h
theorem b3d:KU [] noX 159 Tryz.f159 z14 (c2g (g2h )):=λ _ _ _=>by kernel_rfl
theorem l2c:a0l D 159 (w0k m1d):=a0b Tryz.func159 tn (b3d )
abbrev v1r:Type 1:=(β:Type)→U8→U10→(U8→Int→Option β)→Option β
def f2q (F61:T61)(k0e:s0d)(m1d:k0f)(F70:T70):v1r:=λ β b t k=>
 F61 _ b λ y1=>
 br (t.a == 2) (
 k0e _ y1 t.b λ y2=>
 k y2 (-1)) (
 jt1 (λ (b4:Bool)=>
 jt0 (c0 (wi ((nL b.b) - 1)) <|
 ix1 b.b ((wi ((nL b.b) - 1)).toNat) λ n6=>
 jt0 (ca y1.a ([w0 ⟨[],t.d,n6,[]⟩]:LV) 64 <|
 br b4 (
 ca y1.b ([.int .i64 (nL b.a)]:LV) 8 <|
 k ⟨y1.a++([w0 ⟨[],t.d,n6,[]⟩]:LV),y1.b++([.int .i64 (nL b.a)]:LV)⟩ (nL b.a)) (
 k {y1 with a:=y1.a++([w0 ⟨[],t.d,n6,[]⟩]:LV)} (nL b.a))) λ j11=>
 br (t.a == 1) (
 F70 _ t.c λ l7=>
 ca y1.a ([w0 ⟨t.b,[],n6,l7⟩]:LV) 64 <|
 br b4 (
 ca y1.b ([.int .i64 (nL b.a)]:LV) 8 <|
 k ⟨y1.a++([w0 ⟨t.b,[],n6,l7⟩]:LV),y1.b++([.int .i64 (nL b.a)]:LV)⟩ (nL b.a)) (
 k {y1 with a:=y1.a++([w0 ⟨t.b,[],n6,l7⟩]:LV)} (nL b.a))) (
 br (t.a == 3) (
 br (!(t.d == [])) (
 j11) (
 k y1 (-1))) (
 k y1 (-1)))) λ j12=>
 br (decide ((nL b.a) ≥ 40)) (
 k y1 (-1)) (
 br ((nL b.b) == 0) (
 k y1 (-1)) (
 br b4 (
 br (decide ((nL b.b) ≥ 8)) (
 k y1 (-1)) (
 j12)) (
 j12)))) λ j13=>
 br (t.a == 1) (
 m1d _ t.b λ b3=>
 j13 (!b3)) (
 j13 false))
def l1u:v1r:=f2q F61 k0e m1d F70
def p2j (F:v1r):GT:=λ β s k=>F β (rd8 s 0) (r1l s 2) (λ y1 y2=>k (.tup [w19 y1,.int .i64 y2]))
abbrev q2r (F:v1r):WT:=WU z45 (p2j F)
theorem a3p (F61:T61)(k0e:s0d)(m1d:k0f)(F70:T70):KU [(61,W61 F61),(158,ioW (q1p k0e)),(159,w0k m1d),(70,W70 F70)] noX 138 Tryz.f138 z45 (p2j (f2q F61 k0e m1d F70 )):=λ _ _ _=>by kernel_rfl
theorem k2s:a0l D 138 (q2r l1u):=a0b Tryz.func138 (tc d2r (tc u1n (tc l2c (tc l2v tn)))) (a3p F61 k0e m1d F70 )
abbrev p1z:Type 1:=(β:Type)→Int→(Int→Option β)→Option β
def e2w:p1z:=λ β mode k=>
 br (mode == 1) (
 k 4) (
 br (mode == 2) (
 k 3) (
 br (mode == 3) (
 k 2) (
 br (mode == 4) (
 k 2) (
 k 0))))
def v0z:p1z:=e2w
def o2s (F:p1z):GT:=λ β s k=>F β (lI s 0) (λ y1=>k (.int .i64 y1))
abbrev h2b (F:p1z):WT:=WU z38 (o2s F)
theorem z2z:KU [] noX 115 Tryz.f115 z38 (o2s (e2w )):=λ _ _ _=>by kernel_rfl
theorem a2h:a0l D 115 (h2b v0z):=a0b Tryz.func115 tn (z2z )
abbrev m1y:Type 1:=(β:Type)→LU→LU→(U6→Bool→Option β)→Option β
def g2l (k0m:f1v):m1y:=λ β s base k=>
 whl s2p (λ x1=>
 br (decide (x1.2.1 < (nS x1.1))) (
 idxS x1.1 x1.2.1 λ b2=>
 br (b2 == 47) (
 cc 0 x1.2.1 (nS x1.1) <|
 cc (wi (x1.2.1+1)) (nS x1.1) (nS x1.1) <|
 some (.inr (0,i2r (x1.2.2.1,⟨(x1.1.take x1.2.1.toNat).drop 0,(x1.1.take ((nS x1.1).toNat)).drop ((wi (x1.2.1+1)).toNat)⟩)))) (
 some (.inl (i2s (x1.1,wi (x1.2.1+1),x1.2.2.1,x1.2.2.2))))) (
 some (.inr (0,i2r (x1.2.2.1,x1.2.2.2))))) (i2s (s,0,⟨[],[]⟩,⟨base,s⟩)) λ r3=>
 wx y2a r3.2 λ x4=>
 k0m _ x4.2 λ b5=>
 br (!b5) (
 k ⟨[],[]⟩ false) (
 k x4.2 true)
def o0q:m1y:=g2l k0m
def x2f:a0y:=λ i=>b0c i [] [(3,[(.exit 0,xk 34 [(4,.ptr 4 0),(6,.ptr 6 0)] [(4,.agg [.str [],.str []]),(6,.agg [.str [],.str []])])])]
def p2z (F:m1y):GT:=λ β s k=>F β (lS s 0) (lS s 1) (λ y1 y2=>k (.tup [w2 y1,.bool y2]))
abbrev c2p (F:m1y):WT:=WU z46 (p2z F)
theorem b3h (k0m:f1v):KU [(132,x1q k0m)] x2f 164 Tryz.f164 z46 (p2z (g2l k0m )):=λ _ _ _=>by kernel_rfl
theorem u1p:a0l D 164 (c2p o0q):=a0b Tryz.func164 (tc o1k tn) (b3h k0m )
abbrev T89:Type 1:=(β:Type)→U9→Int→(U14→Option β)→Option β
def P89 (F25:T25)(v0z:p1z):T89:=λ β p xk k=>
 F25 _ xk 0 (wi ((nL p.m) - 1)) λ b1=>
 br (!b1) (
 k ⟨0,[],[],[],[]⟩) (
 c0 xk <|
 ix8 p.m xk.toNat λ y2=>
 v0z _ y2.a λ n3=>
 k ⟨n3,y2.b,y2.c,p.a,y2.d⟩)
def F89:T89:=P89 F25 v0z
def G89 (F:T89):GT:=λ β s k=>F β (rd9 s 0) (lI s 22) (λ y1=>k (w7 y1))
abbrev W89 (F:T89):WT:=WU z47 (G89 F)
theorem k89 (F25:T25)(v0z:p1z):KU [(25,W25 F25),(115,h2b v0z)] noX 89 Tryz.f89 z47 (G89 (P89 F25 v0z )):=λ _ _ _=>by kernel_rfl
theorem l2w:a0l D 89 (W89 F89):=a0b Tryz.func89 (tc v0b (tc a2h tn)) (k89 F25 v0z )
abbrev v1z:Type 1:=(β:Type)→U14→(Bool→Option β)→Option β
def g2m (F25:T25)(k0m:f1v)(d0n:k0f)(n0i:k0f):v1z:=λ β r k=>
 F25 _ r.a 1 5 λ b1=>
 br b1 (
 k0m _ ⟨r.b,r.c⟩ λ b2=>
 br b2 (
 d0n _ r.d λ b3=>
 br b3 (
 br (r.e == []) (
 k true) (
 n0i _ r.e λ b4=>
 k b4)) (
 k false)) (
 k false)) (
 k false)
def m1g:v1z:=g2m F25 k0m d0n n0i
def q2a (F:v1z):GT:=λ β s k=>F β (d2w s 0) (λ y1=>k (.bool y1))
abbrev r2a (F:v1z):WT:=WU z48 (q2a F)
theorem b3i (F25:T25)(k0m:f1v)(d0n:k0f)(n0i:k0f):KU [(25,W25 F25),(132,x1q k0m),(122,w0k d0n),(152,w0k n0i)] noX 165 Tryz.f165 z48 (q2a (g2m F25 k0m d0n n0i )):=λ _ _ _=>by kernel_rfl
theorem l2f:a0l D 165 (r2a m1g):=a0b Tryz.func165 (tc v0b (tc o1k (tc a1c (tc u1l tn)))) (b3i F25 k0m d0n n0i )
abbrev w1f:Type 1:=(β:Type)→LV→LU→(Bool→Option β)→Option β
def g2u:w1f:=λ β l s k=>
 whl w1j (λ x1=>
 br (decide (x1.2.2 < (nL x1.1))) (
 c0 x1.2.2 <|
 ix2 x1.1 x1.2.2.toNat λ t2=>
 br (t2 == x1.2.1) (
 some (.inr (1,s0l true))) (
 some (.inl (h1x (x1.1,x1.2.1,wi (x1.2.2+1)))))) (
 some (.inr (0,[])))) (h1x (l,s,0)) λ r3=>
 if r3.1=0 then
 k false
 else
 wx b1w r3.2 λ x4=>
 k x4
def f1s:w1f:=g2u
def r2l:a0y:=λ i=>b0c i [] [(2,[(.exit 0,xk 18 [] []),(.ret,xk 18 [(4,.bool false)] [])])]
def q2h (F:w1f):GT:=λ β s k=>F β (lL s 0) (lS s 1) (λ y1=>k (.bool y1))
abbrev r2i (F:w1f):WT:=WU z49 (q2h F)
theorem b3q:KU [] r2l 174 Tryz.f174 z49 (q2h (g2u )):=λ _ _ _=>by kernel_rfl
theorem l2o:a0l D 174 (r2i f1s):=a0b Tryz.func174 tn (b3q )
abbrev w1a:Type 1:=(β:Type)→U2→Int→LU→(Bool→Option β)→Option β
def g2n (f1s:w1f):w1a:=λ β p kind host k=>
 br (!p.a) (
 k true) (
 jt1 (λ (b1:Bool)=>
 br b1 (
 f1s _ p.b host λ b2=>
 k b2) (
 br (kind == 3) (
 f1s _ p.c host λ b3=>
 k b3) (
 br (kind == 4) (
 f1s _ p.d host λ b4=>
 k b4) (
 k false)))) λ j5=>
 br (kind == 2) (
 j5 true) (
 j5 (kind == 5)))
def m1h:w1a:=g2n f1s
def q2b (F:w1a):GT:=λ β s k=>F β (rd2 s 0) (lI s 5) (lS s 6) (λ y1=>k (.bool y1))
abbrev r2b (F:w1a):WT:=WU z50 (q2b F)
theorem b3j (f1s:w1f):KU [(174,r2i f1s)] noX 166 Tryz.f166 z50 (q2b (g2n f1s )):=λ _ _ _=>by kernel_rfl
theorem l2g:a0l D 166 (r2b m1h):=a0b Tryz.func166 (tc l2o tn) (b3j f1s )
abbrev m1w:Type 1:=(β:Type)→U2→U14→(Int→Option β)→Option β
def f2w (m1g:v1z)(m1h:w1a):m1w:=λ β p r k=>
 m1g _ r λ b1=>
 br (!b1) (
 k 2) (
 br (r.a != 1) (
 m1h _ p r.a r.b λ b2=>
 br (!b2) (
 k 2) (
 k 1)) (
 k 1))
def o0p:m1w:=f2w m1g m1h
def p2o (F:m1w):GT:=λ β s k=>F β (rd2 s 0) (d2w s 5) (λ y1=>k (.int .i64 y1))
abbrev c2n (F:m1w):WT:=WU z51 (p2o F)
theorem a3v (m1g:v1z)(m1h:w1a):KU [(165,r2a m1g),(166,r2b m1h)] noX 146 Tryz.f146 z51 (p2o (f2w m1g m1h )):=λ _ _ _=>by kernel_rfl
theorem u1j:a0l D 146 (c2n o0p):=a0b Tryz.func146 (tc l2f (tc l2g tn)) (a3v m1g m1h )
abbrev q1h:Type 1:=(β:Type)→U9→Int→LU→LU→Int→(U9→Int→Option β)→Option β
def g2i (F45:T45)(v0z:p1z)(o0q:m1y)(F89:T89)(o0p:m1w):q1h:=λ β p mode xto digest node k=>
 F45 _ p λ y1=>
 jt0 (o0q _ xto p.a λ y4 b5=>
 ca y1.m ([w5 ⟨mode,y4.a,y4.b,digest,node,false,0,[]⟩]:LV) 96 <|
 jt1 (λ (b8:Bool)=>
 br b8 (
 ci (nL p.m) (y1.m++([w5 ⟨mode,y4.a,y4.b,digest,node,false,0,[]⟩]:LV)) <|
 c0z (y1.m++([w5 ⟨mode,y4.a,y4.b,digest,node,false,0,[]⟩]:LV)) ((nL p.m).toNat) 5 [.bool true] λ l9=>
 ci (nL p.m) l9 <|
 c0z l9 ((nL p.m).toNat) 6 [.int .i64 2] λ l10=>
 k {y1 with m:=l10} (nL p.m)) (
 k {y1 with m:=y1.m++([w5 ⟨mode,y4.a,y4.b,digest,node,false,0,[]⟩]:LV)} (nL p.m))) λ j11=>
 br (!b5) (
 j11 true) (
 F89 _ {y1 with m:=y1.m++([w5 ⟨mode,y4.a,y4.b,digest,node,false,0,[]⟩]:LV)} (nL p.m) λ y6=>
 o0p _ ⟨p.c,p.d,p.e,p.f,p.g⟩ y6 λ n7=>
 j11 (n7 != 1))) λ j13=>
 br (decide ((nL p.m) ≥ 20)) (
 k y1 (-1)) (
 v0z _ mode λ n2=>
 br (n2 == 0) (
 k y1 (-1)) (
 j13))
def r0y:q1h:=g2i F45 v0z o0q F89 o0p
def p2x (F:q1h):GT:=λ β s k=>F β (rd9 s 0) (lI s 22) (lS s 23) (lS s 24) (lI s 25) (λ y1 y2=>k (.tup [w17 y1,.int .i64 y2]))
abbrev h2l (F:q1h):WT:=WU z52 (p2x F)
theorem b3e (F45:T45)(v0z:p1z)(o0q:m1y)(F89:T89)(o0p:m1w):KU [(45,W45 F45),(115,h2b v0z),(164,c2p o0q),(89,W89 F89),(146,c2n o0p)] noX 160 Tryz.f160 z52 (p2x (g2i F45 v0z o0q F89 o0p )):=λ _ _ _=>by kernel_rfl
theorem a2s:a0l D 160 (h2l r0y):=a0b Tryz.func160 (tc v0v (tc a2h (tc u1p (tc l2w (tc u1j tn))))) (b3e F45 v0z o0q F89 o0p )
abbrev s0b:Type 1:=(β:Type)→U9→U10→Int→(U9→Option β)→Option β
def g1l (k0d:m1x)(r0y:q1h):s0b:=λ β p t n k=>
 k0d _ t.c [100,105,103,101,115,116] λ t1 b2=>
 jt1 (λ (y10:U9)=>
 k0d _ t.c [115,114,99] λ t11 b12=>
 br b12 (
 br (t.b == [105,109,103]) (
 r0y _ y10 1 t11 t1 n λ y16 n17=>
 k y16) (
 k y10)) (
 k y10)) λ j19=>
 jt0 (k0d _ t.c [115,114,99] λ t20 b21=>
 br b21 (
 br (t.b == [105,109,103]) (
 r0y _ p 1 t20 t1 n λ y25 n26=>
 k y25) (
 k p)) (
 k p)) λ j28=>
 k0d _ t.c [104,114,101,102] λ t3 b4=>
 br b4 (
 br (t.b == [108,105,110,107]) (
 r0y _ p 2 t3 t1 n λ y8 n9=>
 j19 y8) (
 j28)) (
 j28)
def k0b:s0b:=g1l k0d r0y
def p1s (F:s0b):GT:=λ β s k=>F β (rd9 s 0) (r1l s 22) (lI s 26) (λ y1=>k (.tup [w20 y1]))
abbrev q1m (F:s0b):WT:=WU z53 (p1s F)
theorem z1o (k0d:m1x)(r0y:q1h):KI [(154,c2o k0d),(160,h2l r0y)] noX 139 ⟨[.mv,.data,.data],60,0,false⟩ Tryz.f139 z53 (p1s (g1l k0d r0y )):=λ _ _ _=>by kernel_rfl
theorem u1g:a0l D 139 (ioW (q1m k0b)):=a0x Tryz.func139 (tc u1m (tc a2s tn)) (z1o k0d r0y )
abbrev v1y:Type 1:=(β:Type)→U2→LU→(Bool→Option β)→Option β
def g2j:v1y:=λ β p nonce k=>
 br (!p.a) (
 k true) (
 br (!(p.e == [])) (
 k (p.e == nonce)) (
 k false))
def m1e:v1y:=g2j
def p2y (F:v1y):GT:=λ β s k=>F β (rd2 s 0) (lS s 5) (λ y1=>k (.bool y1))
abbrev q2z (F:v1y):WT:=WU z54 (p2y F)
theorem b3f:KU [] noX 161 Tryz.f161 z54 (p2y (g2j )):=λ _ _ _=>by kernel_rfl
theorem l2d:a0l D 161 (q2z m1e):=a0b Tryz.func161 tn (b3f )
abbrev v1v:Type 1:=(β:Type)→U6→U6→(Int→Option β)→Option β
def f2z:v1v:=λ β a b k=>
 br (q0 a b) (
 k 0) (
 br (t1u a.a b.a) (
 k (-1)) (
 br (a.a == b.a) (
 br (t1u a.b b.b) (
 k (-1)) (
 k 1)) (
 k 1)))
def l1z:v1v:=f2z
def p2r (F:v1v):GT:=λ β s k=>F β (rd6 s 0) (rd6 s 2) (λ y1=>k (.int .i64 y1))
abbrev q2v (F:v1v):WT:=WU z55 (p2r F)
theorem a3y:KU [] noX 149 Tryz.f149 z55 (p2r (f2z )):=λ _ _ _=>by kernel_rfl
theorem k2x:a0l D 149 (q2v l1z):=a0b Tryz.func149 tn (a3y )
abbrev f1u:Type 1:=(β:Type)→U9→U6→(U9→Option β)→Option β
def f2b (F45:T45)(l1z:v1v)(o0p:m1w):f1u:=λ β p a k=>
 F45 _ p λ y1=>
 whl i2c (λ x2=>
 jt0 (some (.inl (w1q (wi (x2.1+1),x2.2.1,x2.2.2.1,x2.2.2.2.1,x2.2.2.2.2.1,x2.2.2.2.2.2.1,x2.2.2.2.2.2.2.1,x2.2.2.2.2.2.2.2.1,x2.2.2.2.2.2.2.2.2.1,x2.2.2.2.2.2.2.2.2.2.1,x2.2.2.2.2.2.2.2.2.2.2.1,x2.2.2.2.2.2.2.2.2.2.2.2.1,x2.2.2.2.2.2.2.2.2.2.2.2.2.1,x2.2.2.2.2.2.2.2.2.2.2.2.2.2.1,x2.2.2.2.2.2.2.2.2.2.2.2.2.2.2)))) λ j6=>
 br (decide (x2.1 < (nL x2.2.1.n))) (
 c0 x2.1 <|
 q0a x2.2.1.n x2.1.toNat λ y3=>
 l1z _ ⟨y3.a,y3.b⟩ x2.2.2.1 λ n4=>
 br (decide (n4 < 0)) (
 j6) (
 some (.inr (0,w1q (x2.1,x2.2.1,x2.2.2.1,x2.2.2.2.1,x2.2.2.2.2.1,x2.2.2.2.2.2.1,x2.2.2.2.2.2.2.1,x2.2.2.2.2.2.2.2.1,x2.2.2.2.2.2.2.2.2.1,x2.2.2.2.2.2.2.2.2.2.1,x2.2.2.2.2.2.2.2.2.2.2.1,x2.2.2.2.2.2.2.2.2.2.2.2.1,x2.2.2.2.2.2.2.2.2.2.2.2.2.1,x2.2.2.2.2.2.2.2.2.2.2.2.2.2.1,x2.2.2.2.2.2.2.2.2.2.2.2.2.2.2))))) (
 some (.inr (0,w1q (x2.1,x2.2.1,x2.2.2.1,x2.2.2.2.1,x2.2.2.2.2.1,x2.2.2.2.2.2.1,x2.2.2.2.2.2.2.1,x2.2.2.2.2.2.2.2.1,x2.2.2.2.2.2.2.2.2.1,x2.2.2.2.2.2.2.2.2.2.1,x2.2.2.2.2.2.2.2.2.2.2.1,x2.2.2.2.2.2.2.2.2.2.2.2.1,x2.2.2.2.2.2.2.2.2.2.2.2.2.1,x2.2.2.2.2.2.2.2.2.2.2.2.2.2.1,x2.2.2.2.2.2.2.2.2.2.2.2.2.2.2))))) (w1q (0,p,a,[],[],false,[],[],false,0,0,0,0,false,y1)) λ r7=>
 wx i2c r7.2 λ x8=>
 jt0 (
 jt1 (λ (y12:U15)=>
 cc 0 x8.1 (nL x8.2.2.2.2.2.2.2.2.2.2.2.2.2.2.n) <|
 ca ([]:LV) ((x8.2.2.2.2.2.2.2.2.2.2.2.2.2.2.n.take x8.1.toNat).drop 0) 64 <|
 ca (([]:LV)++((x8.2.2.2.2.2.2.2.2.2.2.2.2.2.2.n.take x8.1.toNat).drop 0)) ([w6 y12]:LV) 64 <|
 cc x8.1 (nL x8.2.2.2.2.2.2.2.2.2.2.2.2.2.2.n) (nL x8.2.2.2.2.2.2.2.2.2.2.2.2.2.2.n) <|
 ca ((([]:LV)++((x8.2.2.2.2.2.2.2.2.2.2.2.2.2.2.n.take x8.1.toNat).drop 0))++([w6 y12]:LV)) ((x8.2.2.2.2.2.2.2.2.2.2.2.2.2.2.n.take ((nL x8.2.2.2.2.2.2.2.2.2.2.2.2.2.2.n).toNat)).drop x8.1.toNat) 64 <|
 k {x8.2.2.2.2.2.2.2.2.2.2.2.2.2.2 with n:=((([]:LV)++((x8.2.2.2.2.2.2.2.2.2.2.2.2.2.2.n.take x8.1.toNat).drop 0))++([w6 y12]:LV))++((x8.2.2.2.2.2.2.2.2.2.2.2.2.2.2.n.take ((nL x8.2.2.2.2.2.2.2.2.2.2.2.2.2.2.n).toNat)).drop x8.1.toNat)}) λ j13=>
 o0p _ ⟨x8.2.1.c,x8.2.1.d,x8.2.1.e,x8.2.1.f,x8.2.1.g⟩ ⟨5,x8.2.2.1.a,x8.2.2.1.b,x8.2.1.a,[]⟩ λ n11=>
 br (n11 != 1) (
 j13 ⟨x8.2.2.1.a,x8.2.2.1.b,true,2,[]⟩) (
 j13 ⟨x8.2.2.1.a,x8.2.2.1.b,false,0,[]⟩)) λ j14=>
 br (decide (x8.1 < (nL x8.2.1.n))) (
 c0 x8.1 <|
 q0a x8.2.1.n x8.1.toNat λ y9=>
 br (q0 ⟨y9.a,y9.b⟩ x8.2.2.1) (
 k x8.2.2.2.2.2.2.2.2.2.2.2.2.2.2) (
 j14)) (
 j14)
def w0b:f1u:=f2b F45 l1z o0p
def w2p:a0y:=λ i=>b0c i [] [(3,[(.exit 0,xk 76 [(2,.ptr 2 0),(3,.ptr 3 0),(4,.ptr 4 0),(5,.ptr 5 0),(6,.int .i64 0)] [(2,.agg [.str [],.str [],.bool false,.sl 1 true [],.sl 1 true [],.sl 1 true [],.str [],.str [],.sl 4 false [],.bool false,.sl 4 false [],.sl 1 true [],.sl 8 true [],.sl 5 true [],.sl 2 true [],.int .i64 0,.int .i64 0,.int .i64 0,.int .i64 0,.sl 2 true [],.sl 1 true [],.bool false]),(3,.agg [.str [],.str []]),(4,.agg [.str [],.str [],.bool false,.nil,.nil,.nil,.str [],.str [],.nil,.bool false,.nil,.nil,.nil,.nil,.nil,.int .i64 0,.int .i64 0,.int .i64 0,.int .i64 0,.nil,.nil,.bool false]),(5,.agg [.str [],.str [],.bool false,.own 1000000 1 .flat [],.own 1000001 1 .flat [],.own 1000002 1 .flat [],.str [],.str [],.own 1000003 4 .clean [],.bool false,.own 1000004 4 .clean [],.own 1000005 1 .flat [],.own 1000006 8 .flat [],.own 1000007 5 .flat [],.own 1000008 2 .flat [],.int .i64 0,.int .i64 0,.int .i64 0,.int .i64 0,.own 1000009 2 .flat [],.own 1000010 1 .flat [],.bool false])])])]
def e2i (F:f1u):GT:=λ β s k=>F β (rd9 s 0) (rd6 s 22) (λ y1=>k (w17 y1))
abbrev x1o (F:f1u):WT:=WU z56 (e2i F)
theorem a3e (F45:T45)(l1z:v1v)(o0p:m1w):KU [(45,W45 F45),(149,q2v l1z),(146,c2n o0p)] w2p 120 Tryz.f120 z56 (e2i (f2b F45 l1z o0p )):=λ _ _ _=>by kernel_rfl
theorem a2j:a0l D 120 (x1o w0b):=a0b Tryz.func120 (tc v0v (tc k2x (tc u1j tn))) (a3e F45 l1z o0p )
def g2k (o0q:m1y)(F45:T45)(w0b:f1u):T82:=λ β p xto k=>
 o0q _ xto p.a λ y1 b2=>
 jt0 (w0b _ p y1 λ y7=>
 ca y7.o ([w2 y1]:LV) 32 <|
 k {y7 with o:=y7.o++([w2 y1]:LV)}) λ j8=>
 br (!b2) (
 F45 _ p λ y5=>
 k y5) (
 br (decide ((nL p.o) ≥ 20)) (
 F45 _ p λ y6=>
 k y6) (
 j8))
def m1f:T82:=g2k o0q F45 w0b
theorem b3g (o0q:m1y)(F45:T45)(w0b:f1u):KU [(164,c2p o0q),(45,W45 F45),(120,x1o w0b)] noX 162 Tryz.f162 z35 (G82 (g2k o0q F45 w0b )):=λ _ _ _=>by kernel_rfl
theorem l2e:a0l D 162 (W82 m1f):=a0b Tryz.func162 (tc u1p (tc v0v (tc a2j tn))) (b3g o0q F45 w0b )
abbrev s0c:Type 1:=(β:Type)→U9→Int→(U9→Option β)→Option β
def g1m (k0d:m1x)(m1e:v1y)(r0y:q1h)(m1f:T82):s0c:=λ β p n k=>
 ci n p.k <|
 ia3 p.k n.toNat 3 λ l1=>
 k0d _ l1 [115,114,99] λ t2 b3=>
 k0d _ l1 [107,105,110,100] λ t4 b5=>
 k0d _ l1 [100,105,103,101,115,116] λ t6 b7=>
 k0d _ l1 [110,111,110,99,101] λ t8 b9=>
 br (!b3) (
 m1e _ ⟨p.c,p.d,p.e,p.f,p.g⟩ t8 λ b10=>
 br b10 (
 k {p with q:=n}) (
 k p)) (
 br (t4 == [100,101,102,101,114]) (
 r0y _ p 4 t2 t6 n λ y11 n12=>
 k y11) (
 br (t4 == [109,111,100,117,108,101]) (
 m1f _ p t2 λ y13=>
 k y13) (
 r0y _ p 3 t2 t6 n λ y14 n15=>
 k {y14 with p:=wi (n15+1)})))
def i0i:s0c:=g1m k0d m1e r0y m1f
def p1t (F:s0c):GT:=λ β s k=>F β (rd9 s 0) (lI s 22) (λ y1=>k (.tup [w20 y1]))
abbrev q1n (F:s0c):WT:=WU z57 (p1t F)
theorem z1p (k0d:m1x)(m1e:v1y)(r0y:q1h)(m1f:T82):KI [(154,c2o k0d),(161,q2z m1e),(160,h2l r0y),(162,W82 m1f)] noX 140 ⟨[.mv,.data],82,0,false⟩ Tryz.f140 z57 (p1t (g1m k0d m1e r0y m1f )):=λ _ _ _=>by kernel_rfl
theorem u1h:a0l D 140 (ioW (q1n i0i)):=a0x Tryz.func140 (tc u1m (tc l2d (tc a2s (tc l2e tn)))) (z1p k0d m1e r0y m1f )
abbrev y0q:Type 1:=(β:Type)→U9→(U9→Bool→Option β)→Option β
def e2r (F45:T45)(l1u:v1r)(k0b:s0b)(F25:T25)(i0i:s0c):y0q:=λ β p k=>
 F45 _ p λ y1=>
 jt0 (ci 0 y1.i <|
 ia1 y1.i 0 0 λ y3=>
 cc 1 (nL y1.i) (nL y1.i) <|
 jt1 (λ (n5:Int)=>
 l1u _ ⟨p.k,p.l⟩ y3 λ y6 n7=>
 jt1 (λ (y11:U9)=>
 br (y3.a == 2) (
 br (y3.b == [115,99,114,105,112,116]) (
 F25 _ n5 1 (wi ((nL p.k) - 1)) λ b12=>
 br b12 (
 c0 n5 <|
 ix6 p.k n5.toNat λ y13=>
 br (y13.a == [115,99,114,105,112,116]) (
 i0i _ y11 n5 λ y16=>
 k y16 true) (
 k y11 true)) (
 k y11 true)) (
 k y11 true)) (
 k y11 true)) λ j18=>
 jt0 (
 jt0 (k {y1 with i:=(y1.i.take ((nL y1.i).toNat)).drop 1,k:=y6.a,l:=y6.b} true) λ j25=>
 br (y3.a == 2) (
 br (y3.b == [115,99,114,105,112,116]) (
 F25 _ n5 1 (wi ((nL p.k) - 1)) λ b19=>
 br b19 (
 c0 n5 <|
 ix6 p.k n5.toNat λ y20=>
 br (y20.a == [115,99,114,105,112,116]) (
 i0i _ {y1 with i:=(y1.i.take ((nL y1.i).toNat)).drop 1,k:=y6.a,l:=y6.b} n5 λ y23=>
 k y23 true) (
 j25)) (
 j25)) (
 j25)) (
 j25)) λ j26=>
 br (y3.a == 1) (
 br (decide (n7 ≥ 0)) (
 k0b _ {y1 with i:=(y1.i.take ((nL y1.i).toNat)).drop 1,k:=y6.a,l:=y6.b} y3 n7 λ y10=>
 j18 y10) (
 j26)) (
 j26)) λ j27=>
 br (decide ((nL p.l) > 0)) (
 c0 (wi ((nL p.l) - 1)) <|
 ix1 p.l ((wi ((nL p.l) - 1)).toNat) λ n4=>
 j27 n4) (
 j27 (-1))) λ j28=>
 br ((nL p.i) == 0) (
 k y1 false) (
 br (p.p != 0) (
 k y1 false) (
 br (p.q != 0) (
 k y1 false) (
 j28)))
def l1l:y0q:=e2r F45 l1u k0b F25 i0i
def e2g (F:y0q):GT:=λ β s k=>F β (rd9 s 0) (λ y1 y2=>k (.tup [w20 y1,.bool y2]))
abbrev c2h (F:y0q):WT:=WU z32 (e2g F)
theorem z2u (F45:T45)(l1u:v1r)(k0b:s0b)(F25:T25)(i0i:s0c):KU [(45,W45 F45),(138,q2r l1u),(139,ioW (q1m k0b)),(25,W25 F25),(140,ioW (q1n i0i))] noX 109 Tryz.f109 z32 (e2g (e2r F45 l1u k0b F25 i0i )):=λ _ _ _=>by kernel_rfl
theorem k2h:a0l D 109 (c2h l1l):=a0b Tryz.func109 (tc v0v (tc k2s (tc u1g (tc v0b (tc u1h tn))))) (z2u F45 l1u k0b F25 i0i )
def P86 (r0x:j0i)(F45:T45)(l1k:v1l)(t0x:p1y)(F25:T25)(l1l:y0q):y0q:=λ β p k=>
 br (p.q != 0) (
 r0x _ p λ b1=>
 br (!b1) (
 F45 _ p λ y2=>
 k y2 false) (
 l1k _ ⟨p.k,p.l⟩ p.q λ t3=>
 t0x _ p t3 true λ y4=>
 k {y4 with q:=0} true)) (
 br (p.p != 0) (
 F25 _ (wi (p.p - 1)) 0 (wi ((nL p.m) - 1)) λ b5=>
 br (!b5) (
 F45 _ p λ y6=>
 k {y6 with p:=0} true) (
 jt0 (F45 _ p λ y13=>
 c0 (wi (p.p - 1)) <|
 ix8 p.m ((wi (p.p - 1)).toNat) λ y14=>
 br (y14.g == 1) (
 c0 (wi (p.p - 1)) <|
 ix8 p.m ((wi (p.p - 1)).toNat) λ y15=>
 t0x _ p y15.h true λ y16=>
 k {y16 with p:=0} true) (
 k {y13 with p:=0} true)) λ j17=>
 c0 (wi (p.p - 1)) <|
 ix8 p.m ((wi (p.p - 1)).toNat) λ y7=>
 br (!y7.f) (
 F45 _ p λ y11=>
 k y11 false) (
 r0x _ p λ b8=>
 br (!b8) (
 F45 _ p λ y12=>
 k y12 false) (
 j17)))) (
 l1l _ p λ y18 b19=>
 k y18 b19))
def F86:y0q:=P86 r0x F45 l1k t0x F25 l1l
theorem k86 (r0x:j0i)(F45:T45)(l1k:v1l)(t0x:p1y)(F25:T25)(l1l:y0q):KU [(106,y0r r0x),(45,W45 F45),(108,q2m l1k),(107,h2a t0x),(25,W25 F25),(109,c2h l1l)] noX 86 Tryz.f86 z32 (e2g (P86 r0x F45 l1k t0x F25 l1l )):=λ _ _ _=>by kernel_rfl
theorem d3i:a0l D 86 (c2h F86):=a0b Tryz.func86 (tc a2f (tc v0v (tc k2g (tc a2g (tc v0b (tc k2h tn)))))) (k86 r0x F45 l1k t0x F25 l1l )
def e2s:j0i:=λ β p k=>
 br p.j (
 br ((nL p.i) == 0) (
 br (p.p == 0) (
 k (p.q == 0)) (
 k false)) (
 k false)) (
 k false)
def l1m:j0i:=e2s
theorem z2v:KU [] noX 110 Tryz.f110 z32 (r1q (e2s )):=λ _ _ _=>by kernel_rfl
theorem k2i:a0l D 110 (y0r l1m):=a0b Tryz.func110 tn (z2v )
def e2t:k0g:=λ β p k=>
 whl s1y (λ x1=>
 br (decide (x1.2.1 < (nL x1.2.2.m))) (
 c0 x1.2.1 <|
 ix8 x1.2.2.m x1.2.1.toNat λ y2=>
 br (y2.a == 4) (
 ca x1.1 ([.int .i64 x1.2.1]:LV) 8 <|
 some (.inl (u0k (x1.1++([.int .i64 x1.2.1]:LV),wi (x1.2.1+1),x1.2.2)))) (
 some (.inl (u0k (x1.1,wi (x1.2.1+1),x1.2.2))))) (
 some (.inr (0,eS8 x1.1)))) (u0k ([],0,p)) λ r5=>
 wx dS8 r5.2 λ x6=>
 k x6
def l1n:k0g:=e2t
def h2m:a0y:=λ i=>b0c i [] [(3,[(.exit 0,xk 25 [(3,.own 1000000 1 .flat [])] [])])]
def c2f (F:k0g):GT:=λ β s k=>F β (rd9 s 0) (λ y1=>k (.own 0 1 .flat y1))
abbrev q1i (F:k0g):WT:=WU z32 (c2f F)
theorem z2w:KU [] h2m 111 Tryz.f111 z32 (c2f (e2t )):=λ _ _ _=>by kernel_rfl
theorem k2j:a0l D 111 (q1i l1n):=a0b Tryz.func111 tn (z2w )
abbrev q1f:Type 1:=(β:Type)→LV→U6→(Bool→Option β)→Option β
def f2u:q1f:=λ β l a k=>
 whl s2q (λ x1=>
 br (decide (x1.2.1 < (nL x1.1))) (
 c0 x1.2.1 <|
 ix7 x1.1 x1.2.1.toNat λ y2=>
 br (q0 y2 x1.2.2) (
 some (.inr (1,s0l true))) (
 some (.inl (i2t (x1.1,wi (x1.2.1+1),x1.2.2))))) (
 some (.inr (0,[])))) (i2t (l,0,a)) λ r3=>
 if r3.1=0 then
 k false
 else
 wx b1w r3.2 λ x4=>
 k x4
def v0t:q1f:=f2u
def p2m (F:q1f):GT:=λ β s k=>F β (lL s 0) (rd6 s 1) (λ y1=>k (.bool y1))
abbrev h2j (F:q1f):WT:=WU z58 (p2m F)
theorem a3t:KU [] r2l 144 Tryz.f144 z58 (p2m (f2u )):=λ _ _ _=>by kernel_rfl
theorem a2q:a0l D 144 (h2j v0t):=a0b Tryz.func144 tn (a3t )
abbrev f1t:Type 1:=(β:Type)→U9→U6→(Int→Option β)→Option β
def e2x:f1t:=λ β p a k=>
 whl s2r (λ x1=>
 br (decide (x1.1 < (nL x1.2.1.n))) (
 c0 x1.1 <|
 q0a x1.2.1.n x1.1.toNat λ y2=>
 br (q0 ⟨y2.a,y2.b⟩ x1.2.2) (
 some (.inr (1,y0s x1.1))) (
 some (.inl (i2u (wi (x1.1+1),x1.2.1,x1.2.2))))) (
 some (.inr (0,[])))) (i2u (0,p,a)) λ r3=>
 if r3.1=0 then
 k (-1)
 else
 wx q1w r3.2 λ x4=>
 k x4
def k0l:f1t:=e2x
def o2t (F:f1t):GT:=λ β s k=>F β (rd9 s 0) (rd6 s 22) (λ y1=>k (.int .i64 y1))
abbrev x1n (F:f1t):WT:=WU z56 (o2t F)
theorem a3a:KU [] X96 116 Tryz.f116 z56 (o2t (e2x )):=λ _ _ _=>by kernel_rfl
theorem o1j:a0l D 116 (x1n k0l):=a0b Tryz.func116 tn (a3a )
abbrev T79:Type 1:=(β:Type)→Int→Int→(Int→Option β)→Option β
def P79:T79:=λ β a b k=>
 br (decide (b < a)) (
 k b) (
 k a)
def F79:T79:=P79
def G79 (F:T79):GT:=λ β s k=>F β (lI s 0) (lI s 1) (λ y1=>k (.int .i64 y1))
abbrev W79 (F:T79):WT:=WU z59 (G79 F)
theorem k79:KU [] noX 79 Tryz.f79 z59 (G79 (P79 )):=λ _ _ _=>by kernel_rfl
theorem u2m:a0l D 79 (W79 F79):=a0b Tryz.func79 tn (k79 )
abbrev q1g:Type 1:=(β:Type)→LU→LU→(LV→LV→Bool→Option β)→Option β
def f2v (v0s:q1b)(o0q:m1y)(F79:T79)(w0c:q1d):q1g:=λ β body base k=>
 whl s2s (λ x1=>
 jt0 (v0s _ x1.2.2 59 λ n3=>
 cc 7 n3 (nS x1.2.2) <|
 o0q _ ((x1.2.2.take n3.toNat).drop 7) x1.1 λ y4 b5=>
 br (!b5) (
 some (.inr (1,t2r ([],[],false,x1.2.1,x1.2.2)))) (
 ca x1.2.1 ([w2 y4]:LV) 32 <|
 F79 _ (nS x1.2.2) (wi (n3+1)) λ n6=>
 cc n6 (nS x1.2.2) (nS x1.2.2) <|
 some (.inl (i2v (x1.1,x1.2.1++([w2 y4]:LV),(x1.2.2.take ((nS x1.2.2).toNat)).drop n6.toNat))))) λ j7=>
 br (decide ((nS x1.2.2) ≥ 7)) (
 cc 0 7 (nS x1.2.2) <|
 br ((x1.2.2.take 7).drop 0 == [105,109,112,111,114,116,32]) (
 j7) (
 some (.inr (0,q1y (x1.2.1,x1.2.2))))) (
 some (.inr (0,q1y (x1.2.1,x1.2.2))))) (i2v (base,[],body)) λ r8=>
 if r8.1=0 then
 wx s2e r8.2 λ x9=>
 w0c _ x9.2 λ l11 b12=>
 br (!b12) (
 k [] [] false) (
 k x9.1 l11 true)
 else
 wx y2b r8.2 λ x10=>
 k x10.1 x10.2.1 x10.2.2.1
def w0f:q1g:=f2v v0s o0q F79 w0c
def w2y:a0y:=λ i=>b0c i [] [(3,[(.exit 0,xk 60 [(7,.own 1000000 2 .flat []),(8,.str [])] []),(.ret,xk 60 [(4,.own 1000000 2 .flat []),(5,.own 1000001 2 .flat []),(6,.bool false),(7,.own 1000002 2 .flat []),(8,.str [])] [])])]
def p2n (F:q1g):GT:=λ β s k=>F β (lS s 0) (lS s 1) (λ y1 y2 y3=>k (.tup [.own 0 2 .flat y1,.own 1 2 .flat y2,.bool y3]))
abbrev h2k (F:q1g):WT:=WU z46 (p2n F)
theorem a3u (v0s:q1b)(o0q:m1y)(F79:T79)(w0c:q1d):KU [(129,h2f v0s),(164,c2p o0q),(79,W79 F79),(134,h2g w0c)] w2y 145 Tryz.f145 z46 (p2n (f2v v0s o0q F79 w0c )):=λ _ _ _=>by kernel_rfl
theorem a2r:a0l D 145 (h2k w0f):=a0b Tryz.func145 (tc a2l (tc u1p (tc u2m (tc a2n tn)))) (a3u v0s o0q F79 w0c )
abbrev m1t:Type 1:=(β:Type)→U9→U6→(LV→Bool→Option β)→Option β
def f2a (k0l:f1t)(w0f:q1g):m1t:=λ β p a k=>
 k0l _ p a λ n1=>
 jt0 (c0 n1 <|
 q0a p.n n1.toNat λ y5=>
 w0f _ y5.e a.a λ l6 l7 b8=>
 k l6 b8) λ j9=>
 br (decide (n1 < 0)) (
 k [] false) (
 c0 n1 <|
 q0a p.n n1.toNat λ y2=>
 br (!y2.c) (
 k [] false) (
 c0 n1 <|
 q0a p.n n1.toNat λ y3=>
 br (y3.d != 1) (
 k [] false) (
 j9)))
def o0e:m1t:=f2a k0l w0f
def o2w (F:m1t):GT:=λ β s k=>F β (rd9 s 0) (rd6 s 22) (λ y1 y2=>k (.tup [.own 0 2 .flat y1,.bool y2]))
abbrev c2k (F:m1t):WT:=WU z56 (o2w F)
theorem a3d (k0l:f1t)(w0f:q1g):KU [(116,x1n k0l),(145,h2k w0f)] noX 119 Tryz.f119 z56 (o2w (f2a k0l w0f )):=λ _ _ _=>by kernel_rfl
theorem u1c:a0l D 119 (c2k o0e):=a0b Tryz.func119 (tc o1j (tc a2r tn)) (a3d k0l w0f )
abbrev l0g:Type 1:=(β:Type)→U9→U6→LV→LV→(LV→LV→Option β)→Option β
def b1m (v0t:q1f)(o0e:m1t)(g0o:l0g):l0g:=λ β p a seen order k=>
 v0t _ seen a λ b1=>
 br b1 (
 k seen order) (
 ca ([]:LV) seen 32 <|
 ca (([]:LV)++seen) ([w2 a]:LV) 32 <|
 o0e _ p a λ l2 b3=>
 whl s2t (λ x4=>
 br (decide (x4.2.2.2.1 < (nL x4.2.2.1))) (
 ci x4.2.2.2.1 x4.2.2.1 <|
 ia4 x4.2.2.1 x4.2.2.2.1.toNat 0 λ y5=>
 g0o _ x4.2.2.2.2.1 y5 x4.1 x4.2.1 λ l6 l7=>
 some (.inl (i2w (l6,l7,x4.2.2.1,wi (x4.2.2.2.1+1),x4.2.2.2.2.1,x4.2.2.2.2.2)))) (
 some (.inr (0,t2s (x4.1,x4.2.1,x4.2.2.2.2.2))))) (i2w ((([]:LV)++seen)++([w2 a]:LV),order,l2,0,p,a)) λ r8=>
 wx y2c r8.2 λ x9=>
 ca ([]:LV) x9.2.1 32 <|
 ca (([]:LV)++x9.2.1) ([w2 x9.2.2]:LV) 32 <|
 k x9.1 ((([]:LV)++x9.2.1)++([w2 x9.2.2]:LV)))
def p0a:Nat→l0g
 | 0=>λ _ _ _ _ _ _=>none
 | n+1=>b1m v0t o0e (p0a n)
def g0o:l0g:=p0a 1099511627776
def y1g:a0y:=λ i=>b0c i [] [(6,[(.exit 0,xk 54 [(2,.own 1000000 2 .flat []),(3,.own 1000001 2 .flat []),(5,.ptr 5 0)] [(5,.agg [.str [],.str []])])])]
def p1v (F:l0g):GT:=λ β s k=>F β (rd9 s 0) (rd6 s 22) (lL s 24) (lL s 25) (λ y1 y2=>k (.tup [.own 0 2 .flat y1,.own 1 2 .flat y2]))
abbrev b1o (F:l0g):WT:=WU z60 (p1v F)
theorem z1s (v0t:q1f)(o0e:m1t)(g0o:l0g):KI [(144,h2j v0t),(119,c2k o0e),(163,ioW (b1o g0o))] y1g 163 ⟨[.data,.data,.mv,.mv],54,0,false⟩ Tryz.f163 z60 (p1v (b1m v0t o0e g0o)):=λ _ _ _=>by kernel_rfl
theorem c1l:∀ n,a0l D 163 (ioW (b1o (p0a n)))
 | 0=>n1x (λ β args k=>by
 show (if _ then _ else none)=none
 split <;> rfl)
 | n+1=>a0x Tryz.func163 (tc a2q (tc u1c (tc (c1l n) tn))) (z1s v0t o0e (p0a n))
theorem u1o:a0l D 163 (ioW (b1o g0o)):=c1l _
abbrev m1v:Type 1:=(β:Type)→U9→U6→(LV→Option β)→Option β
def f2r (g0o:l0g):m1v:=λ β p a k=>
 g0o _ p a [] [] λ l1 l2=>
 k l2
def n0h:m1v:=f2r g0o
def p2k (F:m1v):GT:=λ β s k=>F β (rd9 s 0) (rd6 s 22) (λ y1=>k (.own 0 2 .flat y1))
abbrev c2m (F:m1v):WT:=WU z56 (p2k F)
theorem a3q (g0o:l0g):KU [(163,ioW (b1o g0o))] noX 141 Tryz.f141 z56 (p2k (f2r g0o )):=λ _ _ _=>by kernel_rfl
theorem u1i:a0l D 141 (c2m n0h):=a0b Tryz.func141 (tc u1o tn) (a3q g0o )
abbrev m1r:Type 1:=(β:Type)→U9→U6→(Bool→Option β)→Option β
def e2u (n0h:m1v)(k0l:f1t):m1r:=λ β p a k=>
 n0h _ p a λ l1=>
 whl s1y (λ x2=>
 br (decide (x2.2.1 < (nL x2.1))) (
 ci x2.2.1 x2.1 <|
 ia4 x2.1 x2.2.1.toNat 0 λ y3=>
 k0l _ x2.2.2 y3 λ n4=>
 br (decide (n4 < 0)) (
 some (.inr (1,s0l false))) (
 c0 n4 <|
 q0a x2.2.2.n n4.toNat λ y5=>
 br (!y5.c) (
 some (.inr (1,s0l false))) (
 some (.inl (u0k (x2.1,wi (x2.2.1+1),x2.2.2)))))) (
 some (.inr (0,[])))) (u0k (l1,0,p)) λ r7=>
 if r7.1=0 then
 k true
 else
 wx b1w r7.2 λ x8=>
 k x8
def l1o:m1r:=e2u n0h k0l
def w2n:a0y:=λ i=>b0c i [] [(3,[(.exit 0,xk 34 [] []),(.ret,xk 34 [(4,.bool false)] [])])]
def e2h (F:m1r):GT:=λ β s k=>F β (rd9 s 0) (rd6 s 22) (λ y1=>k (.bool y1))
abbrev c2i (F:m1r):WT:=WU z56 (e2h F)
theorem z2x (n0h:m1v)(k0l:f1t):KU [(141,c2m n0h),(116,x1n k0l)] w2n 112 Tryz.f112 z56 (e2h (e2u n0h k0l )):=λ _ _ _=>by kernel_rfl
theorem k2k:a0l D 112 (c2i l1o):=a0b Tryz.func112 (tc u1i (tc o1j tn)) (z2x n0h k0l )
def f2s (n0h:m1v)(o0e:m1t):m1r:=λ β p a k=>
 n0h _ p a λ l1=>
 whl s1y (λ x2=>
 br (decide (x2.2.1 < (nL x2.1))) (
 ci x2.2.1 x2.1 <|
 ia4 x2.1 x2.2.1.toNat 0 λ y3=>
 o0e _ x2.2.2 y3 λ l4 b5=>
 br (!b5) (
 some (.inr (1,s0l true))) (
 some (.inl (u0k (x2.1,wi (x2.2.1+1),x2.2.2))))) (
 some (.inr (0,[])))) (u0k (l1,0,p)) λ r6=>
 if r6.1=0 then
 k false
 else
 wx b1w r6.2 λ x7=>
 k x7
def l1v:m1r:=f2s n0h o0e
def w2x:a0y:=λ i=>b0c i [] [(3,[(.exit 0,xk 29 [] []),(.ret,xk 29 [(4,.bool false)] [])])]
theorem a3r (n0h:m1v)(o0e:m1t):KU [(141,c2m n0h),(119,c2k o0e)] w2x 142 Tryz.f142 z56 (e2h (f2s n0h o0e )):=λ _ _ _=>by kernel_rfl
theorem k2t:a0l D 142 (c2i l1v):=a0b Tryz.func142 (tc u1i (tc u1c tn)) (a3r n0h o0e )
abbrev v1s:Type 1:=(β:Type)→U6→(LU→Option β)→Option β
def f2t (k0m:f1v):v1s:=λ β a k=>
 k0m _ a λ b1=>
 br (!b1) (
 k []) (
 cs a.a ([47]:LU) <|
 cs (a.a++[47]) a.b <|
 k ((a.a++[47])++a.b))
def l1w:v1s:=f2t k0m
def p2l (F:v1s):GT:=λ β s k=>F β (rd6 s 0) (λ y1=>k (.str y1))
abbrev q2s (F:v1s):WT:=WU z25 (p2l F)
theorem a3s (k0m:f1v):KU [(132,x1q k0m)] noX 143 Tryz.f143 z25 (p2l (f2t k0m )):=λ _ _ _=>by kernel_rfl
theorem k2u:a0l D 143 (q2s l1w):=a0b Tryz.func143 (tc o1k tn) (a3s k0m )
def g1h:T82:=λ β p s k=>
 br (decide ((nL p.u) < 40)) (
 ca p.u ([.str s]:LV) 16 <|
 k {p with u:=p.u++([.str s]:LV)}) (
 k p)
def e0k:T82:=g1h
def p1q (F:T82):GT:=λ β s k=>F β (rd9 s 0) (lS s 22) (λ y1=>k (.tup [w17 y1]))
abbrev g1v (F:T82):WT:=WU z61 (p1q F)
theorem z1k:KI [] noX 114 ⟨[.mv,.data],16,0,false⟩ Tryz.f114 z61 (p1q (g1h )):=λ _ _ _=>by kernel_rfl
theorem j1w:a0l D 114 (ioW (g1v e0k)):=a0x Tryz.func114 tn (z1k )
def e2v (F45:T45)(l1v:m1r)(l1w:v1s)(e0k:T82)(n0h:m1v)(v0t:q1f)(k0l:f1t)(w0f:q1g)(w0e:k0g)(w0d:q1e):f1u:=λ β p a k=>
 F45 _ p λ y1=>
 l1v _ p a λ b2=>
 br b2 (
 l1w _ a λ t3=>
 cs ([102,97,105,108,32]:LU) t3 <|
 e0k _ y1 ([102,97,105,108,32]++t3) λ y4=>
 k y4) (
 n0h _ p a λ l5=>
 whl c2x (λ x6=>
 br (decide (x6.2.1 < (nL x6.1))) (
 ci x6.2.1 x6.1 <|
 ia4 x6.1 x6.2.1.toNat 0 λ y7=>
 v0t _ x6.2.2.2.2.2.2.2.2.2.2.2.2.2.t y7 λ b8=>
 br b8 (
 some (.inl (r1a (x6.1,wi (x6.2.1+1),x6.2.2.1,x6.2.2.2.1,x6.2.2.2.2.1,x6.2.2.2.2.2.1,x6.2.2.2.2.2.2.1,x6.2.2.2.2.2.2.2.1,x6.2.2.2.2.2.2.2.2.1,x6.2.2.2.2.2.2.2.2.2.1,x6.2.2.2.2.2.2.2.2.2.2.1,x6.2.2.2.2.2.2.2.2.2.2.2.1,x6.2.2.2.2.2.2.2.2.2.2.2.2.1,x6.2.2.2.2.2.2.2.2.2.2.2.2.2)))) (
 ci x6.2.1 x6.1 <|
 ia4 x6.1 x6.2.1.toNat 0 λ y9=>
 ca x6.2.2.2.2.2.2.2.2.2.2.2.2.2.t ([w2 y9]:LV) 32 <|
 ci x6.2.1 x6.1 <|
 ia4 x6.1 x6.2.1.toNat 0 λ y10=>
 k0l _ {x6.2.2.2.2.2.2.2.2.2.2.2.2.2 with t:=x6.2.2.2.2.2.2.2.2.2.2.2.2.2.t++([w2 y9]:LV)} y10 λ n11=>
 ci n11 x6.2.2.2.2.2.2.2.2.2.2.2.2.2.n <|
 ia0 x6.2.2.2.2.2.2.2.2.2.2.2.2.2.n n11.toNat 4 λ t12=>
 ci x6.2.1 x6.1 <|
 ia0 x6.1 x6.2.1.toNat 0 λ t13=>
 w0f _ t12 t13 λ l14 l15 b16=>
 w0e _ {x6.2.2.2.2.2.2.2.2.2.2.2.2.2 with t:=x6.2.2.2.2.2.2.2.2.2.2.2.2.2.t++([w2 y9]:LV)} λ l17=>
 w0d _ ⟨x6.2.2.2.2.2.2.2.2.2.2.2.2.2.k,x6.2.2.2.2.2.2.2.2.2.2.2.2.2.l⟩ l17 l15 λ y18 t19 l20=>
 whl s2u (λ x21=>
 br (decide (x21.2.2.2.1 < (nL x21.2.2.1))) (
 ci x21.2.2.2.1 x21.2.2.1 <|
 ia0 x21.2.2.1 x21.2.2.2.1.toNat 0 λ t22=>
 e0k _ x21.2.2.2.2.2.2.2.2.2.2.2.2.2.2.2 t22 λ y23=>
 some (.inl (i2x (x21.1,x21.2.1,x21.2.2.1,wi (x21.2.2.2.1+1),x21.2.2.2.2.1,x21.2.2.2.2.2.1,x21.2.2.2.2.2.2.1,x21.2.2.2.2.2.2.2.1,x21.2.2.2.2.2.2.2.2.1,x21.2.2.2.2.2.2.2.2.2.1,x21.2.2.2.2.2.2.2.2.2.2.1,x21.2.2.2.2.2.2.2.2.2.2.2.1,x21.2.2.2.2.2.2.2.2.2.2.2.2.1,x21.2.2.2.2.2.2.2.2.2.2.2.2.2.1,x21.2.2.2.2.2.2.2.2.2.2.2.2.2.2.1,y23)))) (
 some (.inr (0,r1a (x21.1,x21.2.1,x21.2.2.2.2.1,x21.2.2.2.2.2.1,x21.2.2.2.2.2.2.1,x21.2.2.2.2.2.2.2.1,x21.2.2.2.2.2.2.2.2.1,x21.2.2.2.2.2.2.2.2.2.1,x21.2.2.2.2.2.2.2.2.2.2.1,x21.2.2.2.2.2.2.2.2.2.2.2.1,x21.2.2.2.2.2.2.2.2.2.2.2.2.1,x21.2.2.2.2.2.2.2.2.2.2.2.2.2.1,x21.2.2.2.2.2.2.2.2.2.2.2.2.2.2.1,x21.2.2.2.2.2.2.2.2.2.2.2.2.2.2.2))))) (i2x (x6.1,x6.2.1,l20,0,x6.2.2.1,x6.2.2.2.1,x6.2.2.2.2.1,x6.2.2.2.2.2.1,x6.2.2.2.2.2.2.1,x6.2.2.2.2.2.2.2.1,x6.2.2.2.2.2.2.2.2.1,x6.2.2.2.2.2.2.2.2.2.1,x6.2.2.2.2.2.2.2.2.2.2.1,x6.2.2.2.2.2.2.2.2.2.2.2.1,x6.2.2.2.2.2.2.2.2.2.2.2.2.1,{x6.2.2.2.2.2.2.2.2.2.2.2.2.2 with k:=y18.a,l:=y18.b,t:=x6.2.2.2.2.2.2.2.2.2.2.2.2.2.t++([w2 y9]:LV)})) λ r24=>
 wx c2x r24.2 λ x25=>
 some (.inl (r1a (x25.1,wi (x25.2.1+1),x25.2.2.1,x25.2.2.2.1,x25.2.2.2.2.1,x25.2.2.2.2.2.1,x25.2.2.2.2.2.2.1,x25.2.2.2.2.2.2.2.1,x25.2.2.2.2.2.2.2.2.1,x25.2.2.2.2.2.2.2.2.2.1,x25.2.2.2.2.2.2.2.2.2.2.1,x25.2.2.2.2.2.2.2.2.2.2.2.1,x25.2.2.2.2.2.2.2.2.2.2.2.2.1,x25.2.2.2.2.2.2.2.2.2.2.2.2.2))))) (
 some (.inr (0,q1z (x6.2.2.1,x6.2.2.2.1,x6.2.2.2.2.1,x6.2.2.2.2.2.1,x6.2.2.2.2.2.2.1,x6.2.2.2.2.2.2.2.1,x6.2.2.2.2.2.2.2.2.1,x6.2.2.2.2.2.2.2.2.2.1,x6.2.2.2.2.2.2.2.2.2.2.1,x6.2.2.2.2.2.2.2.2.2.2.2.1,x6.2.2.2.2.2.2.2.2.2.2.2.2.1,x6.2.2.2.2.2.2.2.2.2.2.2.2.2))))) (r1a (l5,0,[],[],false,[],[],false,0,0,0,0,false,y1)) λ r54=>
 wx c2w r54.2 λ x55=>
 k x55.2.2.2.2.2.2.2.2.2.2.2)
def l1p:f1u:=e2v F45 l1v l1w e0k n0h v0t k0l w0f w0e w0d
def w2o:a0y:=λ i=>b0c i [] [(6,[(.exit 0,xk 96 [(4,.ptr 4 0),(5,.ptr 5 0)] [(4,.agg [.str [],.str [],.bool false,.nil,.nil,.nil,.str [],.str [],.nil,.bool false,.nil,.nil,.nil,.nil,.nil,.int .i64 0,.int .i64 0,.int .i64 0,.int .i64 0,.nil,.nil,.bool false]),(5,.agg [.str [],.str [],.bool false,.own 1000000 1 .flat [],.own 1000001 1 .flat [],.own 1000002 1 .flat [],.str [],.str [],.own 1000003 4 .clean [],.bool false,.own 1000004 4 .clean [],.own 1000005 1 .flat [],.own 1000006 8 .flat [],.own 1000007 5 .flat [],.own 1000008 2 .flat [],.int .i64 0,.int .i64 0,.int .i64 0,.int .i64 0,.own 1000009 2 .flat [],.own 1000010 1 .flat [],.bool false])])]),(14,[(.exit 2,xk 96 [(4,.ptr 4 0),(5,.ptr 5 0),(6,.own 1000011 2 .flat []),(7,.int .i64 0)] [(4,.agg [.str [],.str [],.bool false,.nil,.nil,.nil,.str [],.str [],.nil,.bool false,.nil,.nil,.nil,.nil,.nil,.int .i64 0,.int .i64 0,.int .i64 0,.int .i64 0,.nil,.nil,.bool false]),(5,.agg [.str [],.str [],.bool false,.own 1000000 1 .flat [],.own 1000001 1 .flat [],.own 1000002 1 .flat [],.str [],.str [],.own 1000003 4 .clean [],.bool false,.own 1000004 4 .clean [],.own 1000005 1 .flat [],.own 1000006 8 .flat [],.own 1000007 5 .flat [],.own 1000008 2 .flat [],.int .i64 0,.int .i64 0,.int .i64 0,.int .i64 0,.own 1000009 2 .flat [],.own 1000010 1 .flat [],.bool false])])])]
theorem z2y (F45:T45)(l1v:m1r)(l1w:v1s)(e0k:T82)(n0h:m1v)(v0t:q1f)(k0l:f1t)(w0f:q1g)(w0e:k0g)(w0d:q1e):KU [(45,W45 F45),(142,c2i l1v),(143,q2s l1w),(114,ioW (g1v e0k)),(141,c2m n0h),(144,h2j v0t),(116,x1n k0l),(145,h2k w0f),(136,h2i w0e),(135,h2h w0d)] w2o 113 Tryz.f113 z56 (e2i (e2v F45 l1v l1w e0k n0h v0t k0l w0f w0e w0d )):=λ _ _ _=>by kernel_rfl
theorem k2l:a0l D 113 (x1o l1p):=a0b Tryz.func113 (tc v0v (tc k2t (tc k2u (tc j1w (tc u1i (tc a2q (tc o1j (tc a2r (tc a2p (tc a2o tn)))))))))) (z2y F45 l1v l1w e0k n0h v0t k0l w0f w0e w0d )
end
end Go.Am
end
section
set_option linter.unusedVariables false
set_option linter.unusedSimpArgs false
namespace Go.Am
open Go
universe u
abbrev An {A:Type}(G:∀ β:Type,(A→Option β)→Option β)(Q:A→Prop):Prop:=∃ a,Q a ∧ ∀ β k,G β k=k a
abbrev An2 {A B:Type}(G:∀ β:Type,(A→B→Option β)→Option β)(Q:A→B→Prop):Prop:=∃ a b,Q a b ∧ ∀ β k,G β k=k a b
abbrev An3 {A B D:Type}(G:∀ β:Type,(A→B→D→Option β)→Option β)(Q:A→B→D→Prop):Prop:=∃ a b d,Q a b d ∧ ∀ β k,G β k=k a b d
section
variable {C:Type u}{T:C→Type}{R A B D E:Type}{Y:∀ c,R→Option (T c)}{Q:R→Prop}
def Tg (X:∀ c,Option (T c))(Y:∀ c,R→Option (T c))(Q:R→Prop):Prop:=∃ r,Q r ∧ ∀ c,X c=Y c r
theorem f3v {r:R}(h:Q r):Tg (λ c=>Y c r) Y Q:=⟨r,h,λ _=>rfl⟩
theorem Tg.mono {X:∀ c,Option (T c)}{Q1:R→Prop}(h:Tg X Y Q1)(h2:∀ r,Q1 r→Q r):Tg X Y Q:=by
 obtain ⟨r,h1,h3⟩:=h
 exact ⟨r,h2 r h1,h3⟩
theorem f3l {G:∀ β:Type,(A→Option β)→Option β}{X:A → ∀ c,Option (T c)}{Q1:A→Prop}(h:An G Q1)(h2:∀ a,Q1 a→Tg (X a) Y Q):Tg (λ c=>G (T c) (λ a=>X a c)) Y Q:=by
 obtain ⟨a,h1,h3⟩:=h
 simp only [h3]
 exact h2 a h1
theorem f3i {G:∀ β:Type,(A→B→Option β)→Option β}{X:A→B → ∀ c,Option (T c)}{Q1:A→B→Prop}(h:An2 G Q1)(h2:∀ a b,Q1 a b→Tg (X a b) Y Q):Tg (λ c=>G (T c) (λ a b=>X a b c)) Y Q:=by
 obtain ⟨a,b,h1,h3⟩:=h
 simp only [h3]
 exact h2 a b h1
theorem f3h {G:∀ β:Type,(A→B→D→Option β)→Option β}{X:A→B→D → ∀ c,Option (T c)}{Q1:A→B→D→Prop}(h:An3 G Q1)(h2:∀ a b d,Q1 a b d→Tg (X a b d) Y Q):Tg (λ c=>G (T c) (λ a b d=>X a b d c)) Y Q:=by
 obtain ⟨a,b,d,h1,h3⟩:=h
 simp only [h3]
 exact h2 a b d h1
theorem g3f {b:Bool}{X Z:∀ c,Option (T c)}(h1:b=true→Tg X Y Q)(h2:b=false→Tg Z Y Q):Tg (λ c=>br b (X c) (Z c)) Y Q:=by
 cases b
 ·exact h2 rfl
 ·exact h1 rfl
theorem f3t {p:Prop}{d:Decidable p}{X Z:∀ c,Option (T c)}(h1:p→Tg X Y Q)(h2:¬ p→Tg Z Y Q):Tg (λ c=>Go.Am.br (@decide p d) (X c) (Z c)) Y Q:=g3f (λ e=>h1 (of_decide_eq_true e)) (λ e=>h2 (of_decide_eq_false e))
theorem f3r {a:Int}{s:LU}{d:Decidable (a < nS s)}{X Z:∀ c,Option (T c)}(h1:a < s.length→Tg X Y Q)(h2:(s.length:Int)≤a→Tg Z Y Q):Tg (λ c=>Go.Am.br (@decide (a < nS s) d) (X c) (Z c)) Y Q:=f3t h1 λ h=>h2 (Int.not_lt.1 h)
theorem f3u {a:Int}{s:LV}{d:Decidable (a < nL s)}{X Z:∀ c,Option (T c)}(h1:a < s.length→Tg X Y Q)(h2:(s.length:Int)≤a→Tg Z Y Q):Tg (λ c=>Go.Am.br (@decide (a < nL s) d) (X c) (Z c)) Y Q:=f3t h1 λ h=>h2 (Int.not_lt.1 h)
theorem f3w {p:Prop}{d:Decidable p}{X Z:∀ c,Option (T c)}(h1:p→Tg X Y Q)(h2:¬ p→Tg Z Y Q):Tg (λ c=>@ite _ p d (X c) (Z c)) Y Q:=by
 by_cases hp:p
 ·simp only [if_pos hp]; exact h1 hp
 ·simp only [if_neg hp]; exact h2 hp
theorem f3s {p:Prop}{d:Decidable p}{X:∀ c,Option (T c)}(hp:p)(h:Tg X Y Q):Tg (λ c=>@Go.Am.chk _ p d (X c)) Y Q:=by
 unfold Go.Am.chk
 simp only [if_pos hp]
 exact h
theorem g3b {n:Int}{X:∀ c,Option (T c)}(hp:0≤n)(h:Tg X Y Q):Tg (λ c=>c0 n (X c)) Y Q:=f3s hp h
theorem f3x {n:Int}{l:LV}{X:∀ c,Option (T c)}(hp:0≤n∧n.toNat < l.length)(h:Tg X Y Q):Tg (λ c=>ci n l (X c)) Y Q:=f3s hp h
theorem g3k {a b n:Int}{X:∀ c,Option (T c)}(hp:0≤a∧a≤b∧b≤n)(h:Tg X Y Q):Tg (λ c=>cc a b n (X c)) Y Q:=f3s hp h
theorem g3d {a b:LU}{X:∀ c,Option (T c)}(hp:a.length+b.length≤9223372036854775807)(h:Tg X Y Q):Tg (λ c=>cs a b (X c)) Y Q:=f3s hp h
theorem g3j {a b:LV}{n:Nat}{X:∀ c,Option (T c)}(hp:(a.length+b.length) * n≤140737488355328∧a.length+b.length≤140737488355328)(h:Tg X Y Q):Tg (λ c=>ca a b n (X c)) Y Q:=f3s hp h
theorem g3g {σ:Type}{D:LL→σ}{s:LL}{x:σ}{X:σ → ∀ c,Option (T c)}(hx:D s=x)(h:Tg (X x) Y Q):Tg (λ c=>wx D s (λ x=>X x c)) Y Q:=by
 subst hx
 exact h
theorem g3c {J:∀ c,Option (T c)}{B:∀ c,Option (T c)→Option (T c)}(hJ:Tg J Y Q)(hB:∀ J':∀ c,Option (T c),Tg J' Y Q→Tg (λ c=>B c (J' c)) Y Q):Tg (λ c=>jt0 (J c) (B c)) Y Q:=hB J hJ
theorem g3h {J:∀ c,Option (T c)}{B:∀ c,Option (T c)→Option (T c)}(h:Tg (λ c=>B c (J c)) Y Q):Tg (λ c=>jt0 (J c) (B c)) Y Q:=h
theorem f3z {J:∀ c,A→Option (T c)}{B:∀ c,(A→Option (T c))→Option (T c)}(h:Tg (λ c=>B c (J c)) Y Q):Tg (λ c=>jt1 (J c) (B c)) Y Q:=h
theorem f3y (PJ:A→Prop){J:A → ∀ c,Option (T c)}{B:∀ c,(A→Option (T c))→Option (T c)}(hJ:∀ a,PJ a→Tg (J a) Y Q)(hB:∀ J':A → ∀ c,Option (T c),(∀ a,PJ a→Tg (J' a) Y Q)→Tg (λ c=>B c (λ a=>J' a c)) Y Q):Tg (λ c=>jt1 (λ a=>J a c) (B c)) Y Q:=hB J hJ
theorem g3i (PJ:A→E→Prop){J:A→E → ∀ c,Option (T c)}{B:∀ c,(A→E→Option (T c))→Option (T c)}(hJ:∀ a e,PJ a e→Tg (J a e) Y Q)(hB:∀ J':A→E → ∀ c,Option (T c),(∀ a e,PJ a e→Tg (J' a e) Y Q)→Tg (λ c=>B c (λ a e=>J' a e c)) Y Q):Tg (λ c=>jt2 (λ a e=>J a e c) (B c)) Y Q:=hB J hJ
theorem f3o {X Z:∀ c,Option (T c)}{l:LL}(h:Tg X Y Q):Tg (λ c=>if (0,l).1=0 then X c else Z c) Y Q:=f3w (λ _=>h) (λ h=>absurd rfl h)
theorem f3m {X Z:∀ c,Option (T c)}{l:LL}{n:Nat}(h:Tg Z Y Q):Tg (λ c=>if (n+1,l).1=0 then X c else Z c) Y Q:=f3w (λ h=>absurd h (Nat.succ_ne_zero _)) (λ _=>h)
end
theorem b0m (s:LU):nS s=(s.length:Int):=rfl
theorem a0t (l:LV):nL l=(l.length:Int):=rfl
section
variable {A B D:Type}
theorem g3e {G:∀ β:Type,(A→Option β)→Option β}{Q:A→Prop}(h:Tg (C:=Σ β:Type,A→Option β) (T:=λ c=>c.1) (λ c=>G c.1 c.2) (λ c r=>c.2 r) Q):An G Q:=by
 obtain ⟨r,h1,h2⟩:=h
 exact ⟨r,h1,λ β k=>h2 ⟨β,k⟩⟩
theorem f3n {G:∀ β:Type,(A→B→Option β)→Option β}{Q:A→B→Prop}(h:Tg (C:=Σ β:Type,A→B→Option β) (T:=λ c=>c.1) (λ c=>G c.1 c.2) (λ c (r:A × B)=>c.2 r.1 r.2) (λ r=>Q r.1 r.2)):An2 G Q:=by
 obtain ⟨r,h1,h2⟩:=h
 exact ⟨r.1,r.2,h1,λ β k=>h2 ⟨β,k⟩⟩
theorem f3q {G:∀ β:Type,(A→B→D→Option β)→Option β}{Q:A→B→D→Prop}(h:Tg (C:=Σ β:Type,A→B→D→Option β) (T:=λ c=>c.1) (λ c=>G c.1 c.2) (λ c (r:A × B × D)=>c.2 r.1 r.2.1 r.2.2) (λ r=>Q r.1 r.2.1 r.2.2)):An3 G Q:=by
 obtain ⟨r,h1,h2⟩:=h
 exact ⟨r.1,r.2.1,r.2.2,h1,λ β k=>h2 ⟨β,k⟩⟩
universe v
variable {C:Type v}{T:C→Type}
theorem f3j {a:A}{b:B}{X:∀ c,A→B→Option (T c)}{Q:A × B→Prop}(h:Q (a,b)):Tg (λ c=>X c a b) (λ c (r:A × B)=>X c r.1 r.2) Q:=⟨(a,b),h,λ _=>rfl⟩
theorem f3k {a:A}{b:B}{d:D}{X:∀ c,A→B→D→Option (T c)}{Q:A × B × D→Prop}(h:Q (a,b,d)):Tg (λ c=>X c a b d) (λ c (r:A × B × D)=>X c r.1 r.2.1 r.2.2) Q:=⟨(a,b,d),h,λ _=>rfl⟩
theorem wh {σ:Type}{D:LL→σ}{e:σ→LL}(de:∀ x,D (e x)=x){step:σ→LR}{x0:σ}(Inv:σ→Prop)(m:σ→Nat){Ex:Nat × LL→Prop}(h0:Inv x0)
  (hb:∀ x,Inv x→Tg (C:=Unit) (T:=λ _=>LL ⊕ (Nat × LL)) (λ _=>step x) (λ _ z=>some z) (λ z=>match z with
   | .inl s=>∃ x',s=e x' ∧ Inv x' ∧ m x' < m x
   | .inr r=>Ex r)):An (λ _=>whl D step (e x0)) Ex:=by
 have key:∀ (n:Nat) (x:σ),m x < n→Inv x → ∃ r,Ex r∧d0y (λ s=>step (D s)) (e x)=some r:=by
  intro n
  induction n with
  | zero=>intro x h; omega
  | succ n ih=>
   intro x hm hx
   obtain ⟨z,h1,h2⟩:=hb x hx
   have h2:=h2 ()
   rw [h0z]
   simp only [de,h2]
   cases z with
   | inl s=>
    obtain ⟨x',rfl,h3,h4⟩:=h1
    exact ih x' (by omega) h3
   | inr r=>exact ⟨r,h1,rfl⟩
 obtain ⟨r,h1,h2⟩:=key _ x0 (Nat.lt_succ_self _) h0
 exact ⟨r,h1,λ β k=>by unfold whl t0w; rw [h2]⟩
theorem g3a {σ:Type}{e:σ→LL}{x':σ}{Inv:σ→Prop}{m:σ→Nat}{n:Nat}{Ex:Nat × LL→Prop}(h:Inv x')(hm:m x' < n):Tg (C:=Unit) (T:=λ _=>LL ⊕ (Nat × LL)) (λ _=>some (Sum.inl (e x'))) (λ _ z=>some z) (λ z=>match z with
   | .inl s=>∃ x',s=e x' ∧ Inv x' ∧ m x' < n
   | .inr r=>Ex r):=⟨.inl (e x'),⟨x',rfl,h,hm⟩,λ _=>rfl⟩
theorem f3p {σ:Type}{e:σ→LL}{Inv:σ→Prop}{m:σ→Nat}{n:Nat}{Ex:Nat × LL→Prop}{r:Nat × LL}(h:Ex r):Tg (C:=Unit) (T:=λ _=>LL ⊕ (Nat × LL)) (λ _=>some (Sum.inr r)) (λ _ z=>some z) (λ z=>match z with
   | .inl s=>∃ x',s=e x' ∧ Inv x' ∧ m x' < n
   | .inr r=>Ex r):=⟨.inr r,h,λ _=>rfl⟩
end
section
variable {U:Type}{w:U→V}{P P':U→Prop}{l l':LV}
def Rw (w:U→V)(P:U→Prop)(l:LV):Prop:=∀ r∈l,∃ y,P y∧r=w y
theorem Rw.nil:Rw w P []:=λ r h=>by cases h
theorem Rw.cons {y:U}(hy:P y)(h:Rw w P l):Rw w P (w y :: l):=λ r hr=>by
 rcases List.mem_cons.1 hr with rfl | hr
 ·exact ⟨y,hy,rfl⟩
 ·exact h r hr
theorem Rw.one {y:U}(hy:P y):Rw w P [w y]:=Rw.cons hy Rw.nil
theorem Rw.app (h:Rw w P l)(h':Rw w P l'):Rw w P (l++l'):=λ r hr=>(List.mem_append.1 hr).elim (h r) (h' r)
theorem Rw.take (h:Rw w P l)(n:Nat):Rw w P (l.take n):=λ r hr=>h r (List.mem_of_mem_take hr)
theorem Rw.drop (h:Rw w P l)(n:Nat):Rw w P (l.drop n):=λ r hr=>h r (List.mem_of_mem_drop hr)
theorem Rw.mono (h:Rw w P l)(hp:∀ y,P y→P' y):Rw w P' l:=λ r hr=>by
 obtain ⟨y,h1,h2⟩:=h r hr
 exact ⟨y,hp y h1,h2⟩
theorem Rw.get (h:Rw w P l){i:Nat}(hi:i < l.length):∃ y,P y∧l[i]? = some (w y):=by
 obtain ⟨y,h1,h2⟩:=h l[i] (List.getElem_mem hi)
 exact ⟨y,h1,by rw [List.getElem?_eq_getElem hi,h2]⟩
theorem Rw.ix {f:∀ {α:Type},LV→Nat→(U→Option α)→Option α}(hf:∀ (α:Type) (l:LV) (i:Nat) (y:U) (k:U→Option α),l[i]? = some (w y)→f l i k=k y)(h:Rw w P l){i:Nat}(hi:i < l.length):An (λ _=>f l i) λ y=>P y∧l[i]? = some (w y):=by
 obtain ⟨y,h1,h2⟩:=h.get hi
 exact ⟨y,⟨h1,h2⟩,λ β k=>hf β l i y k h2⟩
end
theorem g0e {α:Type}{ag:Bool}{ks:List CK}{l:LV}{i:Nat}{v:V}{e:c0k ks}{k:c0k ks→Option α}(h:l[i]? = some v)(hd:m0g ag ks v=some e):idx ag ks l i k=k e:=by
 unfold idx
 rw [h]
 simp only [Option.bind_some,hd]
theorem i0z {α:Type}{ks:List CK}{l:LV}{i o:Nat}{v:V}{e:c0k ks}{k:c0k ks→Option α}(h:l[i]? = some v)(hd:c0w ks ((v.cells.drop o).take ks.length)=some e):idxAt ks l i o k=k e:=by
 unfold idxAt
 rw [h]
 simp only [Option.bind_some,hd]
theorem l0w {s:LU}{n:Int}(h0:0≤n)(h1:n.toNat < s.length):An (λ _=>idxS s n) λ b=>0≤b∧b < 256:=by
 refine ⟨(s[n.toNat].toNat:Int),⟨Int.natCast_nonneg _,?_⟩,λ β k=>?_⟩
 ·have:=s[n.toNat].toNat_lt; omega
 ·show idxS s n k=_
  unfold idxS chk
  rw [if_pos h0,List.getElem?_eq_getElem h1]
theorem b1i {n:Int}(h:-9223372036854775808≤n∧n≤9223372036854775807):wi n=n:=by
 unfold wi
 simp [IntKind.wrap,IntKind.bits,IntKind.signed]
 omega
theorem c2c (n:Int):-9223372036854775808≤wi n∧wi n≤9223372036854775807:=by
 unfold wi
 simp [IntKind.wrap,IntKind.bits,IntKind.signed]
 omega
end Go.Am
end

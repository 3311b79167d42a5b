/-
  Functions of the program over structures, extracted by program (symu.py) out of their code: what each computes, and, by the kernel's reckoning, that the machine's looking form computes just that; so what the machine answers.
-/
import Derived.Test.YthcnbncpgloonaaGreatuAmCfg
import Derived.Test.YthcnbncpgloonaaGreatuUp0
import Derived.KernelRfl
import Derived.Test.YthcnbncpgloonaaGreatuAmT
set_option maxRecDepth 10000
set_option linter.unusedVariables false
namespace Go.Am
open Go Go.Proofs
noncomputable section
def P88:k0g:=λ β p k=>
 whl s1y (λ x1=>
 br (decide (x1.2.1 < (nL x1.2.2.m))) (
 c0 x1.2.1 <|
 ix8 x1.2.2.m x1.2.1.toNat λ y2=>
 br (!y2.f) (
 ca x1.1 ([.int .i64 x1.2.1]:LV) 8 <|
 some (.inl (u0k (x1.1++([.int .i64 x1.2.1]:LV),wi (x1.2.1+1),x1.2.2)))) (
 some (.inl (u0k (x1.1,wi (x1.2.1+1),x1.2.2))))) (
 some (.inr (0,eS8 x1.1)))) (u0k ([],0,p)) λ r5=>
 wx dS8 r5.2 λ x6=>
 k x6
def F88:k0g:=P88
theorem k88:KU [] h2m 88 Tryz.f88 z32 (c2f (P88 )):=λ _ _ _=>by kernel_rfl
theorem u2n:a0l D 88 (q1i F88):=a0b Tryz.func88 tn (k88 )
def P90:k0g:=λ β p k=>
 whl s1y (λ x1=>
 br (decide (x1.2.1 < (nL x1.2.2.n))) (
 c0 x1.2.1 <|
 q0a x1.2.2.n x1.2.1.toNat λ y2=>
 br (!y2.c) (
 ca x1.1 ([.int .i64 x1.2.1]:LV) 8 <|
 some (.inl (u0k (x1.1++([.int .i64 x1.2.1]:LV),wi (x1.2.1+1),x1.2.2)))) (
 some (.inl (u0k (x1.1,wi (x1.2.1+1),x1.2.2))))) (
 some (.inr (0,eS8 x1.1)))) (u0k ([],0,p)) λ r5=>
 wx dS8 r5.2 λ x6=>
 k x6
def F90:k0g:=P90
theorem k90:KU [] h2m 90 Tryz.f90 z32 (c2f (P90 )):=λ _ _ _=>by kernel_rfl
theorem u2o:a0l D 90 (q1i F90):=a0b Tryz.func90 tn (k90 )
def P87 (F45:T45)(l1m:j0i)(l1n:k0g)(r0x:j0i)(t0x:p1y)(l1o:m1r)(l1p:f1u)(F88:k0g)(F90:k0g)(e0k:T82):y0q:=λ β p k=>
 F45 _ p λ y1=>
 jt0 (l1n _ p λ l4=>
 br (decide (p.r < (nL l4))) (
 ci p.r l4 <|
 ia2 l4 p.r.toNat 0 λ n5=>
 jt0 (c0 n5 <|
 ix8 p.m n5.toNat λ y9=>
 br (y9.g == 1) (
 c0 n5 <|
 ix8 p.m n5.toNat λ y10=>
 t0x _ p y10.h false λ y11=>
 k {y11 with r:=wi (p.r+1)} true) (
 k {y1 with r:=wi (p.r+1)} true)) λ j12=>
 c0 n5 <|
 ix8 p.m n5.toNat λ y6=>
 br (!y6.f) (
 k y1 false) (
 r0x _ p λ b7=>
 br (!b7) (
 k y1 false) (
 j12))) (
 br (decide (p.s < (nL p.o))) (
 c0 p.s <|
 ix7 p.o p.s.toNat λ y13=>
 l1o _ p y13 λ b14=>
 br (!b14) (
 k y1 false) (
 r0x _ p λ b15=>
 br (!b15) (
 k y1 false) (
 l1p _ p y13 λ y19=>
 k {y19 with s:=wi (p.s+1)} true))) (
 jt0 (e0k _ y1 [108,111,97,100] λ y23=>
 k {y23 with v:=true} true) λ j24=>
 F88 _ p λ l20=>
 br (decide ((nL l20) > 0)) (
 k y1 false) (
 F90 _ p λ l21=>
 br (decide ((nL l21) > 0)) (
 k y1 false) (
 j24))))) λ j25=>
 l1m _ p λ b2=>
 br (!b2) (
 k y1 false) (
 br p.v (
 k y1 false) (
 br (decide (p.r < 0)) (
 k y1 false) (
 br (decide (p.s < 0)) (
 k y1 false) (
 j25))))
def F87:y0q:=P87 F45 l1m l1n r0x t0x l1o l1p F88 F90 e0k
def G87 (F:y0q):GT:=λ β s k=>F β (rd9 s 0) (λ y1 y2=>k (.tup [w17 y1,.bool y2]))
abbrev W87 (F:y0q):WT:=WU z32 (G87 F)
theorem k87 (F45:T45)(l1m:j0i)(l1n:k0g)(r0x:j0i)(t0x:p1y)(l1o:m1r)(l1p:f1u)(F88:k0g)(F90:k0g)(e0k:T82):KU [(45,W45 F45),(110,y0r l1m),(111,q1i l1n),(106,y0r r0x),(107,h2a t0x),(112,c2i l1o),(113,x1o l1p),(88,q1i F88),(90,q1i F90),(114,ioW (g1v e0k))] noX 87 Tryz.f87 z32 (G87 (P87 F45 l1m l1n r0x t0x l1o l1p F88 F90 e0k )):=λ _ _ _=>by kernel_rfl
theorem d3j:a0l D 87 (W87 F87):=a0b Tryz.func87 (tc v0v (tc k2i (tc k2j (tc a2f (tc a2g (tc k2k (tc k2l (tc u2n (tc u2o (tc j1w tn)))))))))) (k87 F45 l1m l1n r0x t0x l1o l1p F88 F90 e0k )
def P73 (F45:T45)(F86:y0q)(F87:y0q):T45:=λ β p k=>
 F45 _ p λ y1=>
 whl s2v (λ x2=>
 br (decide (x2.1 < 2000)) (
 F86 _ x2.2.2.2.2.2.2.2.2.2.2.2.2 λ y3 b4=>
 br (!b4) (
 F87 _ x2.2.2.2.2.2.2.2.2.2.2.2.2 λ y5 b6=>
 br (!b6) (
 some (.inr (1,i2y (x2.2.2.2.2.2.2.2.2.2.2.2.2,x2.2.2.2.2.2.2.2.2.2.2.2.2)))) (
 some (.inl (d2i (wi (x2.1+1),x2.2.1,x2.2.2.1,x2.2.2.2.1,x2.2.2.2.2.1,x2.2.2.2.2.2.1,x2.2.2.2.2.2.2.1,x2.2.2.2.2.2.2.2.1,x2.2.2.2.2.2.2.2.2.1,x2.2.2.2.2.2.2.2.2.2.1,x2.2.2.2.2.2.2.2.2.2.2.1,x2.2.2.2.2.2.2.2.2.2.2.2.1,y5))))) (
 br (!b4) (
 some (.inr (1,i2y (x2.2.2.2.2.2.2.2.2.2.2.2.2,x2.2.2.2.2.2.2.2.2.2.2.2.2)))) (
 some (.inl (d2i (wi (x2.1+1),x2.2.1,x2.2.2.1,x2.2.2.2.1,x2.2.2.2.2.1,x2.2.2.2.2.2.1,x2.2.2.2.2.2.2.1,x2.2.2.2.2.2.2.2.1,x2.2.2.2.2.2.2.2.2.1,x2.2.2.2.2.2.2.2.2.2.1,x2.2.2.2.2.2.2.2.2.2.2.1,x2.2.2.2.2.2.2.2.2.2.2.2.1,y3)))))) (
 some (.inr (0,q1z (x2.2.1,x2.2.2.1,x2.2.2.2.1,x2.2.2.2.2.1,x2.2.2.2.2.2.1,x2.2.2.2.2.2.2.1,x2.2.2.2.2.2.2.2.1,x2.2.2.2.2.2.2.2.2.1,x2.2.2.2.2.2.2.2.2.2.1,x2.2.2.2.2.2.2.2.2.2.2.1,x2.2.2.2.2.2.2.2.2.2.2.2.1,x2.2.2.2.2.2.2.2.2.2.2.2.2))))) (d2i (0,[],[],false,[],[],false,0,0,0,0,false,y1)) λ r7=>
 if r7.1=0 then
 wx c2w r7.2 λ x8=>
 k x8.2.2.2.2.2.2.2.2.2.2.2
 else
 wx y2d r7.2 λ x9=>
 k x9.1
def F73:T45:=P73 F45 F86 F87
def X73:a0y:=λ i=>b0c i [] [(3,[(.exit 0,xk 30 [(2,.ptr 2 0),(3,.ptr 3 0)] [(2,.agg [.str [],.str [],.bool false,.nil,.nil,.nil,.str [],.str [],.nil,.bool false,.nil,.nil,.nil,.nil,.nil,.int .i64 0,.int .i64 0,.int .i64 0,.int .i64 0,.nil,.nil,.bool false]),(3,.agg [.str [],.str [],.bool false,.own 1000000 1 .flat [],.own 1000001 1 .flat [],.own 1000002 1 .flat [],.str [],.str [],.view 1000003 4 .clean [],.bool false,.own 1000004 4 .clean [],.view 1000005 1 .flat [],.own 1000006 8 .flat [],.own 1000007 5 .flat [],.own 1000008 2 .flat [],.int .i64 0,.int .i64 0,.int .i64 0,.int .i64 0,.own 1000009 2 .flat [],.own 1000010 1 .flat [],.bool false])]),(.ret,xk 30 [(2,.ptr 2 0),(3,.ptr 3 0)] [(2,.agg [.str [],.str [],.bool false,.own 1000000 1 .flat [],.own 1000001 1 .flat [],.own 1000002 1 .flat [],.str [],.str [],.view 1000003 4 .clean [],.bool false,.own 1000004 4 .clean [],.view 1000005 1 .flat [],.own 1000006 8 .flat [],.own 1000007 5 .flat [],.own 1000008 2 .flat [],.int .i64 0,.int .i64 0,.int .i64 0,.int .i64 0,.own 1000009 2 .flat [],.own 1000010 1 .flat [],.bool false]),(3,.agg [.str [],.str [],.bool false,.own 1000000 1 .flat [],.own 1000001 1 .flat [],.own 1000002 1 .flat [],.str [],.str [],.view 1000003 4 .clean [],.bool false,.own 1000004 4 .clean [],.view 1000005 1 .flat [],.own 1000006 8 .flat [],.own 1000007 5 .flat [],.own 1000008 2 .flat [],.int .i64 0,.int .i64 0,.int .i64 0,.int .i64 0,.own 1000009 2 .flat [],.own 1000010 1 .flat [],.bool false])])])]
def G73 (F:T45):GT:=λ β s k=>F β (rd9 s 0) (λ y1=>k (w20 y1))
abbrev W73 (F:T45):WT:=WU z32 (G73 F)
theorem k73 (F45:T45)(F86:y0q)(F87:y0q):KU [(45,W45 F45),(86,c2h F86),(87,W87 F87)] X73 73 Tryz.f73 z32 (G73 (P73 F45 F86 F87 )):=λ _ _ _=>by kernel_rfl
theorem u2l:a0l D 73 (W73 F73):=a0b Tryz.func73 (tc v0v (tc d3i (tc d3j tn))) (k73 F45 F86 F87 )
def P91 (F25:T25):T89:=λ β p xk k=>
 F25 _ xk 0 (wi ((nL p.n) - 1)) λ b1=>
 br (!b1) (
 k ⟨0,[],[],[],[]⟩) (
 c0 xk <|
 q0a p.n xk.toNat λ y2=>
 k ⟨5,y2.a,y2.b,p.a,[]⟩)
def F91:T89:=P91 F25
theorem k91 (F25:T25):KU [(25,W25 F25)] noX 91 Tryz.f91 z47 (G89 (P91 F25 )):=λ _ _ _=>by kernel_rfl
theorem u2p:a0l D 91 (W89 F91):=a0b Tryz.func91 (tc v0b tn) (k91 F25 )
def P74 (F88:k0g)(F89:T89)(F90:k0g)(F91:T89):k0g:=λ β p k=>
 F88 _ p λ l1=>
 whl i2d (λ x2=>
 br (decide (x2.2.2.1 < (nL x2.2.1))) (
 ci x2.2.2.1 x2.2.1 <|
 ia2 x2.2.1 x2.2.2.1.toNat 0 λ n3=>
 F89 _ x2.2.2.2 n3 λ y4=>
 ca x2.1 ([w7 y4]:LV) 72 <|
 some (.inl (y1x (x2.1++([w7 y4]:LV),x2.2.1,wi (x2.2.2.1+1),x2.2.2.2)))) (
 some (.inr (0,t2t (x2.1,x2.2.2.2))))) (y1x ([],l1,0,p)) λ r5=>
 wx y2e r5.2 λ x6=>
 F90 _ x6.2 λ l7=>
 whl i2d (λ x8=>
 br (decide (x8.2.2.1 < (nL x8.2.1))) (
 ci x8.2.2.1 x8.2.1 <|
 ia2 x8.2.1 x8.2.2.1.toNat 0 λ n9=>
 F91 _ x8.2.2.2 n9 λ y10=>
 ca x8.1 ([w7 y10]:LV) 72 <|
 some (.inl (y1x (x8.1++([w7 y10]:LV),x8.2.1,wi (x8.2.2.1+1),x8.2.2.2)))) (
 some (.inr (0,eS8 x8.1)))) (y1x (x6.1,l7,0,x6.2)) λ r11=>
 wx dS8 r11.2 λ x12=>
 k x12
def F74:k0g:=P74 F88 F89 F90 F91
def X74:a0y:=λ i=>b0c i [] [(4,[(.exit 0,xk 44 [(1,.ptr 1 0),(3,.own 1000000 5 .flat [])] [(1,.agg [.str [],.str [],.bool false,.sl 1 true [],.sl 1 true [],.sl 1 true [],.str [],.str [],.sl 4 false [],.bool false,.sl 4 false [],.sl 1 true [],.sl 8 true [],.sl 5 true [],.sl 2 true [],.int .i64 0,.int .i64 0,.int .i64 0,.int .i64 0,.sl 2 true [],.sl 1 true [],.bool false])])]),(9,[(.exit 2,xk 44 [(3,.own 1000000 5 .flat [])] [])])]
def G74 (F:k0g):GT:=λ β s k=>F β (rd9 s 0) (λ y1=>k (.own 0 5 .flat y1))
abbrev W74 (F:k0g):WT:=WU z32 (G74 F)
theorem k74 (F88:k0g)(F89:T89)(F90:k0g)(F91:T89):KU [(88,q1i F88),(89,W89 F89),(90,q1i F90),(91,W89 F91)] X74 74 Tryz.f74 z32 (G74 (P74 F88 F89 F90 F91 )):=λ _ _ _=>by kernel_rfl
theorem d3b:a0l D 74 (W74 F74):=a0b Tryz.func74 (tc u2n (tc l2w (tc u2o (tc u2p tn)))) (k74 F88 F89 F90 F91 )
abbrev T95:Type 1:=(β:Type)→(U3→Option β)→Option β
def P95:T95:=λ β  k=>
 k ⟨404,1,[],0,false,[]⟩
def F95:T95:=P95
def G95 (F:T95):GT:=λ β s k=>F β  (λ y1=>k (w13 y1))
abbrev W95 (F:T95):WT:=WU z1 (G95 F)
theorem k95:KU [] noX 95 Tryz.f95 z1 (G95 (P95 )):=λ _ _ _=>by kernel_rfl
theorem d3n:a0l D 95 (W95 F95):=a0b Tryz.func95 tn (k95 )
abbrev T76:Type 1:=(β:Type)→LV→U6→(U3→Option β)→Option β
def P76 (F94:T94)(F95:T95)(F96:T96):T76:=λ β l a k=>
 F94 _ l a.a λ n1=>
 br (decide (n1 < 0)) (
 F95 _  λ y2=>
 k y2) (
 c0 n1 <|
 ix3 l n1.toNat λ y3=>
 F96 _ y3 a.b λ n4=>
 br (decide (n4 < 0)) (
 F95 _  λ y5=>
 k y5) (
 c0 n1 <|
 ix3 l n1.toNat λ y6=>
 c0 n4 <|
 ix4 y6.b n4.toNat λ y7=>
 k ⟨y7.b,y7.c,y7.d,y7.e,y7.f,y7.g⟩))
def F76:T76:=P76 F94 F95 F96
def G76 (F:T76):GT:=λ β s k=>F β (lL s 0) (rd6 s 1) (λ y1=>k (w13 y1))
abbrev W76 (F:T76):WT:=WU z62 (G76 F)
theorem k76 (F94:T94)(F95:T95)(F96:T96):KU [(94,W94 F94),(95,W95 F95),(96,W96 F96)] noX 76 Tryz.f76 z62 (G76 (P76 F94 F95 F96 )):=λ _ _ _=>by kernel_rfl
theorem d3d:a0l D 76 (W76 F76):=a0b Tryz.func76 (tc d3m (tc d3n (tc d3o tn))) (k76 F94 F95 F96 )
abbrev v1t:Type 1:=(β:Type)→U3→Int→(Bool→Option β)→Option β
def f2x:v1t:=λ β x kind k=>
 br (x.b == kind) (
 k true) (
 br (kind == 5) (
 k (x.b == 2)) (
 k false))
def l1x:v1t:=f2x
def p2p (F:v1t):GT:=λ β s k=>F β (rd3 s 0) (lI s 6) (λ y1=>k (.bool y1))
abbrev q2t (F:v1t):WT:=WU z63 (p2p F)
theorem a3w:KU [] noX 147 Tryz.f147 z63 (p2p (f2x )):=λ _ _ _=>by kernel_rfl
theorem k2v:a0l D 147 (q2t l1x):=a0b Tryz.func147 tn (a3w )
def g2w:T70:=λ β b k=>
 whl c2v (λ x1=>
 br (decide (x1.2.2 < (nL x1.1))) (
 c0 x1.2.2 <|
 ix0 x1.1 x1.2.2.toNat λ n2=>
 ca x1.2.1 ([.int .i64 (IntKind.wrap .i64 n2)]:LV) 8 <|
 some (.inl (t1c (x1.1,x1.2.1++([.int .i64 (IntKind.wrap .i64 n2)]:LV),wi (x1.2.2+1))))) (
 some (.inr (0,eS8 x1.2.1)))) (t1c (b,[.int .i64 (nL b)],0)) λ r3=>
 wx dS8 r3.2 λ x4=>
 k x4
def m1o:T70:=g2w
def x2l:a0y:=λ i=>b0c i [] [(3,[(.exit 0,xk 23 [(3,.own 1000000 1 .flat [])] [])])]
def q2j (F:T70):GT:=λ β s k=>F β (lL s 0) (λ y1=>k (.own 0 1 .flat y1))
abbrev r2k (F:T70):WT:=WU z0 (q2j F)
theorem b3s:KU [] x2l 176 Tryz.f176 z0 (q2j (g2w )):=λ _ _ _=>by kernel_rfl
theorem l2q:a0l D 176 (r2k m1o):=a0b Tryz.func176 tn (b3s )
def g2x (F25:T25):T79:=λ β n m k=>
 F25 _ m 1 1000000000000 λ b1=>
 br (!b1) (
 k 0) (
 chk (m ≠ 0) <|
 chk (m ≠ 0) <|
 k (Int.tmod (wi ((Int.tmod n m)+m)) m))
def m1p:T79:=g2x F25
theorem b3t (F25:T25):KU [(25,W25 F25)] noX 177 Tryz.f177 z59 (G79 (g2x F25 )):=λ _ _ _=>by kernel_rfl
theorem l2r:a0l D 177 (W79 m1p):=a0b Tryz.func177 (tc v0b tn) (b3t F25 )
abbrev w1g:Type 1:=(β:Type)→LV→(Int→Option β)→Option β
def g2v (m1p:T79):w1g:=λ β l k=>
 whl dS1 (λ x1=>
 br (decide (x1.2.2 < (nL x1.1))) (
 c0 x1.2.2 <|
 ix1 x1.1 x1.2.2.toNat λ n2=>
 m1p _ n2 2147483647 λ n3=>
 some (.inl (eS1 (x1.1,Int.tmod (wi ((wi ((wi (x1.2.1 * 1000003))+n3))+13)) 2147483647,wi (x1.2.2+1))))) (
 some (.inr (0,y0s x1.2.1)))) (eS1 (l,11,0)) λ r4=>
 wx q1w r4.2 λ x5=>
 k x5
def m1n:w1g:=g2v m1p
def x2k:a0y:=λ i=>b0c i [] [(3,[(.exit 0,xk 22 [(3,.int .i64 0)] [])])]
def q2i (F:w1g):GT:=λ β s k=>F β (lL s 0) (λ y1=>k (.int .i64 y1))
abbrev r2j (F:w1g):WT:=WU z0 (q2i F)
theorem b3r (m1p:T79):KU [(177,W79 m1p)] x2k 175 Tryz.f175 z0 (q2i (g2v m1p )):=λ _ _ _=>by kernel_rfl
theorem l2p:a0l D 175 (r2j m1n):=a0b Tryz.func175 (tc l2r tn) (b3r m1p )
abbrev w1b:Type 1:=(β:Type)→LU→(Int→Option β)→Option β
def g2p (m1o:T70)(m1n:w1g):w1b:=λ β body k=>
 m1o _ (l0o body) λ l1=>
 ca ([.int .i64 151]:LV) l1 8 <|
 m1n _ (([.int .i64 151]:LV)++l1) λ n2=>
 k n2
def m1i:w1b:=g2p m1o m1n
def q2d (F:w1b):GT:=λ β s k=>F β (lS s 0) (λ y1=>k (.int .i64 y1))
abbrev r2c (F:w1b):WT:=WU z14 (q2d F)
theorem b3l (m1o:T70)(m1n:w1g):KU [(176,r2k m1o),(175,r2j m1n)] noX 168 Tryz.f168 z14 (q2d (g2p m1o m1n )):=λ _ _ _=>by kernel_rfl
theorem l2h:a0l D 168 (r2c m1i):=a0b Tryz.func168 (tc l2q (tc l2p tn)) (b3l m1o m1n )
abbrev v1u:Type 1:=(β:Type)→LU→LU→(Bool→Option β)→Option β
def f2y (m1i:w1b)(o0g:m1z):v1u:=λ β body value k=>
 br (value == []) (
 k true) (
 m1i _ body λ n1=>
 o0g _ n1 λ t2=>
 k (value == t2))
def l1y:v1u:=f2y m1i o0g
def p2q (F:v1u):GT:=λ β s k=>F β (lS s 0) (lS s 1) (λ y1=>k (.bool y1))
abbrev q2u (F:v1u):WT:=WU z46 (p2q F)
theorem a3x (m1i:w1b)(o0g:m1z):KU [(168,r2c m1i),(167,c2q o0g)] noX 148 Tryz.f148 z46 (p2q (f2y m1i o0g )):=λ _ _ _=>by kernel_rfl
theorem k2w:a0l D 148 (q2u l1y):=a0b Tryz.func148 (tc l2h (tc u1q tn)) (a3x m1i o0g )
abbrev m1s:Type 1:=(β:Type)→U2→U14→U3→(Int→Option β)→Option β
def e2y (o0p:m1w)(o0f:m1u)(l1x:v1t)(l1y:v1u):m1s:=λ β p r x k=>
 o0p _ p r λ n1=>
 br (n1 != 1) (
 k 2) (
 jt1 (λ (b3:Bool)=>
 br b3 (
 k 3) (
 l1x _ x r.a λ b4=>
 br (!b4) (
 k 4) (
 jt1 (λ (b5:Bool)=>
 br b5 (
 k 5) (
 l1y _ x.c r.e λ b6=>
 br (!b6) (
 k 6) (
 k 1))) λ j7=>
 br (!(r.d == r.b)) (
 br (!x.e) (
 br (r.a == 5) (
 j7 true) (
 j7 (!(r.e == [])))) (
 j7 false)) (
 j7 false)))) λ j8=>
 o0f _ x λ b2=>
 br (!b2) (
 j8 true) (
 j8 (x.a != 200)))
def o0o:m1s:=e2y o0p o0f l1x l1y
def o2u (F:m1s):GT:=λ β s k=>F β (rd2 s 0) (d2w s 5) (rd3 s 10) (λ y1=>k (.int .i64 y1))
abbrev c2j (F:m1s):WT:=WU z64 (o2u F)
theorem a3b (o0p:m1w)(o0f:m1u)(l1x:v1t)(l1y:v1u):KU [(146,c2n o0p),(123,x1p o0f),(147,q2t l1x),(148,q2u l1y)] noX 117 Tryz.f117 z64 (o2u (e2y o0p o0f l1x l1y )):=λ _ _ _=>by kernel_rfl
theorem u1b:a0l D 117 (c2j o0o):=a0b Tryz.func117 (tc u1j (tc a2k (tc k2v (tc k2w tn)))) (a3b o0p o0f l1x l1y )
abbrev q1a:Type 1:=(β:Type)→U2→U14→U3→(LU→Bool→Option β)→Option β
def e2z (o0o:m1s):q1a:=λ β p r x k=>
 o0o _ p r x λ n1=>
 br (n1 != 1) (
 k [] false) (
 k x.c true)
def w0a:q1a:=e2z o0o
def o2v (F:q1a):GT:=λ β s k=>F β (rd2 s 0) (d2w s 5) (rd3 s 10) (λ y1 y2=>k (.tup [.str y1,.bool y2]))
abbrev h2c (F:q1a):WT:=WU z64 (o2v F)
theorem a3c (o0o:m1s):KU [(117,c2j o0o)] noX 118 Tryz.f118 z64 (o2v (e2z o0o )):=λ _ _ _=>by kernel_rfl
theorem a2i:a0l D 118 (h2c w0a):=a0b Tryz.func118 (tc u1b tn) (a3c o0o )
abbrev v1m:Type 1:=(β:Type)→U9→Int→U3→(U9→Option β)→Option β
def f2c (F45:T45)(F25:T25)(F89:T89)(o0o:m1s)(w0a:q1a):v1m:=λ β p xk x k=>
 F45 _ p λ y1=>
 jt0 (F89 _ p xk λ y5=>
 ci xk y1.m <|
 c0z y1.m xk.toNat 5 [.bool true] λ l6=>
 o0o _ ⟨p.c,p.d,p.e,p.f,p.g⟩ y5 x λ n7=>
 ci xk l6 <|
 c0z l6 xk.toNat 6 [.int .i64 n7] λ l8=>
 w0a _ ⟨p.c,p.d,p.e,p.f,p.g⟩ y5 x λ t9 b10=>
 ci xk l8 <|
 c0z l8 xk.toNat 7 [.str t9] λ l11=>
 k {y1 with m:=l11}) λ j12=>
 F25 _ xk 0 (wi ((nL p.m) - 1)) λ b2=>
 br (!b2) (
 k y1) (
 c0 xk <|
 ix8 p.m xk.toNat λ y3=>
 br y3.f (
 k y1) (
 j12))
def l1q:v1m:=f2c F45 F25 F89 o0o w0a
def o2x (F:v1m):GT:=λ β s k=>F β (rd9 s 0) (lI s 22) (rd3 s 23) (λ y1=>k (w17 y1))
abbrev q2n (F:v1m):WT:=WU z65 (o2x F)
theorem a3f (F45:T45)(F25:T25)(F89:T89)(o0o:m1s)(w0a:q1a):KU [(45,W45 F45),(25,W25 F25),(89,W89 F89),(117,c2j o0o),(118,h2c w0a)] noX 121 Tryz.f121 z65 (o2x (f2c F45 F25 F89 o0o w0a )):=λ _ _ _=>by kernel_rfl
theorem k2m:a0l D 121 (q2n l1q):=a0b Tryz.func121 (tc v0v (tc v0b (tc l2w (tc u1b (tc a2i tn))))) (a3f F45 F25 F89 o0o w0a )
abbrev T93:Type 1:=(β:Type)→U9→U6→U3→(U9→Option β)→Option β
def P93 (F45:T45)(l1q:v1m):T93:=λ β p a x k=>
 F45 _ p λ y1=>
 whl s2x (λ x2=>
 br (decide (x2.1 < (nL x2.2.1.m))) (
 jt1 (λ (y9:U9)=>
 some (.inl (d2j (wi (x2.1+1),x2.2.1,x2.2.2.1,x2.2.2.2.1,x2.2.2.2.2.1,x2.2.2.2.2.2.1,x2.2.2.2.2.2.2.1,x2.2.2.2.2.2.2.2.1,x2.2.2.2.2.2.2.2.2.1,x2.2.2.2.2.2.2.2.2.2.1,x2.2.2.2.2.2.2.2.2.2.2.1,x2.2.2.2.2.2.2.2.2.2.2.2.1,x2.2.2.2.2.2.2.2.2.2.2.2.2.1,x2.2.2.2.2.2.2.2.2.2.2.2.2.2.1,x2.2.2.2.2.2.2.2.2.2.2.2.2.2.2.1,y9)))) λ j10=>
 jt0 (some (.inl (d2j (wi (x2.1+1),x2.2.1,x2.2.2.1,x2.2.2.2.1,x2.2.2.2.2.1,x2.2.2.2.2.2.1,x2.2.2.2.2.2.2.1,x2.2.2.2.2.2.2.2.1,x2.2.2.2.2.2.2.2.2.1,x2.2.2.2.2.2.2.2.2.2.1,x2.2.2.2.2.2.2.2.2.2.2.1,x2.2.2.2.2.2.2.2.2.2.2.2.1,x2.2.2.2.2.2.2.2.2.2.2.2.2.1,x2.2.2.2.2.2.2.2.2.2.2.2.2.2.1,x2.2.2.2.2.2.2.2.2.2.2.2.2.2.2.1,x2.2.2.2.2.2.2.2.2.2.2.2.2.2.2.2)))) λ j11=>
 c0 x2.1 <|
 ix8 x2.2.1.m x2.1.toNat λ y3=>
 br (!y3.f) (
 c0 x2.1 <|
 ix8 x2.2.1.m x2.1.toNat λ y4=>
 br (q0 ⟨y4.b,y4.c⟩ x2.2.2.1) (
 l1q _ x2.2.2.2.2.2.2.2.2.2.2.2.2.2.2.2 x2.1 x2.2.2.2.1 λ y7=>
 j10 y7) (
 j11)) (
 j11)) (
 some (.inr (0,q1z (x2.2.2.2.2.1,x2.2.2.2.2.2.1,x2.2.2.2.2.2.2.1,x2.2.2.2.2.2.2.2.1,x2.2.2.2.2.2.2.2.2.1,x2.2.2.2.2.2.2.2.2.2.1,x2.2.2.2.2.2.2.2.2.2.2.1,x2.2.2.2.2.2.2.2.2.2.2.2.1,x2.2.2.2.2.2.2.2.2.2.2.2.2.1,x2.2.2.2.2.2.2.2.2.2.2.2.2.2.1,x2.2.2.2.2.2.2.2.2.2.2.2.2.2.2.1,x2.2.2.2.2.2.2.2.2.2.2.2.2.2.2.2))))) (d2j (0,p,a,x,[],[],false,[],[],false,0,0,0,0,false,y1)) λ r12=>
 wx c2w r12.2 λ x13=>
 k x13.2.2.2.2.2.2.2.2.2.2.2
def F93:T93:=P93 F45 l1q
def X93:a0y:=λ i=>b0c i [] [(3,[(.exit 0,xk 40 [(6,.ptr 6 0),(7,.ptr 7 0)] [(6,.agg [.str [],.str [],.bool false,.nil,.nil,.nil,.str [],.str [],.nil,.bool false,.nil,.nil,.nil,.nil,.nil,.int .i64 0,.int .i64 0,.int .i64 0,.int .i64 0,.nil,.nil,.bool false]),(7,.agg [.str [],.str [],.bool false,.own 1000000 1 .flat [],.own 1000001 1 .flat [],.own 1000002 1 .flat [],.str [],.str [],.own 1000003 4 .clean [],.bool false,.own 1000004 4 .clean [],.own 1000005 1 .flat [],.own 1000006 8 .flat [],.own 1000007 5 .flat [],.own 1000008 2 .flat [],.int .i64 0,.int .i64 0,.int .i64 0,.int .i64 0,.own 1000009 2 .flat [],.own 1000010 1 .flat [],.bool false])])])]
def G93 (F:T93):GT:=λ β s k=>F β (rd9 s 0) (rd6 s 22) (rd3 s 24) (λ y1=>k (w17 y1))
abbrev W93 (F:T93):WT:=WU z66 (G93 F)
theorem k93 (F45:T45)(l1q:v1m):KU [(45,W45 F45),(121,q2n l1q)] X93 93 Tryz.f93 z66 (G93 (P93 F45 l1q )):=λ _ _ _=>by kernel_rfl
theorem d3l:a0l D 93 (W93 F93):=a0b Tryz.func93 (tc v0v (tc k2m tn)) (k93 F45 l1q )
def P92 (F45:T45)(k0l:f1t)(F91:T89)(o0o:m1s)(w0a:q1a)(o0e:m1t)(w0b:f1u):T93:=λ β p a x k=>
 F45 _ p λ y1=>
 k0l _ p a λ n2=>
 jt0 (F91 _ p n2 λ y5=>
 ci n2 y1.n <|
 c0z y1.n n2.toNat 2 [.bool true] λ l6=>
 o0o _ ⟨p.c,p.d,p.e,p.f,p.g⟩ y5 x λ n7=>
 ci n2 l6 <|
 c0z l6 n2.toNat 3 [.int .i64 n7] λ l8=>
 w0a _ ⟨p.c,p.d,p.e,p.f,p.g⟩ y5 x λ t9 b10=>
 ci n2 l8 <|
 c0z l8 n2.toNat 4 [.str t9] λ l11=>
 o0e _ {y1 with n:=l11} a λ l12 b13=>
 whl c2x (λ x14=>
 br (decide (x14.2.1 < (nL x14.1))) (
 ci x14.2.1 x14.1 <|
 ia4 x14.1 x14.2.1.toNat 0 λ y15=>
 w0b _ x14.2.2.2.2.2.2.2.2.2.2.2.2.2 y15 λ y16=>
 some (.inl (r1a (x14.1,wi (x14.2.1+1),x14.2.2.1,x14.2.2.2.1,x14.2.2.2.2.1,x14.2.2.2.2.2.1,x14.2.2.2.2.2.2.1,x14.2.2.2.2.2.2.2.1,x14.2.2.2.2.2.2.2.2.1,x14.2.2.2.2.2.2.2.2.2.1,x14.2.2.2.2.2.2.2.2.2.2.1,x14.2.2.2.2.2.2.2.2.2.2.2.1,x14.2.2.2.2.2.2.2.2.2.2.2.2.1,y16)))) (
 some (.inr (0,q1z (x14.2.2.1,x14.2.2.2.1,x14.2.2.2.2.1,x14.2.2.2.2.2.1,x14.2.2.2.2.2.2.1,x14.2.2.2.2.2.2.2.1,x14.2.2.2.2.2.2.2.2.1,x14.2.2.2.2.2.2.2.2.2.1,x14.2.2.2.2.2.2.2.2.2.2.1,x14.2.2.2.2.2.2.2.2.2.2.2.1,x14.2.2.2.2.2.2.2.2.2.2.2.2.1,x14.2.2.2.2.2.2.2.2.2.2.2.2.2))))) (r1a (l12,0,[],[],false,[],[],false,0,0,0,0,false,{y1 with n:=l11})) λ r17=>
 wx c2w r17.2 λ x18=>
 k x18.2.2.2.2.2.2.2.2.2.2.2) λ j19=>
 br (decide (n2 < 0)) (
 k y1) (
 c0 n2 <|
 q0a p.n n2.toNat λ y3=>
 br y3.c (
 k y1) (
 j19))
def F92:T93:=P92 F45 k0l F91 o0o w0a o0e w0b
def X92:a0y:=λ i=>b0c i [] [(11,[(.exit 0,xk 79 [(6,.ptr 6 0),(7,.ptr 7 0)] [(6,.agg [.str [],.str [],.bool false,.nil,.nil,.nil,.str [],.str [],.nil,.bool false,.nil,.nil,.nil,.nil,.nil,.int .i64 0,.int .i64 0,.int .i64 0,.int .i64 0,.nil,.nil,.bool false]),(7,.agg [.str [],.str [],.bool false,.own 1000000 1 .flat [],.own 1000001 1 .flat [],.own 1000002 1 .flat [],.str [],.str [],.own 1000003 4 .clean [],.bool false,.own 1000004 4 .clean [],.own 1000005 1 .flat [],.own 1000006 8 .flat [],.own 1000007 5 .flat [],.own 1000008 2 .flat [],.int .i64 0,.int .i64 0,.int .i64 0,.int .i64 0,.own 1000009 2 .flat [],.own 1000010 1 .flat [],.bool false])])])]
theorem k92 (F45:T45)(k0l:f1t)(F91:T89)(o0o:m1s)(w0a:q1a)(o0e:m1t)(w0b:f1u):KU [(45,W45 F45),(116,x1n k0l),(91,W89 F91),(117,c2j o0o),(118,h2c w0a),(119,c2k o0e),(120,x1o w0b)] X92 92 Tryz.f92 z66 (G93 (P92 F45 k0l F91 o0o w0a o0e w0b )):=λ _ _ _=>by kernel_rfl
theorem d3k:a0l D 92 (W93 F92):=a0b Tryz.func92 (tc v0v (tc o1j (tc u2p (tc u1b (tc a2i (tc u1c (tc a2j tn))))))) (k92 F45 k0l F91 o0o w0a o0e w0b )
def P75 (F93:T93)(F92:T93)(F73:T45):T93:=λ β p a x k=>
 F93 _ p a x λ y1=>
 F92 _ y1 a x λ y2=>
 F73 _ y2 λ y3=>
 k y3
def F75:T93:=P75 F93 F92 F73
def G75 (F:T93):GT:=λ β s k=>F β (rd9 s 0) (rd6 s 22) (rd3 s 24) (λ y1=>k (w20 y1))
abbrev W75 (F:T93):WT:=WU z66 (G75 F)
theorem k75 (F93:T93)(F92:T93)(F73:T45):KU [(93,W93 F93),(92,W93 F92),(73,W73 F73)] noX 75 Tryz.f75 z66 (G75 (P75 F93 F92 F73 )):=λ _ _ _=>by kernel_rfl
theorem d3c:a0l D 75 (W75 F75):=a0b Tryz.func75 (tc d3l (tc d3k (tc u2l tn))) (k75 F93 F92 F73 )
abbrev d1f:Type 1:=(β:Type)→U0→(U9→LV→U0→Option β)→Option β
def r1z (r0i:i0d)(r0j:h0b)(b0e:g0z)(F73:T45)(a0s:f0e)(F74:k0g)(F76:T76)(F75:T93)(d0i:o0h):d1f:=λ β c k=>
 r0i _ c λ l1 y2=>
 r0j _ y2 λ y3 y4=>
 b0e _ 2 y4 λ b5 y6=>
 br b5 (
 F73 _ y3 λ y7=>
 a0s _ 6 y6 λ n8 y9=>
 whl i2e (λ x10=>
 br (decide (x10.2.1 > 0)) (
 F74 _ x10.2.2.2.2.2.2.2.2.2.2.2.2.2.1 λ l11=>
 br (decide ((nL l11) > 0)) (
 a0s _ (nL l11) x10.2.2.2.2.2.2.2.2.2.2.2.2.2.2 λ n12 y13=>
 ci n12 l11 <|
 ia4 l11 n12.toNat 1 λ y14=>
 F76 _ x10.1 y14 λ y15=>
 F75 _ x10.2.2.2.2.2.2.2.2.2.2.2.2.2.1 y14 y15 λ y16=>
 some (.inl (t1d (x10.1,wi (x10.2.1 - 1),x10.2.2.1,x10.2.2.2.1,x10.2.2.2.2.1,x10.2.2.2.2.2.1,x10.2.2.2.2.2.2.1,x10.2.2.2.2.2.2.2.1,x10.2.2.2.2.2.2.2.2.1,x10.2.2.2.2.2.2.2.2.2.1,x10.2.2.2.2.2.2.2.2.2.2.1,x10.2.2.2.2.2.2.2.2.2.2.2.1,x10.2.2.2.2.2.2.2.2.2.2.2.2.1,y16,y13)))) (
 some (.inl (t1d (x10.1,wi (x10.2.1 - 1),x10.2.2.1,x10.2.2.2.1,x10.2.2.2.2.1,x10.2.2.2.2.2.1,x10.2.2.2.2.2.2.1,x10.2.2.2.2.2.2.2.1,x10.2.2.2.2.2.2.2.2.1,x10.2.2.2.2.2.2.2.2.2.1,x10.2.2.2.2.2.2.2.2.2.2.1,x10.2.2.2.2.2.2.2.2.2.2.2.1,x10.2.2.2.2.2.2.2.2.2.2.2.2.1,x10.2.2.2.2.2.2.2.2.2.2.2.2.2.1,x10.2.2.2.2.2.2.2.2.2.2.2.2.2.2))))) (
 some (.inr (0,i2z (x10.1,x10.2.2.1,x10.2.2.2.1,x10.2.2.2.2.1,x10.2.2.2.2.2.1,x10.2.2.2.2.2.2.1,x10.2.2.2.2.2.2.2.1,x10.2.2.2.2.2.2.2.2.1,x10.2.2.2.2.2.2.2.2.2.1,x10.2.2.2.2.2.2.2.2.2.2.1,x10.2.2.2.2.2.2.2.2.2.2.2.1,x10.2.2.2.2.2.2.2.2.2.2.2.2.1,x10.2.2.2.2.2.2.2.2.2.2.2.2.2.1,x10.2.2.2.2.2.2.2.2.2.2.2.2.2.2))))) (t1d (l1,n8,[],[],false,[],[],false,0,0,0,0,false,y7,y9)) λ r17=>
 wx s2w r17.2 λ x18=>
 a0s _ 24 x18.2.2.2.2.2.2.2.2.2.2.2.2.2 λ n19 y20=>
 br (n19 == 0) (
 d0i _ [.int .i64 (-1),.int .i64 1,.int .i64 9] y20 λ n21 y22=>
 k {x18.2.2.2.2.2.2.2.2.2.2.2.2.1 with r:=n21} x18.1 y22) (
 br (n19 == 1) (
 d0i _ [.int .i64 (-1),.int .i64 1,.int .i64 9] y20 λ n23 y24=>
 k {x18.2.2.2.2.2.2.2.2.2.2.2.2.1 with s:=n23} x18.1 y24) (
 br (n19 == 2) (
 k {x18.2.2.2.2.2.2.2.2.2.2.2.2.1 with v:=!x18.2.2.2.2.2.2.2.2.2.2.2.2.1.v} x18.1 y20) (
 k x18.2.2.2.2.2.2.2.2.2.2.2.2.1 x18.1 y20)))) (
 a0s _ 6 y6 λ n29 y30=>
 whl i2e (λ x31=>
 br (decide (x31.2.1 > 0)) (
 F74 _ x31.2.2.2.2.2.2.2.2.2.2.2.2.2.1 λ l32=>
 br (decide ((nL l32) > 0)) (
 a0s _ (nL l32) x31.2.2.2.2.2.2.2.2.2.2.2.2.2.2 λ n33 y34=>
 ci n33 l32 <|
 ia4 l32 n33.toNat 1 λ y35=>
 F76 _ x31.1 y35 λ y36=>
 F75 _ x31.2.2.2.2.2.2.2.2.2.2.2.2.2.1 y35 y36 λ y37=>
 some (.inl (t1d (x31.1,wi (x31.2.1 - 1),x31.2.2.1,x31.2.2.2.1,x31.2.2.2.2.1,x31.2.2.2.2.2.1,x31.2.2.2.2.2.2.1,x31.2.2.2.2.2.2.2.1,x31.2.2.2.2.2.2.2.2.1,x31.2.2.2.2.2.2.2.2.2.1,x31.2.2.2.2.2.2.2.2.2.2.1,x31.2.2.2.2.2.2.2.2.2.2.2.1,x31.2.2.2.2.2.2.2.2.2.2.2.2.1,y37,y34)))) (
 some (.inl (t1d (x31.1,wi (x31.2.1 - 1),x31.2.2.1,x31.2.2.2.1,x31.2.2.2.2.1,x31.2.2.2.2.2.1,x31.2.2.2.2.2.2.1,x31.2.2.2.2.2.2.2.1,x31.2.2.2.2.2.2.2.2.1,x31.2.2.2.2.2.2.2.2.2.1,x31.2.2.2.2.2.2.2.2.2.2.1,x31.2.2.2.2.2.2.2.2.2.2.2.1,x31.2.2.2.2.2.2.2.2.2.2.2.2.1,x31.2.2.2.2.2.2.2.2.2.2.2.2.2.1,x31.2.2.2.2.2.2.2.2.2.2.2.2.2.2))))) (
 some (.inr (0,i2z (x31.1,x31.2.2.1,x31.2.2.2.1,x31.2.2.2.2.1,x31.2.2.2.2.2.1,x31.2.2.2.2.2.2.1,x31.2.2.2.2.2.2.2.1,x31.2.2.2.2.2.2.2.2.1,x31.2.2.2.2.2.2.2.2.2.1,x31.2.2.2.2.2.2.2.2.2.2.1,x31.2.2.2.2.2.2.2.2.2.2.2.1,x31.2.2.2.2.2.2.2.2.2.2.2.2.1,x31.2.2.2.2.2.2.2.2.2.2.2.2.2.1,x31.2.2.2.2.2.2.2.2.2.2.2.2.2.2))))) (t1d (l1,n29,[],[],false,[],[],false,0,0,0,0,false,y3,y30)) λ r38=>
 wx s2w r38.2 λ x39=>
 a0s _ 24 x39.2.2.2.2.2.2.2.2.2.2.2.2.2 λ n40 y41=>
 br (n40 == 0) (
 d0i _ [.int .i64 (-1),.int .i64 1,.int .i64 9] y41 λ n42 y43=>
 k {x39.2.2.2.2.2.2.2.2.2.2.2.2.1 with r:=n42} x39.1 y43) (
 br (n40 == 1) (
 d0i _ [.int .i64 (-1),.int .i64 1,.int .i64 9] y41 λ n44 y45=>
 k {x39.2.2.2.2.2.2.2.2.2.2.2.2.1 with s:=n44} x39.1 y45) (
 br (n40 == 2) (
 k {x39.2.2.2.2.2.2.2.2.2.2.2.2.1 with v:=!x39.2.2.2.2.2.2.2.2.2.2.2.2.1.v} x39.1 y41) (
 k x39.2.2.2.2.2.2.2.2.2.2.2.2.1 x39.1 y41))))
def r0h:d1f:=r1z r0i r0j b0e F73 a0s F74 F76 F75 d0i
def h2p:a0y:=λ i=>b0c i [] [(6,[(.exit 0,xkb 64 65 [(0,.ptr 64 0),(2,.ptr 2 0),(4,.own 1000011 2 .clean []),(5,.ptr 5 0)] [(2,.agg [.str [],.str [],.bool false,.nil,.nil,.nil,.str [],.str [],.nil,.bool false,.nil,.nil,.nil,.nil,.nil,.int .i64 0,.int .i64 0,.int .i64 0,.int .i64 0,.nil,.nil,.bool false]),(5,.agg [.str [],.str [],.bool false,.own 1000000 1 .flat [],.own 1000001 1 .flat [],.own 1000002 1 .flat [],.str [],.str [],.view 1000003 4 .clean [],.bool false,.own 1000004 4 .clean [],.view 1000005 1 .flat [],.own 1000006 8 .flat [],.own 1000007 5 .flat [],.own 1000008 2 .flat [],.int .i64 0,.int .i64 0,.int .i64 0,.int .i64 0,.own 1000009 2 .flat [],.own 1000010 1 .flat [],.bool false]),(64,.agg [.sl 1 true [],.int .i64 0,.int .i64 0])])])]
def x1c (F:d1f):GT:=λ β s k=>F β (rd0 s 0) (λ y1 y2 y3=>k (.tup [w20 y1,.own 22 2 .clean y2,w10 y3]))
abbrev x1u (F:d1f):WT:=WU z67 (x1c F)
theorem j2p (r0i:i0d)(r0j:h0b)(b0e:g0z)(F73:T45)(a0s:f0e)(F74:k0g)(F76:T76)(F75:T93)(d0i:o0h):KI [(71,ioW (x1v r0i)),(72,ioW (x1w r0j)),(67,ioW (u0c b0e)),(73,W73 F73),(43,ioW (o0i a0s)),(74,W74 F74),(76,W76 F76),(75,W75 F75),(56,ioW (g1w d0i))] h2p 62 ⟨[.pt],64,1,false⟩ Tryz.f62 z67 (x1c (r1z r0i r0j b0e F73 a0s F74 F76 F75 d0i )):=λ _ _ _=>by kernel_rfl
theorem a2x:a0l D 62 (ioW (x1u r0h)):=a0x Tryz.func62 (tc a2z (tc b2a (tc n0z (tc u2l (tc j0f (tc d3b (tc d3d (tc d3c (tc c1k tn))))))))) (j2p r0i r0j b0e F73 a0s F74 F76 F75 d0i )
def s1a (b0a:h0a):c0m:=λ β c k=>
 b0a _ [.str [105,110,100,101,120],.str [97,112,112],.str [115,116,121,108,101],.str [108,105,98],.str [108,111,103,111],.str [110,101,120,116],.str [117,116,105,108]] c λ t1 y2=>
 k t1 y2
def i0m:c0m:=s1a b0a
abbrev g1x (F:c0m):WT:=WU z68 (l0f F)
theorem j2q (b0a:h0a):KI [(77,ioW (u0d b0a))] noX 63 ⟨[.pt],6,1,false⟩ Tryz.f63 z68 (l0f (s1a b0a )):=λ _ _ _=>by kernel_rfl
theorem r1j:a0l D 63 (ioW (g1x i0m)):=a0x Tryz.func63 (tc o0a tn) (j2q b0a )
def r1u (r0h:d1f)(i0m:c0m):h0b:=λ β c k=>
 r0h _ c λ y1 l2 y3=>
 i0m _ y3 λ t4 y5=>
 k {y1 with b:=t4} y5
def i0l:h0b:=r1u r0h i0m
def w1y (F:h0b):GT:=λ β s k=>F β (rd0 s 0) (λ y1 y2=>k (.tup [w20 y1,w10 y2]))
abbrev s1m (F:h0b):WT:=WU z27 (w1y F)
theorem j2k (r0h:d1f)(i0m:c0m):KI [(62,ioW (x1u r0h)),(63,ioW (g1x i0m))] noX 51 ⟨[.pt],15,1,false⟩ Tryz.f51 z27 (w1y (r1u r0h i0m )):=λ _ _ _=>by kernel_rfl
theorem r1i:a0l D 51 (ioW (s1m i0l)):=a0x Tryz.func51 (tc a2x (tc r1j tn)) (j2k r0h i0m )
abbrev T24:Type 1:=(β:Type)→U1→(U1→Option β)→Option β
def P24 (F45:T45):T24:=λ β t k=>
 whl c2y (λ x1=>
 br (decide (x1.1 < (nL x1.2.1.a))) (
 c0 x1.1 <|
 v0u x1.2.1.a x1.1.toNat λ y2=>
 c0 x1.1 <|
 v0u x1.2.1.a x1.1.toNat λ y3=>
 F45 _ ⟨y3.c,y3.d,y3.e,y3.f,y3.g,y3.h,y3.i,y3.j,y3.k,y3.l,y3.m,y3.n,y3.o,y3.p,y3.q,y3.r,y3.s,y3.t,y3.u,y3.v,y3.w,y3.x⟩ λ y4=>
 ca x1.2.2.2.a ([w8 ⟨y2.a,y2.b,y4.a,y4.b,y4.c,y4.d,y4.e,y4.f,y4.g,y4.h,y4.i,y4.j,y4.k,y4.l,y4.m,y4.n,y4.o,y4.p,y4.q,y4.r,y4.s,y4.t,y4.u,y4.v,y2.y⟩]:LV) 424 <|
 some (.inl (d1n (wi (x1.1+1),x1.2.1,x1.2.2.1,{x1.2.2.2 with a:=x1.2.2.2.a++([w8 ⟨y2.a,y2.b,y4.a,y4.b,y4.c,y4.d,y4.e,y4.f,y4.g,y4.h,y4.i,y4.j,y4.k,y4.l,y4.m,y4.n,y4.o,y4.p,y4.q,y4.r,y4.s,y4.t,y4.u,y4.v,y2.y⟩]:LV)})))) (
 some (.inr (0,f1y (x1.2.2.1,x1.2.2.2))))) (d1n (0,t,0,{t with a:=[]})) λ r5=>
 wx w1k r5.2 λ x6=>
 k x6.2
def F24:T24:=P24 F45
def X24:a0y:=λ i=>b0c i [] [(3,[(.exit 0,xk 36 [(2,.ptr 2 0),(3,.ptr 3 0)] [(2,.agg [.nil,.int .i64 0]),(3,.agg [.own 1000000 25 .clean [],.int .i64 0])])])]
def G24 (F:T24):GT:=λ β s k=>F β (rd1 s 0) (λ y1=>k (w11 y1))
abbrev W24 (F:T24):WT:=WU z69 (G24 F)
theorem k24 (F45:T45):KU [(45,W45 F45)] X24 24 Tryz.f24 z69 (G24 (P24 F45 )):=λ _ _ _=>by kernel_rfl
theorem a2t:a0l D 24 (W24 F24):=a0b Tryz.func24 (tc v0v tn) (k24 F45 )
def P78:T79:=λ β a b k=>
 br (decide (b > a)) (
 k b) (
 k a)
def F78:T79:=P78
theorem k78:KU [] noX 78 Tryz.f78 z59 (G79 (P78 )):=λ _ _ _=>by kernel_rfl
theorem d3e:a0l D 78 (W79 F78):=a0b Tryz.func78 tn (k78 )
abbrev T66:Type 1:=(β:Type)→U1→U9→(U1→Option β)→Option β
def P66 (F24:T24)(F79:T79)(F78:T79)(F45:T45):T66:=λ β t p k=>
 F24 _ t λ y1=>
 F79 _ t.b 6 λ n2=>
 F79 _ (nL y1.a) (wi (n2+1)) λ n3=>
 F78 _ 0 n3 λ n4=>
 cc 0 n4 (nL y1.a) <|
 F45 _ p λ y5=>
 ca ((y1.a.take n4.toNat).drop 0) ([w8 ⟨p.a,p.b,y5.a,y5.b,y5.c,y5.d,y5.e,y5.f,y5.g,y5.h,y5.i,y5.j,y5.k,y5.l,y5.m,y5.n,y5.o,y5.p,y5.q,y5.r,y5.s,y5.t,y5.u,y5.v,true⟩]:LV) 424 <|
 br (decide ((nL (((y1.a.take n4.toNat).drop 0)++([w8 ⟨p.a,p.b,y5.a,y5.b,y5.c,y5.d,y5.e,y5.f,y5.g,y5.h,y5.i,y5.j,y5.k,y5.l,y5.m,y5.n,y5.o,y5.p,y5.q,y5.r,y5.s,y5.t,y5.u,y5.v,true⟩]:LV))) > 6)) (
 cc 1 (nL (((y1.a.take n4.toNat).drop 0)++([w8 ⟨p.a,p.b,y5.a,y5.b,y5.c,y5.d,y5.e,y5.f,y5.g,y5.h,y5.i,y5.j,y5.k,y5.l,y5.m,y5.n,y5.o,y5.p,y5.q,y5.r,y5.s,y5.t,y5.u,y5.v,true⟩]:LV))) (nL (((y1.a.take n4.toNat).drop 0)++([w8 ⟨p.a,p.b,y5.a,y5.b,y5.c,y5.d,y5.e,y5.f,y5.g,y5.h,y5.i,y5.j,y5.k,y5.l,y5.m,y5.n,y5.o,y5.p,y5.q,y5.r,y5.s,y5.t,y5.u,y5.v,true⟩]:LV))) <|
 k ⟨((((y1.a.take n4.toNat).drop 0)++([w8 ⟨p.a,p.b,y5.a,y5.b,y5.c,y5.d,y5.e,y5.f,y5.g,y5.h,y5.i,y5.j,y5.k,y5.l,y5.m,y5.n,y5.o,y5.p,y5.q,y5.r,y5.s,y5.t,y5.u,y5.v,true⟩]:LV)).take ((nL (((y1.a.take n4.toNat).drop 0)++([w8 ⟨p.a,p.b,y5.a,y5.b,y5.c,y5.d,y5.e,y5.f,y5.g,y5.h,y5.i,y5.j,y5.k,y5.l,y5.m,y5.n,y5.o,y5.p,y5.q,y5.r,y5.s,y5.t,y5.u,y5.v,true⟩]:LV))).toNat)).drop 1,wi ((nL (((((y1.a.take n4.toNat).drop 0)++([w8 ⟨p.a,p.b,y5.a,y5.b,y5.c,y5.d,y5.e,y5.f,y5.g,y5.h,y5.i,y5.j,y5.k,y5.l,y5.m,y5.n,y5.o,y5.p,y5.q,y5.r,y5.s,y5.t,y5.u,y5.v,true⟩]:LV)).take ((nL (((y1.a.take n4.toNat).drop 0)++([w8 ⟨p.a,p.b,y5.a,y5.b,y5.c,y5.d,y5.e,y5.f,y5.g,y5.h,y5.i,y5.j,y5.k,y5.l,y5.m,y5.n,y5.o,y5.p,y5.q,y5.r,y5.s,y5.t,y5.u,y5.v,true⟩]:LV))).toNat)).drop 1)) - 1)⟩) (
 k ⟨((y1.a.take n4.toNat).drop 0)++([w8 ⟨p.a,p.b,y5.a,y5.b,y5.c,y5.d,y5.e,y5.f,y5.g,y5.h,y5.i,y5.j,y5.k,y5.l,y5.m,y5.n,y5.o,y5.p,y5.q,y5.r,y5.s,y5.t,y5.u,y5.v,true⟩]:LV),wi ((nL (((y1.a.take n4.toNat).drop 0)++([w8 ⟨p.a,p.b,y5.a,y5.b,y5.c,y5.d,y5.e,y5.f,y5.g,y5.h,y5.i,y5.j,y5.k,y5.l,y5.m,y5.n,y5.o,y5.p,y5.q,y5.r,y5.s,y5.t,y5.u,y5.v,true⟩]:LV))) - 1)⟩)
def F66:T66:=P66 F24 F79 F78 F45
def G66 (F:T66):GT:=λ β s k=>F β (rd1 s 0) (rd9 s 2) (λ y1=>k (w21 y1))
abbrev W66 (F:T66):WT:=WU z70 (G66 F)
theorem k66 (F24:T24)(F79:T79)(F78:T79)(F45:T45):KU [(24,W24 F24),(79,W79 F79),(78,W79 F78),(45,W45 F45)] noX 66 Tryz.f66 z70 (G66 (P66 F24 F79 F78 F45 )):=λ _ _ _=>by kernel_rfl
theorem c3z:a0l D 66 (W66 F66):=a0b Tryz.func66 (tc a2t (tc u2m (tc d3e (tc v0v tn)))) (k66 F24 F79 F78 F45 )
abbrev T68:Type 1:=(β:Type)→U1→Int→(U1→Bool→Option β)→Option β
def P68 (F24:T24)(F25:T25):T68:=λ β t xby k=>
 F24 _ t λ y1=>
 br (xby != 1) (
 br (xby != (-1)) (
 k y1 false) (
 F25 _ t.b 0 (wi ((nL t.a) - 1)) λ b2=>
 br (!b2) (
 k y1 false) (
 F25 _ (wi (t.b+xby)) 0 (wi ((nL t.a) - 1)) λ b3=>
 br (!b3) (
 k y1 false) (
 k {y1 with b:=wi (t.b+xby)} true)))) (
 F25 _ t.b 0 (wi ((nL t.a) - 1)) λ b4=>
 br (!b4) (
 k y1 false) (
 F25 _ (wi (t.b+xby)) 0 (wi ((nL t.a) - 1)) λ b5=>
 br (!b5) (
 k y1 false) (
 k {y1 with b:=wi (t.b+xby)} true)))
def F68:T68:=P68 F24 F25
def G68 (F:T68):GT:=λ β s k=>F β (rd1 s 0) (lI s 2) (λ y1 y2=>k (.tup [w11 y1,.bool y2]))
abbrev W68 (F:T68):WT:=WU z71 (G68 F)
theorem k68 (F24:T24)(F25:T25):KU [(24,W24 F24),(25,W25 F25)] noX 68 Tryz.f68 z71 (G68 (P68 F24 F25 )):=λ _ _ _=>by kernel_rfl
theorem d3a:a0l D 68 (W68 F68):=a0b Tryz.func68 (tc a2t (tc v0b tn)) (k68 F24 F25 )
abbrev k0o:Type 1:=(β:Type)→U0→(U1→U0→Option β)→Option β
def r1v (F65:T65)(d0i:o0h)(i0l:h0b)(F66:T66)(b0e:g0z)(F68:T68):k0o:=λ β c k=>
 F65 _  λ y1=>
 d0i _ [.int .i64 0,.int .i64 1,.int .i64 3,.int .i64 7] c λ n2 y3=>
 whl s2y (λ x4=>
 br (decide (x4.1 > 0)) (
 i0l _ x4.2.2.2 λ y5 y6=>
 F66 _ x4.2.2.1 y5 λ y7=>
 b0e _ 4 y6 λ b8 y9=>
 br b8 (
 F68 _ y7 (-1) λ y10 b11=>
 some (.inl (d2k (wi (x4.1 - 1),x4.2.1,y10,y9)))) (
 some (.inl (d2k (wi (x4.1 - 1),x4.2.1,y7,y9))))) (
 some (.inr (0,eS2 (x4.2.1,x4.2.2.1,x4.2.2.2))))) (d2k (n2,0,y1,y3)) λ r12=>
 wx dS2 r12.2 λ x13=>
 k x13.2.1 x13.2.2
def r0f:k0o:=r1v F65 d0i i0l F66 b0e F68
def h2o:a0y:=λ i=>b0c i [] [(3,[(.exit 0,xkb 25 26 [(2,.ptr 2 0),(3,.ptr 3 0)] [(2,.agg [.nil,.int .i64 0]),(3,.agg [.view 1000000 25 .clean [],.int .i64 0]),(25,.agg [.sl 1 true [],.int .i64 0,.int .i64 0])])])]
def n1e (F:k0o):GT:=λ β s k=>F β (rd0 s 0) (λ y1 y2=>k (.tup [w21 y1,w10 y2]))
abbrev x1r (F:k0o):WT:=WU z72 (n1e F)
theorem j2l (F65:T65)(d0i:o0h)(i0l:h0b)(F66:T66)(b0e:g0z)(F68:T68):KI [(65,W65 F65),(56,ioW (g1w d0i)),(51,ioW (s1m i0l)),(66,W66 F66),(67,ioW (u0c b0e)),(68,W68 F68)] h2o 55 ⟨[.pt],25,1,false⟩ Tryz.f55 z72 (n1e (r1v F65 d0i i0l F66 b0e F68 )):=λ _ _ _=>by kernel_rfl
theorem a2u:a0l D 55 (ioW (x1r r0f)):=a0x Tryz.func55 (tc c3y (tc c1k (tc r1i (tc c3z (tc n0z (tc d3a tn)))))) (j2l F65 d0i i0l F66 b0e F68 )
def s1c (b0a:h0a):c0m:=λ β c k=>
 b0a _ [.str [104,111,109,101],.str [99,100,110],.str [101,118,105,108],.str [104,111,109,101]] c λ t1 y2=>
 k t1 y2
def t0z:c0m:=s1c b0a
theorem j2s (b0a:h0a):KI [(77,ioW (u0d b0a))] noX 69 ⟨[.pt],6,1,false⟩ Tryz.f69 z68 (l0f (s1c b0a )):=λ _ _ _=>by kernel_rfl
theorem a2y:a0l D 69 (ioW (g1x t0z)):=a0x Tryz.func69 (tc o0a tn) (j2s b0a )
abbrev d1d:Type 1:=(β:Type)→U0→(U6→U0→Option β)→Option β
def r1x (t0z:c0m)(i0m:c0m):d1d:=λ β c k=>
 t0z _ c λ t1 y2=>
 i0m _ y2 λ t3 y4=>
 k ⟨t1,t3⟩ y4
def r0g:d1d:=r1x t0z i0m
def x1a (F:d1d):GT:=λ β s k=>F β (rd0 s 0) (λ y1 y2=>k (.tup [w2 y1,w10 y2]))
abbrev x1s (F:d1d):WT:=WU z73 (x1a F)
theorem j2n (t0z:c0m)(i0m:c0m):KI [(69,ioW (g1x t0z)),(63,ioW (g1x i0m))] noX 57 ⟨[.pt],10,1,false⟩ Tryz.f57 z73 (x1a (r1x t0z i0m )):=λ _ _ _=>by kernel_rfl
theorem a2v:a0l D 57 (ioW (x1s r0g)):=a0x Tryz.func57 (tc a2y (tc r1j tn)) (j2n t0z i0m )
def r1s (r0f:k0o)(a0s:f0e)(d0i:o0h)(r0g:d1d):k0o:=λ β c k=>
 r0f _ c λ y1 y2=>
 a0s _ 14 y2 λ n3 y4=>
 br (n3 == 0) (
 d0i _ [.int .i64 (-2),.int .i64 (-1),.int .i64 9,.int .i64 9223372036854775807,.int .i64 (-9223372036854775808)] y4 λ n5 y6=>
 k {y1 with b:=n5} y6) (
 br (n3 == 1) (
 br (decide ((nL y1.a) > 0)) (
 r0g _ y4 λ y7 y8=>
 ci 0 y1.a <|
 c0z y1.a 0 0 (w2 y7).cells λ l9=>
 k {y1 with a:=l9} y8) (
 k y1 y4)) (
 br (n3 == 2) (
 br (decide ((nL y1.a) > 0)) (
 ci 0 y1.a <|
 c0z y1.a 0 24 [.bool false] λ l10=>
 k {y1 with a:=l10} y4) (
 k y1 y4)) (
 k y1 y4)))
def f0o:k0o:=r1s r0f a0s d0i r0g
abbrev n1h (F:k0o):WT:=WU z74 (n1e F)
theorem j2i (r0f:k0o)(a0s:f0e)(d0i:o0h)(r0g:d1d):KI [(55,ioW (x1r r0f)),(43,ioW (o0i a0s)),(56,ioW (g1w d0i)),(57,ioW (x1s r0g))] noX 42 ⟨[.pt],37,1,false⟩ Tryz.f42 z74 (n1e (r1s r0f a0s d0i r0g )):=λ _ _ _=>by kernel_rfl
theorem j1y:a0l D 42 (ioW (n1h f0o)):=a0x Tryz.func42 (tc a2u (tc j0f (tc c1k (tc a2v tn)))) (j2i r0f a0s d0i r0g )
abbrev T19:Type 1:=(β:Type)→LV→(U1→Option β)→Option β
def P19 (f0n:r0n)(f0o:k0o):T19:=λ β code k=>
 f0n _ code λ y1=>
 f0o _ y1 λ y2 y3=>
 k y2
def F19:T19:=P19 f0n f0o
def G19 (F:T19):GT:=λ β s k=>F β (lL s 0) (λ y1=>k (w21 y1))
abbrev W19 (F:T19):WT:=WU z0 (G19 F)
theorem k19 (f0n:r0n)(f0o:k0o):KU [(41,ioW (n1g f0n)),(42,ioW (n1h f0o))] noX 19 Tryz.f19 z0 (G19 (P19 f0n f0o )):=λ _ _ _=>by kernel_rfl
theorem c3b:a0l D 19 (W19 F19):=a0b Tryz.func19 (tc j1x (tc j1y tn)) (k19 f0n f0o )
def P5 (F19:T19):T19:=λ β code k=>
 F19 _ code λ y1=>
 k y1
def F5:T19:=P5 F19
theorem k5 (F19:T19):KU [(19,W19 F19)] noX 5 Tryz.f5 z0 (G19 (P5 F19 )):=λ _ _ _=>by kernel_rfl
theorem ok5:a0l D 5 (W19 F5):=a0b Tryz.func5 (tc c3b tn) (k5 F19 )
def P52:T59:=λ β p k=>
 ca ([]:LV) p.b 16 <|
 ca ([]:LV) p.c 16 <|
 ca ([]:LV) p.d 16 <|
 k {p with b:=([]:LV)++p.b,c:=([]:LV)++p.c,d:=([]:LV)++p.d}
def F52:T59:=P52
theorem k52:KU [] noX 52 Tryz.f52 z15 (G59 (P52 )):=λ _ _ _=>by kernel_rfl
theorem c3s:a0l D 52 (W59 F52):=a0b Tryz.func52 tn (k52 )
abbrev T64:Type 1:=(β:Type)→U10→(U10→Option β)→Option β
def P64:T64:=λ β t k=>
 ca ([]:LV) t.c 32 <|
 k {t with c:=([]:LV)++t.c}
def F64:T64:=P64
def G64 (F:T64):GT:=λ β s k=>F β (r1l s 0) (λ y1=>k (w18 y1))
abbrev W64 (F:T64):WT:=WU z75 (G64 F)
theorem k64:KU [] noX 64 Tryz.f64 z75 (G64 (P64 )):=λ _ _ _=>by kernel_rfl
theorem c3x:a0l D 64 (W64 F64):=a0b Tryz.func64 tn (k64 )
def P53 (F64:T64):T70:=λ β l k=>
 whl d1m (λ x1=>
 br (decide (x1.2.2.2 < x1.2.2.1)) (
 c0 x1.2.2.2 <|
 ix5 x1.2.1 x1.2.2.2.toNat λ y2=>
 F64 _ y2 λ y3=>
 ca x1.1 ([w1 y3]:LV) 64 <|
 some (.inl (o0s (x1.1++([w1 y3]:LV),x1.2.1,x1.2.2.1,wi (x1.2.2.2+1))))) (
 some (.inr (0,eS8 x1.1)))) (o0s ([],l,(nL l),0)) λ r4=>
 wx dS8 r4.2 λ x5=>
 k x5
def F53:T70:=P53 F64
def X53:a0y:=λ i=>b0c i [] [(3,[(.exit 0,xk 20 [(3,.own 1000000 4 .clean [])] [])])]
theorem k53 (F64:T64):KU [(64,W64 F64)] X53 53 Tryz.f53 z30 (G60 (P53 F64 )):=λ _ _ _=>by kernel_rfl
theorem c3t:a0l D 53 (W60 F53):=a0b Tryz.func53 (tc c3x tn) (k53 F64 )
def P54:T61:=λ β b k=>
 ca ([]:LV) b.b 8 <|
 whl s2z (λ x1=>
 br (decide (x1.2.2.1 < x1.2.1)) (
 c0 x1.2.2.1 <|
 ix6 x1.1 x1.2.2.1.toNat λ y2=>
 ca ([]:LV) y2.d 32 <|
 ca x1.2.2.2.a ([w0 {y2 with d:=([]:LV)++y2.d}]:LV) 64 <|
 some (.inl (j2a (x1.1,x1.2.1,wi (x1.2.2.1+1),{x1.2.2.2 with a:=x1.2.2.2.a++([w0 {y2 with d:=([]:LV)++y2.d}]:LV)})))) (
 some (.inr (0,w1m x1.2.2.2)))) (j2a (b.a,(nL b.a),0,⟨[],([]:LV)++b.b⟩)) λ r3=>
 wx h2z r3.2 λ x4=>
 k x4
def F54:T61:=P54
def X54:a0y:=λ i=>b0c i [] [(3,[(.exit 0,xk 31 [(2,.ptr 2 0),(3,.ptr 3 0)] [(2,.agg [.nil,.nil]),(3,.agg [.own 1000000 4 .clean [],.own 1000001 1 .flat []])])])]
theorem k54:KU [] X54 54 Tryz.f54 z31 (G61 (P54 )):=λ _ _ _=>by kernel_rfl
theorem c3u:a0l D 54 (W61 F54):=a0b Tryz.func54 tn (k54 )
def P38 (F52:T59)(F53:T70)(F54:T61):T45:=λ β p k=>
 F52 _ ⟨p.c,p.d,p.e,p.f,p.g⟩ λ y1=>
 F53 _ p.i λ l2=>
 F54 _ ⟨p.k,p.l⟩ λ y3=>
 ca ([]:LV) p.m 96 <|
 ca ([]:LV) p.n 64 <|
 ca ([]:LV) p.o 32 <|
 ca ([]:LV) p.t 32 <|
 ca ([]:LV) p.u 16 <|
 k {p with c:=y1.a,d:=y1.b,e:=y1.c,f:=y1.d,g:=y1.e,i:=l2,k:=y3.a,l:=y3.b,m:=([]:LV)++p.m,n:=([]:LV)++p.n,o:=([]:LV)++p.o,t:=([]:LV)++p.t,u:=([]:LV)++p.u}
def F38:T45:=P38 F52 F53 F54
theorem k38 (F52:T59)(F53:T70)(F54:T61):KU [(52,W59 F52),(53,W60 F53),(54,W61 F54)] noX 38 Tryz.f38 z32 (G45 (P38 F52 F53 F54 )):=λ _ _ _=>by kernel_rfl
theorem l2u:a0l D 38 (W45 F38):=a0b Tryz.func38 (tc c3s (tc c3t (tc c3u tn))) (k38 F52 F53 F54 )
def P20 (F38:T45):T24:=λ β t k=>
 whl t2a (λ x1=>
 br (decide (x1.2.2.1 < x1.2.1)) (
 c0 x1.2.2.1 <|
 v0u x1.1 x1.2.2.1.toNat λ y2=>
 F38 _ ⟨y2.c,y2.d,y2.e,y2.f,y2.g,y2.h,y2.i,y2.j,y2.k,y2.l,y2.m,y2.n,y2.o,y2.p,y2.q,y2.r,y2.s,y2.t,y2.u,y2.v,y2.w,y2.x⟩ λ y3=>
 ca x1.2.2.2.2.a ([w8 ⟨y2.a,y2.b,y3.a,y3.b,y3.c,y3.d,y3.e,y3.f,y3.g,y3.h,y3.i,y3.j,y3.k,y3.l,y3.m,y3.n,y3.o,y3.p,y3.q,y3.r,y3.s,y3.t,y3.u,y3.v,y2.y⟩]:LV) 424 <|
 some (.inl (j2b (x1.1,x1.2.1,wi (x1.2.2.1+1),x1.2.2.2.1,{x1.2.2.2.2 with a:=x1.2.2.2.2.a++([w8 ⟨y2.a,y2.b,y3.a,y3.b,y3.c,y3.d,y3.e,y3.f,y3.g,y3.h,y3.i,y3.j,y3.k,y3.l,y3.m,y3.n,y3.o,y3.p,y3.q,y3.r,y3.s,y3.t,y3.u,y3.v,y2.y⟩]:LV)})))) (
 some (.inr (0,f1y (x1.2.2.2.1,x1.2.2.2.2))))) (j2b (t.a,(nL t.a),0,0,{t with a:=[]})) λ r4=>
 wx w1k r4.2 λ x5=>
 k x5.2
def F20:T24:=P20 F38
def X20:a0y:=λ i=>b0c i [] [(3,[(.exit 0,xk 28 [(2,.ptr 2 0),(3,.ptr 3 0)] [(2,.agg [.nil,.int .i64 0]),(3,.agg [.own 1000000 25 .clean [],.int .i64 0])])])]
theorem k20 (F38:T45):KU [(38,W45 F38)] X20 20 Tryz.f20 z69 (G24 (P20 F38 )):=λ _ _ _=>by kernel_rfl
theorem l2s:a0l D 20 (W24 F20):=a0b Tryz.func20 (tc l2u tn) (k20 F38 )
abbrev T21:Type 1:=(β:Type)→U1→(Bool→Option β)→Option β
def P21:T21:=λ β t k=>
 br (decide (t.b ≥ 0)) (
 k (decide (t.b < (nL t.a)))) (
 k false)
def F21:T21:=P21
def G21 (F:T21):GT:=λ β s k=>F β (rd1 s 0) (λ y1=>k (.bool y1))
abbrev W21 (F:T21):WT:=WU z69 (G21 F)
theorem k21:KU [] noX 21 Tryz.f21 z69 (G21 (P21 )):=λ _ _ _=>by kernel_rfl
theorem l2t:a0l D 21 (W21 F21):=a0b Tryz.func21 tn (k21 )
def P44:j0i:=λ β p k=>
 k p.v
def F44:j0i:=P44
theorem k44:KU [] noX 44 Tryz.f44 z32 (r1q (P44 )):=λ _ _ _=>by kernel_rfl
theorem c3o:a0l D 44 (y0r F44):=a0b Tryz.func44 tn (k44 )
def P17 (F44:j0i):j0i:=λ β p k=>
 F44 _ p λ b1=>
 k b1
def F17:j0i:=P17 F44
theorem k17 (F44:j0i):KU [(44,y0r F44)] noX 17 Tryz.f17 z32 (r1q (P17 F44 )):=λ _ _ _=>by kernel_rfl
theorem l2j:a0l D 17 (y0r F17):=a0b Tryz.func17 (tc c3o tn) (k17 F44 )
abbrev T16:Type 1:=(β:Type)→U1→Int→(U1→Option β)→Option β
def P16 (F20:T24):T16:=λ β t i k=>
 F20 _ t λ y1=>
 jt1 (λ (b2:Bool)=>
 br b2 (
 ci i y1.a <|
 c0z y1.a i.toNat 24 [.bool false] λ l3=>
 ci i l3 <|
 c0z l3 i.toNat 2 (w9 ⟨[],[],false,[],[],[],[],[],[],false,[],[],[],[],[],0,0,0,0,[],[],false⟩).cells λ l4=>
 k {y1 with a:=l4}) (
 k y1)) λ j5=>
 br (decide (i ≥ 0)) (
 j5 (decide (i < (nL t.a)))) (
 j5 false)
def F16:T16:=P16 F20
def G16 (F:T16):GT:=λ β s k=>F β (rd1 s 0) (lI s 2) (λ y1=>k (w11 y1))
abbrev W16 (F:T16):WT:=WU z71 (G16 F)
theorem k16 (F20:T24):KU [(20,W24 F20)] noX 16 Tryz.f16 z71 (G16 (P16 F20 )):=λ _ _ _=>by kernel_rfl
theorem u2h:a0l D 16 (W16 F16):=a0b Tryz.func16 (tc l2s tn) (k16 F20 )
abbrev T9:Type 1:=(β:Type)→U1→(Int→Option β)→Option β
def P9:T9:=λ β t k=>
 whl t2b (λ x1=>
 br (decide (x1.2.2.2 < x1.2.2.1)) (
 c0 x1.2.2.2 <|
 v0u x1.2.1 x1.2.2.2.toNat λ y2=>
 br y2.y (
 some (.inl (d2l (wi (x1.1+1),x1.2.1,x1.2.2.1,wi (x1.2.2.2+1))))) (
 some (.inl (d2l (x1.1,x1.2.1,x1.2.2.1,wi (x1.2.2.2+1)))))) (
 some (.inr (0,y0s x1.1)))) (d2l (0,t.a,(nL t.a),0)) λ r5=>
 wx q1w r5.2 λ x6=>
 k x6
def F9:T9:=P9
def X9:a0y:=λ i=>b0c i [] [(3,[(.exit 0,xk 19 [(3,.int .i64 0)] [])])]
def G9 (F:T9):GT:=λ β s k=>F β (rd1 s 0) (λ y1=>k (.int .i64 y1))
abbrev W9 (F:T9):WT:=WU z69 (G9 F)
theorem k9:KU [] X9 9 Tryz.f9 z69 (G9 (P9 )):=λ _ _ _=>by kernel_rfl
theorem ok9:a0l D 9 (W9 F9):=a0b Tryz.func9 tn (k9 )
def P6 (F20:T24)(F21:T21)(F17:j0i)(F16:T16)(F9:T9):T24:=λ β t k=>
 F20 _ t λ y1=>
 jt1 (λ (y8:U1)=>
 whl c2z (λ x9=>
 jt0 (ci x9.1 x9.2.2.a <|
 ia5 x9.2.2.a x9.1.toNat 24 λ b12=>
 br b12 (
 br (x9.1 != x9.2.2.b) (
 F16 _ x9.2.2 x9.1 λ y15=>
 some (.inl (f1z (wi (x9.1+1),x9.2.1,y15)))) (
 some (.inl (f1z (wi (x9.1+1),x9.2.1,x9.2.2))))) (
 some (.inl (f1z (wi (x9.1+1),x9.2.1,x9.2.2))))) λ j18=>
 br (decide (x9.1 < (nL x9.2.2.a))) (
 F9 _ x9.2.2 λ n10=>
 br (decide (n10 > 3)) (
 j18) (
 some (.inr (0,f1y (x9.2.1,x9.2.2))))) (
 some (.inr (0,f1y (x9.2.1,x9.2.2))))) (f1z (0,0,y8)) λ r19=>
 wx w1k r19.2 λ x20=>
 k x20.2) λ j21=>
 jt0 (whl c2z (λ x22=>
 jt0 (ci x22.1 x22.2.2.a <|
 ia5 x22.2.2.a x22.1.toNat 24 λ b25=>
 br b25 (
 br (x22.1 != x22.2.2.b) (
 F16 _ x22.2.2 x22.1 λ y28=>
 some (.inl (f1z (wi (x22.1+1),x22.2.1,y28)))) (
 some (.inl (f1z (wi (x22.1+1),x22.2.1,x22.2.2))))) (
 some (.inl (f1z (wi (x22.1+1),x22.2.1,x22.2.2))))) λ j31=>
 br (decide (x22.1 < (nL x22.2.2.a))) (
 F9 _ x22.2.2 λ n23=>
 br (decide (n23 > 3)) (
 j31) (
 some (.inr (0,f1y (x22.2.1,x22.2.2))))) (
 some (.inr (0,f1y (x22.2.1,x22.2.2))))) (f1z (0,0,y1)) λ r32=>
 wx w1k r32.2 λ x33=>
 k x33.2) λ j34=>
 F21 _ t λ b2=>
 br b2 (
 c0 t.b <|
 v0u t.a t.b.toNat λ y3=>
 F17 _ ⟨y3.c,y3.d,y3.e,y3.f,y3.g,y3.h,y3.i,y3.j,y3.k,y3.l,y3.m,y3.n,y3.o,y3.p,y3.q,y3.r,y3.s,y3.t,y3.u,y3.v,y3.w,y3.x⟩ λ b4=>
 br (!b4) (
 F16 _ y1 t.b λ y7=>
 j21 y7) (
 j34)) (
 j34)
def F6:T24:=P6 F20 F21 F17 F16 F9
def X6:a0y:=λ i=>b0c i [] [(5,[(.exit 0,xk 52 [(2,.ptr 2 0),(3,.ptr 3 0)] [(2,.agg [.nil,.int .i64 0]),(3,.agg [.own 1000000 25 .clean [],.int .i64 0])])])]
theorem k6 (F20:T24)(F21:T21)(F17:j0i)(F16:T16)(F9:T9):KU [(20,W24 F20),(21,W21 F21),(17,y0r F17),(16,W16 F16),(9,W9 F9)] X6 6 Tryz.f6 z69 (G24 (P6 F20 F21 F17 F16 F9 )):=λ _ _ _=>by kernel_rfl
theorem ok6:a0l D 6 (W24 F6):=a0b Tryz.func6 (tc l2s (tc l2t (tc l2j (tc u2h (tc ok9 tn))))) (k6 F20 F21 F17 F16 F9 )
def P46:j0i:=λ β p k=>
 k p.v
def F46:j0i:=P46
theorem k46:KU [] noX 46 Tryz.f46 z32 (r1q (P46 )):=λ _ _ _=>by kernel_rfl
theorem c3p:a0l D 46 (y0r F46):=a0b Tryz.func46 tn (k46 )
def P26 (F46:j0i):j0i:=λ β p k=>
 F46 _ p λ b1=>
 k b1
def F26:j0i:=P26 F46
theorem k26 (F46:j0i):KU [(46,y0r F46)] noX 26 Tryz.f26 z32 (r1q (P26 F46 )):=λ _ _ _=>by kernel_rfl
theorem u2i:a0l D 26 (y0r F26):=a0b Tryz.func26 (tc c3p tn) (k26 F46 )
def P27 (F24:T24)(F25:T25):T16:=λ β t i k=>
 F24 _ t λ y1=>
 F25 _ i 0 (wi ((nL t.a) - 1)) λ b2=>
 br (!b2) (
 k y1) (
 ci i y1.a <|
 c0z y1.a i.toNat 24 [.bool false] λ l3=>
 ci i l3 <|
 c0z l3 i.toNat 2 (w9 ⟨[],[],false,[],[],[],[],[],[],false,[],[],[],[],[],0,0,0,0,[],[],false⟩).cells λ l4=>
 k {y1 with a:=l4})
def F27:T16:=P27 F24 F25
theorem k27 (F24:T24)(F25:T25):KU [(24,W24 F24),(25,W25 F25)] noX 27 Tryz.f27 z71 (G16 (P27 F24 F25 )):=λ _ _ _=>by kernel_rfl
theorem c3d:a0l D 27 (W16 F27):=a0b Tryz.func27 (tc a2t (tc v0b tn)) (k27 F24 F25 )
def P28:T9:=λ β t k=>
 whl c2z (λ x1=>
 br (decide (x1.2.1 < (nL x1.2.2.a))) (
 c0 x1.2.1 <|
 v0u x1.2.2.a x1.2.1.toNat λ y2=>
 br y2.y (
 some (.inl (f1z (wi (x1.1+1),wi (x1.2.1+1),x1.2.2)))) (
 some (.inl (f1z (x1.1,wi (x1.2.1+1),x1.2.2))))) (
 some (.inr (0,y0s x1.1)))) (f1z (0,0,t)) λ r5=>
 wx q1w r5.2 λ x6=>
 k x6
def F28:T9:=P28
def X28:a0y:=λ i=>b0c i [] [(3,[(.exit 0,xk 21 [(3,.int .i64 0)] [])])]
theorem k28:KU [] X28 28 Tryz.f28 z69 (G9 (P28 )):=λ _ _ _=>by kernel_rfl
theorem c3e:a0l D 28 (W9 F28):=a0b Tryz.func28 tn (k28 )
end
end Go.Am

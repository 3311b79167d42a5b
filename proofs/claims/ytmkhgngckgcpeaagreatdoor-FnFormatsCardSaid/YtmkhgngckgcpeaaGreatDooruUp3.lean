/-
  Proved: lemmas for Rows.FnFormatsCardSaid.
-/
import Derived.Test.YtmkhgngckgcpeaaGreatDooruUp2
set_option linter.all false
set_option maxRecDepth 10000
namespace Go.Am
open Go Go.Proofs
noncomputable section
abbrev ux:Type 1:=(O:Type)->LU->LU->(LV->LU->Option O)->Option O
def MR (i6:vB)(qT:Aj):ux:=λO f s k=>
 cs f s <|
 bM XW (λa=>
 i6 _ a.2.1 60 λb=>
 fB (i6 _ a.2.1 62 λc=>
 fB (cc 1 c (nS a.2.1) <|
 qT _ ((a.2.1.take c.toNat).drop 1) λe g=>
 br g (
 ca a.1 ([w1 e]:LV) 64 <|
 cc (wi (c+1)) (nS a.2.1) (nS a.2.1) <|
 some (.inl (ES (a.1++([w1 e]:LV),(a.2.1.take ((nS a.2.1).toNat)).drop ((wi (c+1)).toNat),a.2.2)))) (
 cc (wi (c+1)) (nS a.2.1) (nS a.2.1) <|
 some (.inl (ES (a.1,(a.2.1.take ((nS a.2.1).toNat)).drop ((wi (c+1)).toNat),a.2.2))))) λCf=>
 br (b != 0) (
 some (.inr (0,vt (a.1,a.2.1)))) (
 br (c==(nS a.2.1)) (
 some (.inr (0,vt (a.1,a.2.1)))) (
 Cf))) λCg=>
 br (decide (b>0)) (
 br (decide (b<(nS a.2.1))) (
 cc 0 b (nS a.2.1) <|
 ca a.1 ([w1 ⟨3,[],[],(a.2.1.take b.toNat).drop 0⟩]:LV) 64 <|
 cc b (nS a.2.1) (nS a.2.1) <|
 some (.inl (ES (a.1++([w1 ⟨3,[],[],(a.2.1.take b.toNat).drop 0⟩]:LV),(a.2.1.take ((nS a.2.1).toNat)).drop b.toNat,a.2.2)))) (
 Cg)) (
 Cg)) (ES ([],f++s,[])) λr14=>
 wx XV r14.2 λd=>
 k d.1 d.2
def jF:ux:=MR i6 qT
def l0s:aH:=λi=>aL i [] [(3,[(.ret,xk 66 [(4,.own 1000000 4 .clean []),(5,.ptr 5 0)] [(5,.agg [.str []])])])]
def TR (F:ux):GT:=λO s k=>F O (lS s 0) (lS s 1) (λb a=>k (.tup [.own 0 4 .clean b,.agg [.str a]]))
abbrev Ol (F:ux):WT:=WU e1u (TR F)
theorem q0z (i6:vB)(qT:Aj):KU [(158,O2 i6),(159,Vc qT)] l0s 109 Tryz.f109 e1u (TR (MR i6 qT )):=λ_ _ _=>by kernel_rfl
theorem LO:aC D 109 (Ol jF):=aB Tryz.func109 (tc Lf (tc Zy tn)) (q0z i6 qT )
abbrev oc:Type 1:=(O:Type)->U8->LU->(U8->Option O)->Option O
def l0a (a8:dH)(jF:ux):oc:=λO p s k=>
 a8 _ p λa=>
 br p.j (
 k a) (
 jF _ p.h s λl2 t3=>
 ca a.i l2 64 <|
 k {a with h:=t3,i:=a.i++l2})
def kv:oc:=l0a a8 jF
def j0s (F:oc):GT:=λO s k=>F O (dr s 0) (lS s 22) (λa=>k (GU a))
abbrev PN (F:oc):WT:=WU b1n (j0s F)
theorem j1a (a8:dH)(jF:ux):KU [(79,ng a8),(109,Ol jF)] a_ 75 Tryz.f75 b1n (j0s (l0a a8 jF )):=λ_ _ _=>by kernel_rfl
theorem JQ:aC D 75 (PN kv):=aB Tryz.func75 (tc iC (tc LO tn)) (j1a a8 jF )
abbrev iQ:Type 1:=(O:Type)->LU->(LV->Option O)->Option O
def MU:iQ:=λO a k=>
 br (a==[]) (
 k []) (
 idxS a 0 λb=>
 br (b==60) (
 k []) (
 k [w1 ⟨3,[],[],a⟩]))
def jG:iQ:=MU
def HT (F:iQ):GT:=λO s k=>F O (lS s 0) (λa=>k (.own 0 4 .clean a))
abbrev Om (F:iQ):WT:=WU i0q (HT F)
theorem r0b:KU [] a_ 112 Tryz.f112 i0q (HT (MU )):=λ_ _ _=>by kernel_rfl
theorem LP:aC D 112 (Om jG):=aB Tryz.func112 tn (r0b )
def l0b (a8:dH)(jG:iQ):dH:=λO p k=>
 a8 _ p λa=>
 br p.j (
 k a) (
 jG _ p.h λl2=>
 ca a.i l2 64 <|
 k {a with h:=[],i:=a.i++l2,j:=true})
def kx:dH:=l0b a8 jG
theorem j1b (a8:dH)(jG:iQ):KU [(79,ng a8),(112,Om jG)] a_ 78 Tryz.f78 kq (j0t (l0b a8 jG )):=λ_ _ _=>by kernel_rfl
theorem JR:aC D 78 (ng kx):=aB Tryz.func78 (tc iC (tc LP tn)) (j1b a8 jG )
def C6 (kw:eL)(ed:bD)(kv:oc)(aP:cQ)(kx:dH):eL:=λO c k=>
 kw _ c λg f=>
 ed _ f λt3 e=>
 kv _ g t3 λb=>
 aP _ 3 e λh a=>
 br (!h) (
 kx _ b λd=>
 k d a) (
 k b a)
def kr:eL:=C6 kw ed kv aP kx
def J8 (F:eL):GT:=λO s k=>F O (fx s 0) (λb a=>k (.tup [GU b,ol a]))
abbrev KM (F:eL):WT:=WU TM (J8 F)
theorem ZI (kw:eL)(ed:bD)(kv:oc)(aP:cQ)(kx:dH):KI [(76,ah (KP kw)),(77,ah (Ds ed)),(75,PN kv),(51,ah (ir aP)),(78,ng kx)] a_ 50 ⟨[.pt],15,1,false⟩ Tryz.f50 TM (J8 (C6 kw ed kv aP kx )):=λ_ _ _=>by kernel_rfl
theorem Q5:aC D 50 (ah (KM kr)):=aO Tryz.func50 (tc Q8 (tc FD (tc JQ (tc fh (tc JR tn))))) (ZI kw ed kv aP kx )
abbrev dq:Type 1:=(O:Type)->U8->(Bool->Option O)->Option O
def MY:dq:=λO p k=>
 bM XX (λb=>
 br (decide (b.1<(nL b.2.m))) (
 c0 b.1 <|
 pM b.2.m b.1.toNat λe=>
 br (e.a==2) (
 c0 b.1 <|
 pM b.2.m b.1.toNat λd=>
 br (!d.f) (
 some (.inr (1,lf false))) (
 some (.inl (IY (wi (b.1+1),b.2))))) (
 some (.inl (IY (wi (b.1+1),b.2))))) (
 some (.inr (0,[])))) (IY (0,p)) λr5=>
 if r5.1=0 then
 k true
 else
 wx Bc r5.2 λc=>
 k c
def gj:dq:=MY
def l0v:aH:=λi=>aL i [] [(2,[(.exit 0,xk 27 [] []),(.ret,xk 27 [(2,.bool false)] [])])]
def AV (F:dq):GT:=λO s k=>F O (dr s 0) (λa=>k (.bool a))
abbrev mG (F:dq):WT:=WU kq (AV F)
theorem r0f:KU [] l0v 116 Tryz.f116 kq (AV (MY )):=λ_ _ _=>by kernel_rfl
theorem LQ:aC D 116 (mG gj):=aB Tryz.func116 tn (r0f )
abbrev AY:Type 1:=(O:Type)->U7->Int->(LU->Option O)->Option O
def Ma:AY:=λO b n k=>
 bM XY (λd=>
 br (decide (d.2.2.1<(nL d.2.2.2.a))) (
 c0 d.2.2.1 <|
 Ep d.2.2.2.a d.2.2.1.toNat λh=>
 br (h.c==d.1) (
 c0 d.2.2.1 <|
 Ep d.2.2.2.a d.2.2.1.toNat λg=>
 br (g.a==[]) (
 c0 d.2.2.1 <|
 Ep d.2.2.2.a d.2.2.1.toNat λf=>
 cs d.2.1 f.b <|
 some (.inl (ET (d.1,d.2.1++f.b,wi (d.2.2.1+1),d.2.2.2)))) (
 some (.inl (ET (d.1,d.2.1,wi (d.2.2.1+1),d.2.2.2))))) (
 some (.inl (ET (d.1,d.2.1,wi (d.2.2.1+1),d.2.2.2))))) (
 some (.inr (0,uC d.2.1)))) (ET (n,[],0,b)) λr9=>
 wx Pv r9.2 λe=>
 k e
def qH:AY:=Ma
def l0x:aH:=λi=>aL i [] [(3,[(.exit 0,xk 40 [(5,.str [])] [])])]
def TX (F:AY):GT:=λO s k=>F O (wm s 0) (lI s 2) (λa=>k (.str a))
abbrev VV (F:AY):WT:=WU e1v (TX F)
theorem r0h:KU [] l0x 118 Tryz.f118 e1v (TX (Ma )):=λ_ _ _=>by kernel_rfl
theorem Zk:aC D 118 (VV qH):=aB Tryz.func118 tn (r0h )
abbrev A6:Type 1:=(O:Type)->(LV->Option O)->Option O
def Nz:A6:=λO  k=>
 k [.str [],.str [119,114,105,116,101,32],.str [97,100,100,32],.str [99,111,117,110,116,32],.str [108,111,111,107,32],.str [115,97,121,32]]
def tN:A6:=Nz
def Un (F:A6):GT:=λO s k=>F O  (λa=>k (.own 0 1 .flat a))
abbrev V2 (F:A6):WT:=WU MH (Un F)
theorem u0m:KU [] a_ 236 Tryz.f236 MH (Un (Nz )):=λ_ _ _=>by kernel_rfl
theorem a0v:aC D 236 (V2 tN):=aB Tryz.func236 tn (u0m )
abbrev As:Type 1:=(O:Type)->LU->(U11->Bool->Option O)->Option O
def NZ (tN:A6)(aw:cW):As:=λO s k=>
 tN _  λl1=>
 bM XZ (λa=>
 br (decide (a.2.2.1<(nL a.2.1))) (
 ci a.2.2.1 a.2.1 <|
 fO a.2.1 a.2.2.1.toNat 0 λt3=>
 mq (λ(g:Bool)=>
 br g (
 cc (nS t3) (nS a.1) (nS a.1) <|
 mq (λ(c:Bool)=>
 br c (
 br (decide ((nS ((a.1.take ((nS a.1).toNat)).drop ((nS t3).toNat)))<=60)) (
 some (.inr (1,Bj (true,⟨a.2.2.1,(a.1.take ((nS a.1).toNat)).drop ((nS t3).toNat)⟩)))) (
 br (!c) (
 aw _ ((a.1.take ((nS a.1).toNat)).drop ((nS t3).toNat)) λe=>
 some (.inr (1,Bj (e,⟨a.2.2.1,(a.1.take ((nS a.1).toNat)).drop ((nS t3).toNat)⟩)))) (
 some (.inr (1,Bj (false,⟨a.2.2.1,(a.1.take ((nS a.1).toNat)).drop ((nS t3).toNat)⟩)))))) (
 br (!c) (
 aw _ ((a.1.take ((nS a.1).toNat)).drop ((nS t3).toNat)) λd=>
 some (.inr (1,Bj (d,⟨a.2.2.1,(a.1.take ((nS a.1).toNat)).drop ((nS t3).toNat)⟩)))) (
 some (.inr (1,Bj (false,⟨a.2.2.1,(a.1.take ((nS a.1).toNat)).drop ((nS t3).toNat)⟩)))))) λj9=>
 br (a.2.2.1==1) (
 j9 true) (
 j9 (a.2.2.1==5))) (
 some (.inl (QG (a.1,a.2.1,wi (a.2.2.1+1),a.2.2.2))))) λCf=>
 br (decide ((nS a.1) >= (nS t3))) (
 cc 0 (nS t3) (nS a.1) <|
 Cf ((a.1.take ((nS t3).toNat)).drop 0==t3)) (
 Cf false)) (
 some (.inr (0,YZ a.2.2.2)))) (QG (s,l1,1,⟨0,[]⟩)) λr11=>
 if r11.1=0 then
 wx o0f r11.2 λf=>
 k ⟨0,[]⟩ false
 else
 wx o0g r11.2 λb=>
 k b.2 b.1
def qf:As:=NZ tN aw
def m0t:aH:=λi=>aL i [] [(3,[(.exit 0,xk 63 [(2,.ptr 2 0)] [(2,.agg [.int .i64 0,.str []])]),(.ret,xk 63 [(2,.ptr 2 0),(3,.bool false)] [(2,.agg [.int .i64 0,.str []])])])]
def UV (F:As):GT:=λO s k=>F O (lS s 0) (λb a=>k (.tup [w3 b,.bool a]))
abbrev Vm (F:As):WT:=WU qE (UV F)
theorem t0o (tN:A6)(aw:cW):KU [(236,V2 tN),(101,gx aw)] m0t 205 Tryz.f205 qE (UV (NZ tN aw )):=λ_ _ _=>by kernel_rfl
theorem a0c:aC D 205 (Vm qf):=aB Tryz.func205 (tc a0v (tc mc tn)) (t0o tN aw )
abbrev vD:Type 1:=(O:Type)->LU->(LV->Bool->Option O)->Option O
def M2 (cP:oH)(qf:As):vD:=λO s k=>
 br (s==[]) (
 k [] true) (
 cP _ s 59 λl1=>
 bM vl (λa=>
 br (decide (a.2.2<(nL a.2.1))) (
 ci a.2.2 a.2.1 <|
 fO a.2.1 a.2.2.toNat 0 λt3=>
 qf _ t3 λb d=>
 br (!d) (
 some (.inr (1,QH ([],false,a.1)))) (
 br (decide ((nL a.2.1)>6)) (
 some (.inr (1,QH ([],false,a.1)))) (
 ca a.1 ([w3 b]:LV) 24 <|
 some (.inl (ld (a.1++([w3 b]:LV),a.2.1,wi (a.2.2+1))))))) (
 some (.inr (0,fo a.1)))) (ld ([],l1,0)) λr7=>
 if r7.1=0 then
 wx ru r7.2 λe=>
 k e true
 else
 wx o0h r7.2 λc=>
 k c.1 c.2.1)
def jP:vD:=M2 cP qf
def m0f:aH:=λi=>aL i [] [(6,[(.exit 0,xk 42 [(4,.own 1000000 2 .flat [])] []),(.ret,xk 42 [(2,.own 1000000 2 .flat []),(3,.bool false),(4,.own 1000001 2 .flat [])] [])])]
def T7 (F:vD):GT:=λO s k=>F O (lS s 0) (λb a=>k (.tup [.own 0 2 .flat b,.bool a]))
abbrev O3 (F:vD):WT:=WU qE (T7 F)
theorem s0i (cP:oH)(qf:As):KU [(203,BR cP),(205,Vm qf)] m0f 163 Tryz.f163 qE (T7 (M2 cP qf )):=λ_ _ _=>by kernel_rfl
theorem Lh:aC D 163 (O3 jP):=aB Tryz.func163 (tc AB (tc a0c tn)) (s0i cP qf )
abbrev iT:Type 1:=(O:Type)->Int->(LU->Option O)->Option O
def g0w:iT:=λO n k=>
 br (n==0) (
 k [48]) (
 bM Xa (λa=>
 br (a.2.2 != 0) (
 br (decide (Int.tmod a.2.2 10<0)) (
 strO [.int .u8 (IntKind.wrap .u8 (wi (48+(IntKind.wrap .i64 (0-(Int.tmod a.2.2 10))))))] λc=>
 cs c a.2.1 <|
 some (.inl (uB (a.1,c++a.2.1,IntKind.wrap .i64 (Int.tdiv a.2.2 10))))) (
 strO [.int .u8 (IntKind.wrap .u8 (wi (48+(Int.tmod a.2.2 10))))] λd=>
 cs d a.2.1 <|
 some (.inl (uB (a.1,d++a.2.1,IntKind.wrap .i64 (Int.tdiv a.2.2 10)))))) (
 some (.inr (0,EU (a.1,a.2.1))))) (uB (n,[],n)) λr8=>
 wx o0j r8.2 λb=>
 br (decide (b.1<0)) (
 cs ([45]:LU) b.2 <|
 k ([45]++b.2)) (
 k b.2))
def dp:iT:=g0w
def g1i:aH:=λi=>aL i [] [(5,[(.exit 0,xk 31 [(0,.int .i64 0),(3,.str [])] [])])]
def VN (F:iT):GT:=λO s k=>F O (lI s 0) (λa=>k (.str a))
abbrev ta (F:iT):WT:=WU Su (VN F)
theorem i1i:KU [] g1i 37 Tryz.f37 Su (VN (g0w )):=λ_ _ _=>by kernel_rfl
theorem yY:aC D 37 (ta dp):=aB Tryz.func37 tn (i1i )
abbrev A8:Type 1:=(O:Type)->LU->(Int->Bool->Option O)->Option O
def N7 (aU:dK)(dp:iT):A8:=λO s k=>
 aU _ (nS s) 1 13 λg=>
 br (!g) (
 k 0 false) (
 bM Pq (λa=>
 br (decide (a.2.2<(nS a.1))) (
 idxS a.1 a.2.2 λh=>
 aU _ (IntKind.wrap .i64 h) 48 57 λf=>
 br (!f) (
 some (.inr (1,Ya (a.1,0,false,a.2.1)))) (
 idxS a.1 a.2.2 λd=>
 some (.inl (EQ (a.1,wi ((wi (10*a.2.1))+(IntKind.wrap .i64 (wr .u8 (d-48)))),wi (a.2.2+1)))))) (
 some (.inr (0,qD (a.1,a.2.1))))) (EQ (s,0,0)) λr6=>
 if r6.1=0 then
 wx S6 r6.2 λb=>
 br (decide (b.2>1000000000000)) (
 k 0 false) (
 dp _ b.2 λe=>
 br (!(e==b.1)) (
 k 0 false) (
 k b.2 true))
 else
 wx o0i r6.2 λc=>
 k c.2.1 c.2.2.1)
def qy:A8:=N7 aU dp
def n0c:aH:=λi=>aL i [] [(5,[(.exit 0,xk 39 [(0,.str []),(4,.int .i64 0)] []),(.ret,xk 39 [(0,.str []),(2,.int .i64 0),(3,.bool false),(4,.int .i64 0)] [])])]
def Up (F:A8):GT:=λO s k=>F O (lS s 0) (λb a=>k (.tup [.int .i64 b,.bool a]))
abbrev V6 (F:A8):WT:=WU qE (Up F)
theorem u0p (aU:dK)(dp:iT):KU [(65,ko aU),(37,ta dp)] n0c 240 Tryz.f240 qE (Up (N7 aU dp )):=λ_ _ _=>by kernel_rfl
theorem b0a:aC D 240 (V6 qy):=aB Tryz.func240 (tc eI (tc yY tn)) (u0p aU dp )
def Nb (cP:oH)(aw:cW)(qy:A8)(aU:dK):iQ:=λO s k=>
 cP _ s 59 λl1=>
 bM Xb (λa=>
 fB (ci a.2.1 a.1 <|
 fO a.1 a.2.1.toNat 0 λl=>
 cP _ l 58 λc=>
 fB (ci 1 c <|
 fO c 1 0 λm=>
 qy _ m λb f=>
 mq (λ(e:Bool)=>
 br e (
 ci 0 c <|
 fO c 0 0 λd=>
 ca a.2.2 ([w4 ⟨d,b⟩]:LV) 24 <|
 some (.inl (Bk (a.1,wi (a.2.1+1),a.2.2++([w4 ⟨d,b⟩]:LV))))) (
 some (.inl (Bk (a.1,wi (a.2.1+1),a.2.2))))) λLF=>
 br f (
 aU _ b 1 999 λg=>
 LF g) (
 LF false)) λLG=>
 br ((nL c) != 2) (
 some (.inl (Bk (a.1,wi (a.2.1+1),a.2.2)))) (
 ci 0 c <|
 fO c 0 0 λn=>
 aw _ n λj=>
 br (!j) (
 some (.inl (Bk (a.1,wi (a.2.1+1),a.2.2)))) (
 LG))) λI1=>
 br (decide (a.2.1<(nL a.1))) (
 br (decide ((nL a.2.2)<8)) (
 I1) (
 some (.inr (0,fo a.2.2)))) (
 some (.inr (0,fo a.2.2)))) (Bk (l1,0,[])) λh=>
 wx ru h.2 λi=>
 k i
def qh:iQ:=Nb cP aw qy aU
def m0u:aH:=λi=>aL i [] [(4,[(.exit 0,xk 62 [(2,.ptr 2 0),(3,.ptr 3 0)] [(2,.agg [.nil]),(3,.agg [.own 1000000 2 .flat []])])])]
def UX (F:iQ):GT:=λO s k=>F O (lS s 0) (λa=>k (.agg [.own 0 2 .flat a]))
abbrev Vo (F:iQ):WT:=WU qE (UX F)
theorem t0q (cP:oH)(aw:cW)(qy:A8)(aU:dK):KU [(203,BR cP),(101,gx aw),(240,V6 qy),(65,ko aU)] m0u 207 Tryz.f207 qE (UX (Nb cP aw qy aU )):=λ_ _ _=>by kernel_rfl
theorem a0e:aC D 207 (Vo qh):=aB Tryz.func207 (tc AB (tc mc (tc b0a (tc eI tn)))) (t0q cP aw qy aU )
abbrev bV:Type 1:=(O:Type)->U8->(LV->Option O)->Option O
def M4 (qh:iQ):bV:=λO p k=>
 bM vm (λb=>
 br (decide (b.2.1<(nL b.2.2.m))) (
 c0 b.2.1 <|
 pM b.2.2.m b.2.1.toNat λc=>
 br (c.a==2) (
 br c.f (
 br (c.g==1) (
 qh _ c.h λd=>
 ca b.1 ([.agg [.sl 2 true d]]:LV) 24 <|
 some (.inl (ga (b.1++([.agg [.sl 2 true d]]:LV),wi (b.2.1+1),b.2.2)))) (
 some (.inl (ga (b.1,wi (b.2.1+1),b.2.2))))) (
 some (.inl (ga (b.1,wi (b.2.1+1),b.2.2))))) (
 some (.inl (ga (b.1,wi (b.2.1+1),b.2.2))))) (
 some (.inr (0,fo b.1)))) (ga ([],0,p)) λr8=>
 wx ru r8.2 λe=>
 k e
def jR:bV:=M4 qh
def m0h:aH:=λi=>aL i [] [(3,[(.exit 0,xk 38 [(3,.own 1000000 1 .clean [])] [])])]
def T9 (F:bV):GT:=λO s k=>F O (dr s 0) (λa=>k (.own 0 1 .clean a))
abbrev O5 (F:bV):WT:=WU kq (T9 F)
theorem s0k (qh:iQ):KU [(207,Vo qh)] m0h 165 Tryz.f165 kq (T9 (M4 qh )):=λ_ _ _=>by kernel_rfl
theorem Lj:aC D 165 (O5 jR):=aB Tryz.func165 (tc a0e tn) (s0k qh )
abbrev DR:Type 1:=(O:Type)->LU->(LU->Option O)->Option O
def qv:DR:=λO a k=>I7 O a k
def j0f (F:DR):GT:=λO s k=>F O (lS s 0) (λa=>k (.str a))
abbrev V3 (F:DR):WT:=WU qE (j0f F)
theorem a0x:aC D 237 (V3 qv):=mQ (λ_ _ _=>by kernel_rfl) (RH (λ_=>rfl))
abbrev A7:Type 1:=(O:Type)->U7->LU->(Int->Option O)->Option O
def N1:A7:=λO b name k=>
 bM Xc (λc=>
 br (decide (c.2.2.1<(nL c.2.2.2.a))) (
 c0 c.2.2.1 <|
 Ep c.2.2.2.a c.2.2.1.toNat λe=>
 br (e.a==c.1) (
 some (.inl (IZ (c.1,wi (c.2.1+1),wi (c.2.2.1+1),c.2.2.2)))) (
 some (.inl (IZ (c.1,c.2.1,wi (c.2.2.1+1),c.2.2.2))))) (
 some (.inr (0,cY c.2.1)))) (IZ (name,0,0,b)) λr5=>
 wx iX r5.2 λd=>
 k d
def qw:A7:=N1
def WZ:aH:=λi=>aL i [] [(3,[(.exit 0,xk 25 [(5,.int .i64 0)] [])])]
def Uo (F:A7):GT:=λO s k=>F O (wm s 0) (lS s 2) (λa=>k (.int .i64 a))
abbrev V4 (F:A7):WT:=WU e1w (Uo F)
theorem u0n:KU [] WZ 238 Tryz.f238 e1w (Uo (N1 )):=λ_ _ _=>by kernel_rfl
theorem a0y:aC D 238 (V4 qw):=aB Tryz.func238 tn (u0n )
def N2:BN:=λO l name k=>
 bM Bb (λd=>
 br (decide (d.2.2 >= 0)) (
 c0 d.2.2 <|
 TA d.1 d.2.2.toNat λl2=>
 bM Ps (λc=>
 br (decide (c.2.2.2 >= 0)) (
 c0 c.2.2.1 <|
 TA c.1 c.2.2.1.toNat λj=>
 c0 c.2.2.2 <|
 El j c.2.2.2.toNat λm=>
 br (m.a==c.2.1) (
 c0 c.2.2.1 <|
 TA c.1 c.2.2.1.toNat λi=>
 c0 c.2.2.2 <|
 El i c.2.2.2.toNat λh=>
 some (.inr (1,EV (c.1,c.2.1,h.b,c.2.2.1)))) (
 some (.inl (EV (c.1,c.2.1,c.2.2.1,wi (c.2.2.2-1)))))) (
 some (.inr (0,pC (c.1,c.2.1,c.2.2.1))))) (EV (d.1,d.2.1,d.2.2,wi ((nL l2)-1))) λr8=>
 if r8.1=0 then
 wx Bb r8.2 λe=>
 some (.inl (pC (e.1,e.2.1,wi (e.2.2-1))))
 else
 wx Ps r8.2 λf=>
 some (.inr (1,cY f.2.2.1))) (
 some (.inr (0,[])))) (pC (l,name,wi ((nL l)-1))) λr11=>
 if r11.1=0 then
 k 0
 else
 wx iX r11.2 λg=>
 k g
def qx:BN:=N2
def n0b:aH:=λi=>aL i [] [(2,[(.exit 0,xk 45 [] []),(.ret,xk 45 [(4,.int .i64 0)] [])]),(5,[(.exit 2,xk 45 [(0,.sl 1 false []),(1,.str []),(5,.int .i64 0)] []),(.ret,xk 45 [(0,.sl 1 false []),(1,.str []),(4,.int .i64 0),(5,.int .i64 0)] [])])]
abbrev V5 (F:BN):WT:=WU e1x (g0o F)
theorem u0o:KU [] n0b 239 Tryz.f239 e1x (g0o (N2 )):=λ_ _ _=>by kernel_rfl
theorem a0z:aC D 239 (V5 qx):=aB Tryz.func239 tn (u0o )
abbrev Au:Type 1:=(O:Type)->U7->LV->U11->(U7->LU->LU->Option O)->Option O
def Na (dX:oD)(qv:DR)(aU:dK)(aw:cW)(qw:A7)(dp:iT)(qx:BN):Au:=λO b c x k=>
 dX _ b λd=>
 br (x.a==1) (
 qv _ x.b λm=>
 k d m []) (
 br (x.a==2) (
 mq (λ(h:Bool)=>
 br h (
 ca d.a ([w0 ⟨x.b,[],0,[]⟩]:LV) 64 <|
 k {d with a:=d.a++([w0 ⟨x.b,[],0,[]⟩]:LV)} [] []) (
 k d [] [])) λj6=>
 aU _ (nL b.a) 1 39 λl=>
 br l (
 aw _ x.b λi=>
 j6 i) (
 j6 false)) (
 br (x.a==3) (
 cs ([99,111,117,110,116,32]:LU) x.b <|
 cs ([99,111,117,110,116,32]++x.b:LU) ([32]:LU) <|
 qw _ b x.b λj=>
 dp _ j λg=>
 cs (([99,111,117,110,116,32]++x.b)++[32]) g <|
 k d [] ((([99,111,117,110,116,32]++x.b)++[32])++g)) (
 br (x.a==4) (
 cs ([108,111,111,107,32]:LU) x.b <|
 cs ([108,111,111,107,32]++x.b:LU) ([32]:LU) <|
 qx _ c x.b λf=>
 dp _ f λe=>
 cs (([108,111,111,107,32]++x.b)++[32]) e <|
 k d [] ((([108,111,111,107,32]++x.b)++[32])++e)) (
 br (x.a==5) (
 cs ([115,97,121,32]:LU) x.b <|
 k d [] ([115,97,121,32]++x.b)) (
 k d [] [])))))
def qg:Au:=Na dX qv aU aw qw dp qx
def UW (F:Au):GT:=λO s k=>F O (wm s 0) (lL s 2) (Ja s 3) (λb a c=>k (.tup [i0l b,.str a,.str c]))
abbrev Vn (F:Au):WT:=WU e1y (UW F)
theorem t0p (dX:oD)(qv:DR)(aU:dK)(aw:cW)(qw:A7)(dp:iT)(qx:BN):KU [(115,DV dX),(237,V3 qv),(65,ko aU),(101,gx aw),(238,V4 qw),(37,ta dp),(239,V5 qx)] a_ 206 Tryz.f206 e1y (UW (Na dX qv aU aw qw dp qx )):=λ_ _ _=>by kernel_rfl
theorem a0d:aC D 206 (Vn qg):=aB Tryz.func206 (tc zv (tc a0x (tc eI (tc mc (tc a0y (tc yY (tc a0z tn))))))) (t0p dX qv aU aw qw dp qx )
abbrev vE:Type 1:=(O:Type)->U7->LV->LV->(U7->LU->LV->Option O)->Option O
def M3 (dX:oD)(qg:Au):vE:=λO b c l k=>
 dX _ b λh=>
 bM Xd (λa=>
 br (decide (a.2.2.2.2.1<(nL a.2.1))) (
 c0 a.2.2.2.2.1 <|
 Iw a.2.1 a.2.2.2.2.1.toNat λi=>
 qg _ a.2.2.2.2.2 a.1 i λg f e=>
 cs a.2.2.1 f <|
 br (!(e==[])) (
 ca a.2.2.2.1 ([.str e]:LV) 16 <|
 some (.inl (Ib (a.1,a.2.1,a.2.2.1++f,a.2.2.2.1++([.str e]:LV),wi (a.2.2.2.2.1+1),g)))) (
 some (.inl (Ib (a.1,a.2.1,a.2.2.1++f,a.2.2.2.1,wi (a.2.2.2.2.1+1),g))))) (
 some (.inr (0,Yb (a.2.2.1,a.2.2.2.1,a.2.2.2.2.2))))) (Ib (c,l,[],[],0,h)) λr9=>
 wx o0k r9.2 λd=>
 k d.2.2 d.1 d.2.1
def jQ:vE:=M3 dX qg
def m0g:aH:=λi=>aL i [] [(5,[(.exit 0,xk 49 [(6,.ptr 6 0),(9,.ptr 9 0),(10,.str []),(11,.own 1000002 1 .flat [])] [(6,.agg [.nil,.nil]),(9,.agg [.own 1000000 4 .clean [],.own 1000001 1 .flat []])])])]
def T8 (F:vE):GT:=λO s k=>F O (wm s 0) (lL s 2) (lL s 3) (λb a c=>k (.tup [i0l b,.str a,.own 3 1 .flat c]))
abbrev O4 (F:vE):WT:=WU e1z (T8 F)
theorem s0j (dX:oD)(qg:Au):KU [(115,DV dX),(206,Vn qg)] m0g 164 Tryz.f164 e1z (T8 (M3 dX qg )):=λ_ _ _=>by kernel_rfl
theorem Li:aC D 164 (O4 jQ):=aB Tryz.func164 (tc zv (tc a0d tn)) (s0j dX qg )
def M5 (jF:ux)(jG:iQ):iQ:=λO s k=>
 jF _ [] s λl1 b=>
 jG _ b λa=>
 ca l1 a 64 <|
 k (l1++a)
def qV:iQ:=M5 jF jG
abbrev Ve (F:iQ):WT:=WU qE (HT F)
theorem s0l (jF:ux)(jG:iQ):KU [(109,Ol jF),(112,Om jG)] a_ 166 Tryz.f166 qE (HT (M5 jF jG )):=λ_ _ _=>by kernel_rfl
theorem Z0:aC D 166 (Ve qV):=aB Tryz.func166 (tc LO (tc LP tn)) (s0l jF jG )
abbrev uy:Type 1:=(O:Type)->U8->LU->Bool->(U8->Option O)->Option O
def MZ (a8:dH)(jP:vD)(jR:bV)(jQ:vE)(qV:iQ):uy:=λO p h e k=>
 a8 _ p λf=>
 jP _ h λl2 q=>
 br (!q) (
 br (decide ((nL f.u)<40)) (
 ca f.u ([.str [101,114,114,111,114]]:LV) 16 <|
 k {f with u:=f.u++([.str [101,114,114,111,114]]:LV)}) (
 k f)) (
 jR _ p λr=>
 jQ _ ⟨p.k,p.l⟩ r l2 λm n o=>
 bM Xe (λc=>
 fB (ci c.2.2.2.1 c.2.2.1 <|
 fO c.2.2.1 c.2.2.2.1.toNat 0 λj=>
 ca c.2.2.2.2.2.2.2.2.2.2.2.2.2.2.2.u ([.str j]:LV) 16 <|
 some (.inl (QJ (c.1,c.2.1,c.2.2.1,wi (c.2.2.2.1+1),c.2.2.2.2.1,c.2.2.2.2.2.1,c.2.2.2.2.2.2.1,c.2.2.2.2.2.2.2.1,c.2.2.2.2.2.2.2.2.1,c.2.2.2.2.2.2.2.2.2.1,c.2.2.2.2.2.2.2.2.2.2.1,c.2.2.2.2.2.2.2.2.2.2.2.1,c.2.2.2.2.2.2.2.2.2.2.2.2.1,c.2.2.2.2.2.2.2.2.2.2.2.2.2.1,c.2.2.2.2.2.2.2.2.2.2.2.2.2.2.1,{c.2.2.2.2.2.2.2.2.2.2.2.2.2.2.2 with u:=c.2.2.2.2.2.2.2.2.2.2.2.2.2.2.2.u++([.str j]:LV)})))) λyP=>
 br (decide (c.2.2.2.1<(nL c.2.2.1))) (
 br (decide ((nL c.2.2.2.2.2.2.2.2.2.2.2.2.2.2.2.u)<40)) (
 yP) (
 some (.inr (0,QI (c.1,c.2.1,c.2.2.2.2.1,c.2.2.2.2.2.1,c.2.2.2.2.2.2.1,c.2.2.2.2.2.2.2.1,c.2.2.2.2.2.2.2.2.1,c.2.2.2.2.2.2.2.2.2.1,c.2.2.2.2.2.2.2.2.2.2.1,c.2.2.2.2.2.2.2.2.2.2.2.1,c.2.2.2.2.2.2.2.2.2.2.2.2.1,c.2.2.2.2.2.2.2.2.2.2.2.2.2.1,c.2.2.2.2.2.2.2.2.2.2.2.2.2.2.1,c.2.2.2.2.2.2.2.2.2.2.2.2.2.2.2))))) (
 some (.inr (0,QI (c.1,c.2.1,c.2.2.2.2.1,c.2.2.2.2.2.1,c.2.2.2.2.2.2.1,c.2.2.2.2.2.2.2.1,c.2.2.2.2.2.2.2.2.1,c.2.2.2.2.2.2.2.2.2.1,c.2.2.2.2.2.2.2.2.2.2.1,c.2.2.2.2.2.2.2.2.2.2.2.1,c.2.2.2.2.2.2.2.2.2.2.2.2.1,c.2.2.2.2.2.2.2.2.2.2.2.2.2.1,c.2.2.2.2.2.2.2.2.2.2.2.2.2.2.1,c.2.2.2.2.2.2.2.2.2.2.2.2.2.2.2))))) (QJ (e,n,o,0,[],[],false,[],[],false,0,0,0,0,false,{f with k:=m.a,l:=m.b})) λr13=>
 wx o0m r13.2 λd=>
 br d.1 (
 qV _ d.2.1 λg=>
 ca g d.2.2.2.2.2.2.2.2.2.2.2.2.2.i 64 <|
 k {d.2.2.2.2.2.2.2.2.2.2.2.2.2 with i:=g++d.2.2.2.2.2.2.2.2.2.2.2.2.2.i}) (
 k d.2.2.2.2.2.2.2.2.2.2.2.2.2))
def iN:uy:=MZ a8 jP jR jQ qV
def l0w:aH:=λi=>aL i [] [(10,[(.exit 0,xk 74 [(2,.bool false),(6,.ptr 6 0),(7,.ptr 7 0),(11,.str [])] [(6,.agg [.str [],.str [],.bool false,.nil,.nil,.nil,.str [],.str [],.nil,.bool false,.nil,.nil,.nil,.nil,.nil,.int .i64 0,.int .i64 0,.int .i64 0,.int .i64 0,.nil,.nil,.bool false]),(7,.agg [.str [],.str [],.bool false,.own 1000000 1 .flat [],.own 1000001 1 .flat [],.own 1000002 1 .flat [],.str [],.str [],.own 1000003 4 .clean [],.bool false,.own 1000004 4 .clean [],.own 1000005 1 .flat [],.own 1000006 8 .flat [],.own 1000007 5 .flat [],.own 1000008 2 .flat [],.int .i64 0,.int .i64 0,.int .i64 0,.int .i64 0,.own 1000009 2 .flat [],.own 1000010 1 .flat [],.bool false])])])]
def TW (F:uy):GT:=λO s k=>F O (dr s 0) (lS s 22) (lB s 23) (λa=>k (GU a))
abbrev On (F:uy):WT:=WU f1a (TW F)
theorem r0g (a8:dH)(jP:vD)(jR:bV)(jQ:vE)(qV:iQ):KU [(79,ng a8),(163,O3 jP),(165,O5 jR),(164,O4 jQ),(166,Ve qV)] l0w 117 Tryz.f117 f1a (TW (MZ a8 jP jR jQ qV )):=λ_ _ _=>by kernel_rfl
theorem LS:aC D 117 (On iN):=aB Tryz.func117 (tc iC (tc Lh (tc Lj (tc Li (tc Z0 tn))))) (r0g a8 jP jR jQ qV )
abbrev m9:Type 1:=(O:Type)->U7->LU->(U7->Option O)->Option O
def xi (aU:dK):m9:=λO b name k=>
 bM Xf (λc=>
 br (decide (c.2.1>0)) (
 ci c.2.1 c.2.2.b <|
 Is c.2.2.b c.2.1.toNat 0 λd=>
 aU _ d 0 (wi ((nL c.2.2.a)-1)) λh=>
 br h (
 ci d c.2.2.a <|
 fO c.2.2.a d.toNat 0 λe=>
 br (e==c.1) (
 cc 0 c.2.1 (nL c.2.2.b) <|
 some (.inr (1,Yc ({c.2.2 with b:=(c.2.2.b.take c.2.1.toNat).drop 0},{c.2.2 with b:=(c.2.2.b.take c.2.1.toNat).drop 0})))) (
 some (.inl (Ic (c.1,wi (c.2.1-1),c.2.2))))) (
 some (.inl (Ic (c.1,wi (c.2.1-1),c.2.2))))) (
 some (.inr (0,IX c.2.2)))) (Ic (name,wi ((nL b.b)-1),b)) λr6=>
 if r6.1=0 then
 wx XR r6.2 λf=>
 k f
 else
 wx o0n r6.2 λg=>
 k g.2
def gX:m9:=xi aU
def PY:aH:=λi=>aL i [] [(2,[(.exit 0,xk 43 [(2,.ptr 2 0),(4,.ptr 4 0)] [(2,.agg [.own 1000000 4 .clean [],.own 1000001 1 .flat []]),(4,.agg [.nil,.nil])]),(.ret,xk 43 [(2,.ptr 2 0),(4,.ptr 4 0)] [(2,.agg [.own 1000000 4 .clean [],.view 1000001 1 .flat []]),(4,.agg [.own 1000000 4 .clean [],.view 1000001 1 .flat []])])])]
def Cw (F:m9):GT:=λO s k=>F O (wm s 0) (lS s 2) (λa=>k (.tup [e1e a]))
abbrev Dl (F:m9):WT:=WU f1b (Cw F)
theorem Qw (aU:dK):KI [(65,ko aU)] PY 208 ⟨[.mv,.data],43,0,false⟩ Tryz.f208 f1b (Cw (xi aU )):=λ_ _ _=>by kernel_rfl
theorem JM:aC D 208 (ah (Dl gX)):=aO Tryz.func208 (tc eI tn) (Qw aU )
def Nc:cW:=λO name k=>
 br (name==[105,109,103]) (
 k true) (
 k (name==[108,105,110,107]))
def qi:cW:=Nc
theorem t0r:KU [] a_ 209 Tryz.f209 qE (Cl (Nc )):=λ_ _ _=>by kernel_rfl
theorem a0f:aC D 209 (gx qi):=aB Tryz.func209 tn (t0r )
abbrev Al:Type 1:=(O:Type)->U7->U9->(U7->Int->Option O)->Option O
def M6 (dX:oD)(gX:m9)(qi:cW)(fH:bT):Al:=λO b t k=>
 dX _ b λe=>
 br (t.a==2) (
 gX _ e t.b λi=>
 k i (-1)) (
 mq (λ(g:Bool)=>
 fB (c0 (wi ((nL b.b)-1)) <|
 Iy b.b ((wi ((nL b.b)-1)).toNat) λf=>
 fB (ca e.a ([w0 ⟨[],t.d,f,[]⟩]:LV) 64 <|
 br g (
 ca e.b ([.int .i64 (nL b.a)]:LV) 8 <|
 k ⟨e.a++([w0 ⟨[],t.d,f,[]⟩]:LV),e.b++([.int .i64 (nL b.a)]:LV)⟩ (nL b.a)) (
 k {e with a:=e.a++([w0 ⟨[],t.d,f,[]⟩]:LV)} (nL b.a))) λCg=>
 br (t.a==1) (
 fH _ t.c λh=>
 ca e.a ([w0 ⟨t.b,[],f,h⟩]:LV) 64 <|
 br g (
 ca e.b ([.int .i64 (nL b.a)]:LV) 8 <|
 k ⟨e.a++([w0 ⟨t.b,[],f,h⟩]:LV),e.b++([.int .i64 (nL b.a)]:LV)⟩ (nL b.a)) (
 k {e with a:=e.a++([w0 ⟨t.b,[],f,h⟩]:LV)} (nL b.a))) (
 br (t.a==3) (
 br (!(t.d==[])) (
 Cg) (
 k e (-1))) (
 k e (-1)))) λyP=>
 br (decide ((nL b.a) >= 40)) (
 k e (-1)) (
 br ((nL b.b)==0) (
 k e (-1)) (
 br g (
 br (decide ((nL b.b) >= 8)) (
 k e (-1)) (
 yP)) (
 yP)))) λyQ=>
 br (t.a==1) (
 qi _ t.b λj=>
 yQ (!j)) (
 yQ false))
def qW:Al:=M6 dX gX qi fH
def T_ (F:Al):GT:=λO s k=>F O (wm s 0) (TE s 2) (λb a=>k (.tup [e1e b,.int .i64 a]))
abbrev Vf (F:Al):WT:=WU b1o (T_ F)
theorem s0m (dX:oD)(gX:m9)(qi:cW)(fH:bT):KU [(115,DV dX),(208,ah (Dl gX)),(209,gx qi),(162,Hr fH)] a_ 167 Tryz.f167 b1o (T_ (M6 dX gX qi fH )):=λ_ _ _=>by kernel_rfl
theorem Z1:aC D 167 (Vf qW):=aB Tryz.func167 (tc zv (tc JM (tc a0f (tc E3 tn)))) (s0m dX gX qi fH )
abbrev uz:Type 1:=(O:Type)->Int->(Int->Option O)->Option O
def Mh:uz:=λO a k=>
 br (a==1) (
 k 4) (
 br (a==2) (
 k 3) (
 br (a==3) (
 k 2) (
 br (a==4) (
 k 2) (
 k 0))))
def jH:uz:=Mh
def TY (F:uz):GT:=λO s k=>F O (lI s 0) (λa=>k (.int .i64 a))
abbrev Oo (F:uz):WT:=WU Su (TY F)
theorem r0n:KU [] a_ 125 Tryz.f125 Su (TY (Mh )):=λ_ _ _=>by kernel_rfl
theorem LT:aC D 125 (Oo jH):=aB Tryz.func125 tn (r0n )
abbrev oJ:Type 1:=(O:Type)->LU->LU->(U5->Bool->Option O)->Option O
def Ni (dw:oa):oJ:=λO s base k=>
 bM Xg (λa=>
 br (decide (a.2.1<(nS a.1))) (
 idxS a.1 a.2.1 λd=>
 br (d==47) (
 cc 0 a.2.1 (nS a.1) <|
 cc (wi (a.2.1+1)) (nS a.1) (nS a.1) <|
 some (.inr (0,QK (a.2.2.1,⟨(a.1.take a.2.1.toNat).drop 0,(a.1.take ((nS a.1).toNat)).drop ((wi (a.2.1+1)).toNat)⟩)))) (
 some (.inl (QL (a.1,wi (a.2.1+1),a.2.2.1,a.2.2.2))))) (
 some (.inr (0,QK (a.2.2.1,a.2.2.2))))) (QL (s,0,⟨[],[]⟩,⟨base,s⟩)) λr3=>
 wx o0o r3.2 λb=>
 dw _ b.2 λc=>
 br (!c) (
 k ⟨[],[]⟩ false) (
 k b.2 true)
def dZ:oJ:=Ni dw
def m0v:aH:=λi=>aL i [] [(3,[(.exit 0,xk 34 [(4,.ptr 4 0),(6,.ptr 6 0)] [(4,.agg [.str [],.str []]),(6,.agg [.str [],.str []])])])]
def Ua (F:oJ):GT:=λO s k=>F O (lS s 0) (lS s 1) (λb a=>k (.tup [w2 b,.bool a]))
abbrev Dm (F:oJ):WT:=WU TN (Ua F)
theorem t0v (dw:oa):KU [(67,Dr dw)] m0v 214 Tryz.f214 TN (Ua (Ni dw )):=λ_ _ _=>by kernel_rfl
theorem AD:aC D 214 (Dm dZ):=aB Tryz.func214 (tc wZ tn) (t0v dw )
abbrev xM:Type 1:=(O:Type)->U8->Int->(U13->Option O)->Option O
def l0g (aU:dK)(jH:uz):xM:=λO p xk k=>
 aU _ xk 0 (wi ((nL p.m)-1)) λf=>
 br (!f) (
 k ⟨0,[],[],[],[]⟩) (
 c0 xk <|
 pM p.m xk.toNat λe=>
 jH _ e.a λg=>
 k ⟨g,e.b,e.c,p.a,e.d⟩)
def oX:xM:=l0g aU jH
def j0u (F:xM):GT:=λO s k=>F O (dr s 0) (lI s 22) (λa=>k (w7 a))
abbrev PO (F:xM):WT:=WU b1p (j0u F)
theorem j1g (aU:dK)(jH:uz):KU [(65,ko aU),(125,Oo jH)] a_ 84 Tryz.f84 b1p (j0u (l0g aU jH )):=λ_ _ _=>by kernel_rfl
theorem Q_:aC D 84 (PO oX):=aB Tryz.func84 (tc eI (tc LT tn)) (j1g aU jH )
abbrev oK:Type 1:=(O:Type)->U13->(Bool->Option O)->Option O
def Nj (aU:dK)(dw:oa)(aw:cW)(eG:cW):oK:=λO r k=>
 aU _ r.a 1 5 λg=>
 br g (
 dw _ ⟨r.b,r.c⟩ λh=>
 br h (
 aw _ r.d λi=>
 br i (
 br (r.e==[]) (
 k true) (
 eG _ r.e λf=>
 k f)) (
 k false)) (
 k false)) (
 k false)
def jZ:oK:=Nj aU dw aw eG
def ML (F:oK):GT:=λO s k=>F O (Fz9 s 0) (λa=>k (.bool a))
abbrev Dn (F:oK):WT:=WU b1q (ML F)
theorem t0w (aU:dK)(dw:oa)(aw:cW)(eG:cW):KU [(65,ko aU),(67,Dr dw),(101,gx aw),(202,gx eG)] a_ 215 Tryz.f215 b1q (ML (Nj aU dw aw eG )):=λ_ _ _=>by kernel_rfl
theorem Lw:aC D 215 (Dn jZ):=aB Tryz.func215 (tc eI (tc wZ (tc mc (tc E9 tn)))) (t0w aU dw aw eG )
abbrev A9:Type 1:=(O:Type)->LV->LU->(Bool->Option O)->Option O
def N9:A9:=λO l s k=>
 bM Bb (λa=>
 br (decide (a.2.2<(nL a.1))) (
 c0 a.2.2 <|
 B1 a.1 a.2.2.toNat λb=>
 br (b==a.2.1) (
 some (.inr (1,lf true))) (
 some (.inl (pC (a.1,a.2.1,wi (a.2.2+1)))))) (
 some (.inr (0,[])))) (pC (l,s,0)) λr3=>
 if r3.1=0 then
 k false
 else
 wx Bc r3.2 λc=>
 k c
def oA:A9:=N9
def Wa:aH:=λi=>aL i [] [(2,[(.exit 0,xk 18 [] []),(.ret,xk 18 [(4,.bool false)] [])])]
def Ur (F:A9):GT:=λO s k=>F O (lL s 0) (lS s 1) (λa=>k (.bool a))
abbrev V7 (F:A9):WT:=WU i0r (Ur F)
theorem u0q:KU [] Wa 241 Tryz.f241 i0r (Ur (N9 )):=λ_ _ _=>by kernel_rfl
theorem b0b:aC D 241 (V7 oA):=aB Tryz.func241 tn (u0q )
abbrev Aw:Type 1:=(O:Type)->U1->Int->LU->(Bool->Option O)->Option O
def Nk (oA:A9):Aw:=λO p e f k=>
 br (!p.a) (
 k true) (
 mq (λ(h:Bool)=>
 br h (
 oA _ p.b f λi=>
 k i) (
 br (e==3) (
 oA _ p.c f λj=>
 k j) (
 br (e==4) (
 oA _ p.d f λg=>
 k g) (
 k false)))) λj5=>
 br (e==2) (
 j5 true) (
 j5 (e==5)))
def ql:Aw:=Nk oA
def Ub (F:Aw):GT:=λO s k=>F O (L3 s 0) (lI s 5) (lS s 6) (λa=>k (.bool a))
abbrev Vq (F:Aw):WT:=WU b1r (Ub F)
theorem t0x (oA:A9):KU [(241,V7 oA)] a_ 216 Tryz.f216 b1r (Ub (Nk oA )):=λ_ _ _=>by kernel_rfl
theorem a0j:aC D 216 (Vq ql):=aB Tryz.func216 (tc b0b tn) (t0x oA )
abbrev oG:Type 1:=(O:Type)->U1->U13->(Int->Option O)->Option O
def NA (jZ:oK)(ql:Aw):oG:=λO p r k=>
 jZ _ r λd=>
 br (!d) (
 k 2) (
 br (r.a != 1) (
 ql _ p r.a r.b λc=>
 br (!c) (
 k 2) (
 k 1)) (
 k 1))
def dY:oG:=NA jZ ql
def UD (F:oG):GT:=λO s k=>F O (L3 s 0) (Fz9 s 5) (λa=>k (.int .i64 a))
abbrev Di (F:oG):WT:=WU f1c (UD F)
theorem s0r (jZ:oK)(ql:Aw):KU [(215,Dn jZ),(216,Vq ql)] a_ 174 Tryz.f174 f1c (UD (NA jZ ql )):=λ_ _ _=>by kernel_rfl
theorem AA:aC D 174 (Di dY):=aB Tryz.func174 (tc Lw (tc a0j tn)) (s0r jZ ql )
abbrev vL:Type 1:=(O:Type)->U8->Int->LU->LU->Int->(U8->Int->Option O)->Option O
def Nf (a8:dH)(jH:uz)(dZ:oJ)(oX:xM)(dY:oG):vL:=λO p i q h j k=>
 a8 _ p λn=>
 fB (dZ _ q p.a λl s=>
 ca n.m ([w5 ⟨i,l.a,l.b,h,j,false,0,[]⟩]:LV) 96 <|
 mq (λ(w:Bool)=>
 br w (
 ci (nL p.m) (n.m++([w5 ⟨i,l.a,l.b,h,j,false,0,[]⟩]:LV)) <|
 bU (n.m++([w5 ⟨i,l.a,l.b,h,j,false,0,[]⟩]:LV)) ((nL p.m).toNat) 5 [.bool true] λr=>
 ci (nL p.m) r <|
 bU r ((nL p.m).toNat) 6 [.int .i64 2] λo=>
 k {n with m:=o} (nL p.m)) (
 k {n with m:=n.m++([w5 ⟨i,l.a,l.b,h,j,false,0,[]⟩]:LV)} (nL p.m))) λCg=>
 br (!s) (
 Cg true) (
 oX _ {n with m:=n.m++([w5 ⟨i,l.a,l.b,h,j,false,0,[]⟩]:LV)} (nL p.m) λu=>
 dY _ ⟨p.c,p.d,p.e,p.f,p.g⟩ u λv=>
 Cg (v != 1))) λyQ=>
 br (decide ((nL p.m) >= 20)) (
 k n (-1)) (
 jH _ i λt=>
 br (t==0) (
 k n (-1)) (
 yQ))
def gk:vL:=Nf a8 jH dZ oX dY
def UY (F:vL):GT:=λO s k=>F O (dr s 0) (lI s 22) (lS s 23) (lS s 24) (lI s 25) (λb a=>k (.tup [GU b,.int .i64 a]))
abbrev PD (F:vL):WT:=WU b1s (UY F)
theorem t0s (a8:dH)(jH:uz)(dZ:oJ)(oX:xM)(dY:oG):KU [(79,ng a8),(125,Oo jH),(214,Dm dZ),(84,PO oX),(174,Di dY)] a_ 210 Tryz.f210 b1s (UY (Nf a8 jH dZ oX dY )):=λ_ _ _=>by kernel_rfl
theorem Lv:aC D 210 (PD gk):=aB Tryz.func210 (tc iC (tc LT (tc AD (tc Q_ (tc AA tn))))) (t0s a8 jH dZ oX dY )
abbrev m5:Type 1:=(O:Type)->U8->U9->Int->(U8->Option O)->Option O
def xf (cH:oI)(gk:vL):m5:=λO p t n k=>
 cH _ t.c [100,105,103,101,115,116] λi u=>
 mq (λ(a:U8)=>
 cH _ t.c [115,114,99] λl h=>
 br h (
 br (t.b==[105,109,103]) (
 gk _ a 1 l i n λj r=>
 k j) (
 k a)) (
 k a)) λI1=>
 fB (cH _ t.c [115,114,99] λg e=>
 br e (
 br (t.b==[105,109,103]) (
 gk _ p 1 g i n λf o=>
 k f) (
 k p)) (
 k p)) λd=>
 cH _ t.c [104,114,101,102] λt3 q=>
 br q (
 br (t.b==[108,105,110,107]) (
 gk _ p 2 t3 i n λm s=>
 I1 m) (
 d)) (
 d)
def gV:m5:=xf cH gk
def Ct (F:m5):GT:=λO s k=>F O (dr s 0) (TE s 22) (lI s 26) (λa=>k (.tup [MG a]))
abbrev Df (F:m5):WT:=WU f1d (Ct F)
theorem Qt (cH:oI)(gk:vL):KI [(204,Dk cH),(210,PD gk)] a_ 168 ⟨[.mv,.data,.data],60,0,false⟩ Tryz.f168 f1d (Ct (xf cH gk )):=λ_ _ _=>by kernel_rfl
theorem JJ:aC D 168 (ah (Df gV)):=aO Tryz.func168 (tc AC (tc Lv tn)) (Qt cH gk )
abbrev Av:Type 1:=(O:Type)->U1->LU->(Bool->Option O)->Option O
def Ng:Av:=λO p b k=>
 br (!p.a) (
 k true) (
 br (!(p.e==[])) (
 k (p.e==b)) (
 k false))
def qj:Av:=Ng
def UZ (F:Av):GT:=λO s k=>F O (L3 s 0) (lS s 5) (λa=>k (.bool a))
abbrev Vp (F:Av):WT:=WU f1e (UZ F)
theorem t0t:KU [] a_ 211 Tryz.f211 f1e (UZ (Ng )):=λ_ _ _=>by kernel_rfl
theorem a0h:aC D 211 (Vp qj):=aB Tryz.func211 tn (t0t )
abbrev Aq:Type 1:=(O:Type)->U5->U5->(Int->Option O)->Option O
def ND:Aq:=λO a b k=>
 br (q0 a b) (
 k 0) (
 br (yT a.a b.a) (
 k (-1)) (
 br (a.a==b.a) (
 br (yT a.b b.b) (
 k (-1)) (
 k 1)) (
 k 1)))
def qa:Aq:=ND
def UG (F:Aq):GT:=λO s k=>F O (fQ s 0) (fQ s 2) (λa=>k (.int .i64 a))
abbrev Vj (F:Aq):WT:=WU f1f (UG F)
theorem s0u:KU [] a_ 177 Tryz.f177 f1f (UG (ND )):=λ_ _ _=>by kernel_rfl
theorem Z7:aC D 177 (Vj qa):=aB Tryz.func177 tn (s0u )
abbrev oE:Type 1:=(O:Type)->U8->U5->(U8->Option O)->Option O
def Mm (a8:dH)(qa:Aq)(dY:oG):oE:=λO p a k=>
 a8 _ p λr=>
 bM Pt (λh=>
 fB (some (.inl (Bl (wi (h.1+1),h.2.1,h.2.2.1,h.2.2.2.1,h.2.2.2.2.1,h.2.2.2.2.2.1,h.2.2.2.2.2.2.1,h.2.2.2.2.2.2.2.1,h.2.2.2.2.2.2.2.2.1,h.2.2.2.2.2.2.2.2.2.1,h.2.2.2.2.2.2.2.2.2.2.1,h.2.2.2.2.2.2.2.2.2.2.2.1,h.2.2.2.2.2.2.2.2.2.2.2.2.1,h.2.2.2.2.2.2.2.2.2.2.2.2.2.1,h.2.2.2.2.2.2.2.2.2.2.2.2.2.2)))) λj6=>
 br (decide (h.1<(nL h.2.1.n))) (
 c0 h.1 <|
 ie h.2.1.n h.1.toNat λo=>
 qa _ ⟨o.a,o.b⟩ h.2.2.1 λq=>
 br (decide (q<0)) (
 j6) (
 some (.inr (0,Bl (h.1,h.2.1,h.2.2.1,h.2.2.2.1,h.2.2.2.2.1,h.2.2.2.2.2.1,h.2.2.2.2.2.2.1,h.2.2.2.2.2.2.2.1,h.2.2.2.2.2.2.2.2.1,h.2.2.2.2.2.2.2.2.2.1,h.2.2.2.2.2.2.2.2.2.2.1,h.2.2.2.2.2.2.2.2.2.2.2.1,h.2.2.2.2.2.2.2.2.2.2.2.2.1,h.2.2.2.2.2.2.2.2.2.2.2.2.2.1,h.2.2.2.2.2.2.2.2.2.2.2.2.2.2))))) (
 some (.inr (0,Bl (h.1,h.2.1,h.2.2.1,h.2.2.2.1,h.2.2.2.2.1,h.2.2.2.2.2.1,h.2.2.2.2.2.2.1,h.2.2.2.2.2.2.2.1,h.2.2.2.2.2.2.2.2.1,h.2.2.2.2.2.2.2.2.2.1,h.2.2.2.2.2.2.2.2.2.2.1,h.2.2.2.2.2.2.2.2.2.2.2.1,h.2.2.2.2.2.2.2.2.2.2.2.2.1,h.2.2.2.2.2.2.2.2.2.2.2.2.2.1,h.2.2.2.2.2.2.2.2.2.2.2.2.2.2))))) (Bl (0,p,a,[],[],false,[],[],false,0,0,0,0,false,r)) λr7=>
 wx Pt r7.2 λi=>
 fB (
 mq (λ(j:U14)=>
 cc 0 i.1 (nL i.2.2.2.2.2.2.2.2.2.2.2.2.2.2.n) <|
 ca ([]:LV) ((i.2.2.2.2.2.2.2.2.2.2.2.2.2.2.n.take i.1.toNat).drop 0) 64 <|
 ca (([]:LV)++((i.2.2.2.2.2.2.2.2.2.2.2.2.2.2.n.take i.1.toNat).drop 0)) ([w6 j]:LV) 64 <|
 cc i.1 (nL i.2.2.2.2.2.2.2.2.2.2.2.2.2.2.n) (nL i.2.2.2.2.2.2.2.2.2.2.2.2.2.2.n) <|
 ca ((([]:LV)++((i.2.2.2.2.2.2.2.2.2.2.2.2.2.2.n.take i.1.toNat).drop 0))++([w6 j]:LV)) ((i.2.2.2.2.2.2.2.2.2.2.2.2.2.2.n.take ((nL i.2.2.2.2.2.2.2.2.2.2.2.2.2.2.n).toNat)).drop i.1.toNat) 64 <|
 k {i.2.2.2.2.2.2.2.2.2.2.2.2.2.2 with n:=((([]:LV)++((i.2.2.2.2.2.2.2.2.2.2.2.2.2.2.n.take i.1.toNat).drop 0))++([w6 j]:LV))++((i.2.2.2.2.2.2.2.2.2.2.2.2.2.2.n.take ((nL i.2.2.2.2.2.2.2.2.2.2.2.2.2.2.n).toNat)).drop i.1.toNat)}) λyQ=>
 dY _ ⟨i.2.1.c,i.2.1.d,i.2.1.e,i.2.1.f,i.2.1.g⟩ ⟨5,i.2.2.1.a,i.2.2.1.b,i.2.1.a,[]⟩ λl=>
 br (l != 1) (
 yQ ⟨i.2.2.1.a,i.2.2.1.b,true,2,[]⟩) (
 yQ ⟨i.2.2.1.a,i.2.2.1.b,false,0,[]⟩)) λIz=>
 br (decide (i.1<(nL i.2.1.n))) (
 c0 i.1 <|
 ie i.2.1.n i.1.toNat λm=>
 br (q0 ⟨m.a,m.b⟩ i.2.2.1) (
 k i.2.2.2.2.2.2.2.2.2.2.2.2.2.2) (
 Iz)) (
 Iz)
def jJ:oE:=Mm a8 qa dY
def m0a:aH:=λi=>aL i [] [(3,[(.exit 0,xk 76 [(2,.ptr 2 0),(3,.ptr 3 0),(4,.ptr 4 0),(5,.ptr 5 0),(6,.int .i64 0)] [(2,.agg [.str [],.str [],.bool false,.sl 1 true [],.sl 1 true [],.sl 1 true [],.str [],.str [],.sl 4 false [],.bool false,.sl 4 false [],.sl 1 true [],.sl 8 true [],.sl 5 true [],.sl 2 true [],.int .i64 0,.int .i64 0,.int .i64 0,.int .i64 0,.sl 2 true [],.sl 1 true [],.bool false]),(3,.agg [.str [],.str []]),(4,.agg [.str [],.str [],.bool false,.nil,.nil,.nil,.str [],.str [],.nil,.bool false,.nil,.nil,.nil,.nil,.nil,.int .i64 0,.int .i64 0,.int .i64 0,.int .i64 0,.nil,.nil,.bool false]),(5,.agg [.str [],.str [],.bool false,.own 1000000 1 .flat [],.own 1000001 1 .flat [],.own 1000002 1 .flat [],.str [],.str [],.own 1000003 4 .clean [],.bool false,.own 1000004 4 .clean [],.own 1000005 1 .flat [],.own 1000006 8 .flat [],.own 1000007 5 .flat [],.own 1000008 2 .flat [],.int .i64 0,.int .i64 0,.int .i64 0,.int .i64 0,.own 1000009 2 .flat [],.own 1000010 1 .flat [],.bool false])])])]
def MJ (F:oE):GT:=λO s k=>F O (dr s 0) (fQ s 22) (λa=>k (GU a))
abbrev DW (F:oE):WT:=WU CY (MJ F)
theorem r0s (a8:dH)(qa:Aq)(dY:oG):KU [(79,ng a8),(177,Vj qa),(174,Di dY)] m0a 130 Tryz.f130 CY (MJ (Mm a8 qa dY )):=λ_ _ _=>by kernel_rfl
theorem LX:aC D 130 (DW jJ):=aB Tryz.func130 (tc iC (tc Z7 (tc AA tn))) (r0s a8 qa dY )
def Nh (dZ:oJ)(a8:dH)(jJ:oE):oc:=λO p d k=>
 dZ _ d p.a λc f=>
 fB (jJ _ p c λb=>
 ca b.o ([w2 c]:LV) 32 <|
 k {b with o:=b.o++([w2 c]:LV)}) λj8=>
 br (!f) (
 a8 _ p λg=>
 k g) (
 br (decide ((nL p.o) >= 20)) (
 a8 _ p λe=>
 k e) (
 j8))
def qk:oc:=Nh dZ a8 jJ
theorem t0u (dZ:oJ)(a8:dH)(jJ:oE):KU [(214,Dm dZ),(79,ng a8),(130,DW jJ)] a_ 212 Tryz.f212 b1n (j0s (Nh dZ a8 jJ )):=λ_ _ _=>by kernel_rfl
theorem a0i:aC D 212 (PN qk):=aB Tryz.func212 (tc AD (tc iC (tc LX tn))) (t0u dZ a8 jJ )
abbrev m7:Type 1:=(O:Type)->U8->Int->(U8->Option O)->Option O
def xg (cH:oI)(qj:Av)(gk:vL)(qk:oc):m7:=λO p n k=>
 ci n p.k <|
 h0x p.k n.toNat 3 λl1=>
 cH _ l1 [115,114,99] λl s=>
 cH _ l1 [107,105,110,100] λm v=>
 cH _ l1 [100,105,103,101,115,116] λo u=>
 cH _ l1 [110,111,110,99,101] λr w=>
 br (!s) (
 qj _ ⟨p.c,p.d,p.e,p.f,p.g⟩ r λi=>
 br i (
 k {p with q:=n}) (
 k p)) (
 br (m==[100,101,102,101,114]) (
 gk _ p 4 l o n λj t=>
 k j) (
 br (m==[109,111,100,117,108,101]) (
 qk _ p l λb=>
 k b) (
 gk _ p 3 l o n λh a=>
 k {h with p:=wi (a+1)})))
def fW:m7:=xg cH qj gk qk
def Cv (F:m7):GT:=λO s k=>F O (dr s 0) (lI s 22) (λa=>k (.tup [MG a]))
abbrev Dg (F:m7):WT:=WU f1g (Cv F)
theorem Qu (cH:oI)(qj:Av)(gk:vL)(qk:oc):KI [(204,Dk cH),(211,Vp qj),(210,PD gk),(212,PN qk)] a_ 169 ⟨[.mv,.data],82,0,false⟩ Tryz.f169 f1g (Cv (xg cH qj gk qk )):=λ_ _ _=>by kernel_rfl
theorem JK:aC D 169 (ah (Dg fW)):=aO Tryz.func169 (tc AC (tc a0h (tc Lv (tc a0i tn)))) (Qu cH qj gk qk )
abbrev kg:Type 1:=(O:Type)->U8->(U8->Bool->Option O)->Option O
def Mb (a8:dH)(qW:Al)(gV:m5)(aU:dK)(fW:m7):kg:=λO p k=>
 a8 _ p λc=>
 fB (ci 0 c.i <|
 Yy c.i 0 0 λf=>
 cc 1 (nL c.i) (nL c.i) <|
 mq (λ(e:Int)=>
 qW _ ⟨p.k,p.l⟩ f λg u=>
 mq (λ(d:U8)=>
 br (f.a==2) (
 br (f.b==[115,99,114,105,112,116]) (
 aU _ e 1 (wi ((nL p.k)-1)) λs=>
 br s (
 c0 e <|
 Ep p.k e.toNat λj=>
 br (j.a==[115,99,114,105,112,116]) (
 fW _ d e λr=>
 k r true) (
 k d true)) (
 k d true)) (
 k d true)) (
 k d true)) λY2=>
 fB (
 fB (k {c with i:=(c.i.take ((nL c.i).toNat)).drop 1,k:=g.a,l:=g.b} true) λLH=>
 br (f.a==2) (
 br (f.b==[115,99,114,105,112,116]) (
 aU _ e 1 (wi ((nL p.k)-1)) λo=>
 br o (
 c0 e <|
 Ep p.k e.toNat λm=>
 br (m.a==[115,99,114,105,112,116]) (
 fW _ {c with i:=(c.i.take ((nL c.i).toNat)).drop 1,k:=g.a,l:=g.b} e λt=>
 k t true) (
 LH)) (
 LH)) (
 LH)) (
 LH)) λh0y=>
 br (f.a==1) (
 br (decide (u >= 0)) (
 gV _ {c with i:=(c.i.take ((nL c.i).toNat)).drop 1,k:=g.a,l:=g.b} f u λn=>
 Y2 n) (
 h0y)) (
 h0y)) λh0z=>
 br (decide ((nL p.l)>0)) (
 c0 (wi ((nL p.l)-1)) <|
 Iy p.l ((wi ((nL p.l)-1)).toNat) λv=>
 h0z v) (
 h0z (-1))) λh=>
 br ((nL p.i)==0) (
 k c false) (
 br (p.p != 0) (
 k c false) (
 br (p.q != 0) (
 k c false) (
 h)))
def qI:kg:=Mb a8 qW gV aU fW
def MI (F:kg):GT:=λO s k=>F O (dr s 0) (λb a=>k (.tup [MG b,.bool a]))
abbrev Hn (F:kg):WT:=WU kq (MI F)
theorem r0i (a8:dH)(qW:Al)(gV:m5)(aU:dK)(fW:m7):KU [(79,ng a8),(167,Vf qW),(168,ah (Df gV)),(65,ko aU),(169,ah (Dg fW))] a_ 119 Tryz.f119 kq (MI (Mb a8 qW gV aU fW )):=λ_ _ _=>by kernel_rfl
theorem Zl:aC D 119 (Hn qI):=aB Tryz.func119 (tc iC (tc Z1 (tc JJ (tc eI (tc JK tn))))) (r0i a8 qW gV aU fW )
def l0d (gj:dq)(a8:dH)(qH:AY)(iN:uy)(aU:dK)(qI:kg):kg:=λO p k=>
 br (p.q != 0) (
 gj _ p λu=>
 br (!u) (
 a8 _ p λv=>
 k v false) (
 qH _ ⟨p.k,p.l⟩ p.q λt3=>
 iN _ p t3 true λr=>
 k {r with q:=0} true)) (
 br (p.p != 0) (
 aU _ (wi (p.p-1)) 0 (wi ((nL p.m)-1)) λs=>
 br (!s) (
 a8 _ p λt=>
 k {t with p:=0} true) (
 fB (a8 _ p λa=>
 c0 (wi (p.p-1)) <|
 pM p.m ((wi (p.p-1)).toNat) λn=>
 br (n.g==1) (
 c0 (wi (p.p-1)) <|
 pM p.m ((wi (p.p-1)).toNat) λb=>
 iN _ p b.h true λe=>
 k {e with p:=0} true) (
 k {a with p:=0} true)) λQe=>
 c0 (wi (p.p-1)) <|
 pM p.m ((wi (p.p-1)).toNat) λo=>
 br (!o.f) (
 a8 _ p λi=>
 k i false) (
 gj _ p λw=>
 br (!w) (
 a8 _ p λj=>
 k j false) (
 Qe)))) (
 qI _ p λc d=>
 k c d))
def Gm:kg:=l0d gj a8 qH iN aU qI
theorem j1d (gj:dq)(a8:dH)(qH:AY)(iN:uy)(aU:dK)(qI:kg):KU [(116,mG gj),(79,ng a8),(118,VV qH),(117,On iN),(65,ko aU),(119,Hn qI)] a_ 80 Tryz.f80 kq (MI (l0d gj a8 qH iN aU qI )):=λ_ _ _=>by kernel_rfl
theorem x0h:aC D 80 (Hn Gm):=aB Tryz.func80 (tc LQ (tc iC (tc Zk (tc LS (tc eI (tc Zl tn)))))) (j1d gj a8 qH iN aU qI )
def Mc:dq:=λO p k=>
 br p.j (
 br ((nL p.i)==0) (
 br (p.p==0) (
 k (p.q==0)) (
 k false)) (
 k false)) (
 k false)
def qJ:dq:=Mc
theorem r0j:KU [] a_ 120 Tryz.f120 kq (AV (Mc )):=λ_ _ _=>by kernel_rfl
theorem Zm:aC D 120 (mG qJ):=aB Tryz.func120 tn (r0j )
def Me:bV:=λO p k=>
 bM vm (λb=>
 br (decide (b.2.1<(nL b.2.2.m))) (
 c0 b.2.1 <|
 pM b.2.2.m b.2.1.toNat λd=>
 br (d.a==4) (
 ca b.1 ([.int .i64 b.2.1]:LV) 8 <|
 some (.inl (ga (b.1++([.int .i64 b.2.1]:LV),wi (b.2.1+1),b.2.2)))) (
 some (.inl (ga (b.1,wi (b.2.1+1),b.2.2))))) (
 some (.inr (0,fo b.1)))) (ga ([],0,p)) λr5=>
 wx ru r5.2 λc=>
 k c
def qK:bV:=Me
def PQ:aH:=λi=>aL i [] [(3,[(.exit 0,xk 25 [(3,.own 1000000 1 .flat [])] [])])]
def HU (F:bV):GT:=λO s k=>F O (dr s 0) (λa=>k (.own 0 1 .flat a))
abbrev vP (F:bV):WT:=WU kq (HU F)
theorem r0k:KU [] PQ 121 Tryz.f121 kq (HU (Me )):=λ_ _ _=>by kernel_rfl
theorem Zn:aC D 121 (vP qK):=aB Tryz.func121 tn (r0k )
abbrev oF:Type 1:=(O:Type)->LV->U5->(Bool->Option O)->Option O
def M9:oF:=λO l a k=>
 bM IK (λb=>
 br (decide (b.2.1<(nL b.1))) (
 c0 b.2.1 <|
 Qd b.1 b.2.1.toNat λc=>
 br (q0 c b.2.2) (
 some (.inr (1,lf true))) (
 some (.inl (yC (b.1,wi (b.2.1+1),b.2.2))))) (
 some (.inr (0,[])))) (yC (l,0,a)) λr3=>
 if r3.1=0 then
 k false
 else
 wx Bc r3.2 λd=>
 k d
def dL:oF:=M9
def UB (F:oF):GT:=λO s k=>F O (lL s 0) (fQ s 1) (λa=>k (.bool a))
abbrev Dh (F:oF):WT:=WU f1h (UB F)
theorem s0p:KU [] Wa 172 Tryz.f172 f1h (UB (M9 )):=λ_ _ _=>by kernel_rfl
theorem z_:aC D 172 (Dh dL):=aB Tryz.func172 tn (s0p )
abbrev mE:Type 1:=(O:Type)->U8->U5->(Int->Option O)->Option O
def Mi:mE:=λO p a k=>
 bM Pu (λc=>
 br (decide (c.1<(nL c.2.1.n))) (
 c0 c.1 <|
 ie c.2.1.n c.1.toNat λd=>
 br (q0 ⟨d.a,d.b⟩ c.2.2) (
 some (.inr (1,cY c.1))) (
 some (.inl (EW (wi (c.1+1),c.2.1,c.2.2))))) (
 some (.inr (0,[])))) (EW (0,p,a)) λr3=>
 if r3.1=0 then
 k (-1)
 else
 wx iX r3.2 λe=>
 k e
def cV:mE:=Mi
def TZ (F:mE):GT:=λO s k=>F O (dr s 0) (fQ s 22) (λa=>k (.int .i64 a))
abbrev BQ (F:mE):WT:=WU CY (TZ F)
theorem r0o:KU [] c1p 126 Tryz.f126 CY (TZ (Mi )):=λ_ _ _=>by kernel_rfl
theorem wY:aC D 126 (BQ cV):=aB Tryz.func126 tn (r0o )
abbrev fw:Type 1:=(O:Type)->Int->Int->(Int->Option O)->Option O
def NJ:fw:=λO a b k=>
 br (decide (b<a)) (
 k b) (
 k a)
def e_:fw:=NJ
def Ha (F:fw):GT:=λO s k=>F O (lI s 0) (lI s 1) (λa=>k (.int .i64 a))
abbrev rp (F:fw):WT:=WU i0s (Ha F)
theorem t0a:KU [] a_ 183 Tryz.f183 i0s (Ha (NJ )):=λ_ _ _=>by kernel_rfl
theorem E6:aC D 183 (rp e_):=aB Tryz.func183 tn (t0a )
abbrev vF:Type 1:=(O:Type)->LU->LU->(LV->LV->Bool->Option O)->Option O
def M_ (i6:vB)(dZ:oJ)(e_:fw)(jP:vD):vF:=λO c base k=>
 bM Xh (λa=>
 fB (i6 _ a.2.2 59 λf=>
 cc 7 f (nS a.2.2) <|
 dZ _ ((a.2.2.take f.toNat).drop 7) a.1 λg j=>
 br (!j) (
 some (.inr (1,Yd ([],[],false,a.2.1,a.2.2)))) (
 ca a.2.1 ([w2 g]:LV) 32 <|
 e_ _ (nS a.2.2) (wi (f+1)) λi=>
 cc i (nS a.2.2) (nS a.2.2) <|
 some (.inl (QM (a.1,a.2.1++([w2 g]:LV),(a.2.2.take ((nS a.2.2).toNat)).drop i.toNat))))) λj7=>
 br (decide ((nS a.2.2) >= 7)) (
 cc 0 7 (nS a.2.2) <|
 br ((a.2.2.take 7).drop 0==[105,109,112,111,114,116,32]) (
 j7) (
 some (.inr (0,vt (a.2.1,a.2.2))))) (
 some (.inr (0,vt (a.2.1,a.2.2))))) (QM (base,[],c)) λr8=>
 if r8.1=0 then
 wx XV r8.2 λh=>
 jP _ h.2 λd e=>
 br (!e) (
 k [] [] false) (
 k h.1 d true)
 else
 wx o0p r8.2 λb=>
 k b.1 b.2.1 b.2.2.1
def jS:vF:=M_ i6 dZ e_ jP
def m0j:aH:=λi=>aL i [] [(3,[(.exit 0,xk 60 [(7,.own 1000000 2 .flat []),(8,.str [])] []),(.ret,xk 60 [(4,.own 1000000 2 .flat []),(5,.own 1000001 2 .flat []),(6,.bool false),(7,.own 1000002 2 .flat []),(8,.str [])] [])])]
def UC (F:vF):GT:=λO s k=>F O (lS s 0) (lS s 1) (λb a c=>k (.tup [.own 0 2 .flat b,.own 1 2 .flat a,.bool c]))
abbrev O6 (F:vF):WT:=WU TN (UC F)
theorem s0q (i6:vB)(dZ:oJ)(e_:fw)(jP:vD):KU [(158,O2 i6),(214,Dm dZ),(183,rp e_),(163,O3 jP)] m0j 173 Tryz.f173 TN (UC (M_ i6 dZ e_ jP )):=λ_ _ _=>by kernel_rfl
theorem Lk:aC D 173 (O6 jS):=aB Tryz.func173 (tc Lf (tc AD (tc E6 (tc Lh tn)))) (s0q i6 dZ e_ jP )
abbrev ri:Type 1:=(O:Type)->U8->U5->(LV->Bool->Option O)->Option O
def Ml (cV:mE)(jS:vF):ri:=λO p a k=>
 cV _ p a λb=>
 fB (c0 b <|
 ie p.n b.toNat λi=>
 jS _ i.e a.a λf l j=>
 k f j) λj9=>
 br (decide (b<0)) (
 k [] false) (
 c0 b <|
 ie p.n b.toNat λg=>
 br (!g.c) (
 k [] false) (
 c0 b <|
 ie p.n b.toNat λh=>
 br (h.d != 1) (
 k [] false) (
 j9)))
def eu:ri:=Ml cV jS
def Td (F:ri):GT:=λO s k=>F O (dr s 0) (fQ s 22) (λb a=>k (.tup [.own 0 2 .flat b,.bool a]))
abbrev Hp (F:ri):WT:=WU CY (Td F)
theorem r0r (cV:mE)(jS:vF):KU [(126,BQ cV),(173,O6 jS)] a_ 129 Tryz.f129 CY (Td (Ml cV jS )):=λ_ _ _=>by kernel_rfl
theorem E2:aC D 129 (Hp eu):=aB Tryz.func129 (tc wY (tc Lk tn)) (r0r cV jS )
end
end Go.Am

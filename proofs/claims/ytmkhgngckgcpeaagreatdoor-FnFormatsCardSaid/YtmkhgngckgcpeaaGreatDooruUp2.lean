/-
  Proved: lemmas for Rows.FnFormatsCardSaid.
-/
import Derived.Test.YtmkhgngckgcpeaaGreatDooruUp1
set_option linter.all false
set_option maxRecDepth 10000
namespace Go.Am
open Go Go.Proofs
noncomputable section
abbrev T4:Type 1:=(O:Type)->LV->(Bool->Option O)->Option O
def P4:T4:=λO a k=>
 k (decide ((nL a)>1048576))
def F4:T4:=P4
def G4 (F:T4):GT:=λO s k=>F O (lL s 0) (λa=>k (.bool a))
abbrev W4 (F:T4):WT:=WU z0 (G4 F)
theorem k4:KU [] a_ 4 Tryz.f4 z0 (G4 (P4 )):=λ_ _ _=>by kernel_rfl
theorem j1n:aC D 4 (W4 F4):=aB Tryz.func4 tn (k4 )
abbrev eK:Type 1:=(O:Type)->LV->(U0->Option O)->Option O
def C2:eK:=λO b k=>
 bM XD (λa=>
 fB (c0 a.2.2 <|
 S9 a.1 a.2.2.toNat λd=>
 some (.inl (D9 (a.1,mM .and .i64 (wi ((wi ((wi (a.2.1*137))+(IntKind.wrap .i64 d)))+11)) 1073741823,wi (a.2.2+1))))) λj4=>
 br (decide (a.2.2<(nL a.1))) (
 br (decide (a.2.2<4000)) (
 j4) (
 some (.inr (0,HC (a.1,a.2.1))))) (
 some (.inr (0,HC (a.1,a.2.1))))) (D9 (b,wi (193017+(nL b)),0)) λr5=>
 wx XC r5.2 λc=>
 k ⟨c.1,0,c.2⟩
def au:eK:=C2
def Wb:aH:=λi=>aL i [] [(3,[(.exit 0,xk 32 [(0,.sl 1 true []),(3,.int .i64 0)] [])])]
def J4 (F:eK):GT:=λO s k=>F O (lL s 0) (λa=>k (.tup [ol a]))
abbrev nZ (F:eK):WT:=WU z0 (J4 F)
theorem ZE:KI [] Wb 28 ⟨[.data],32,0,true⟩ Tryz.f28 z0 (J4 (C2 )):=λ_ _ _=>by kernel_rfl
theorem lr:aC D 28 (ah (nZ au)):=aO Tryz.func28 tn (ZE )
abbrev sP:Type 1:=(O:Type)->U0->(Int->U0->Option O)->Option O
def DI:sP:=λO c k=>
 br (decide (c.b<(nL c.a))) (
 c0 c.b <|
 S9 c.a c.b.toNat λd=>
 k (mM .and .i64 (wi ((mM .and .i64 (mM .xor .i64 (yq .i64 (wi ((wi (c.c*6364136223846793005))+1442695040888963407)) 33) (yq .i64 (wi ((wi (c.c*6364136223846793005))+1442695040888963407)) 47)) 255)+(IntKind.wrap .i64 d))) 255) {c with b:=wi (c.b+1),c:=wi ((wi (c.c*6364136223846793005))+1442695040888963407)}) (
 k (mM .and .i64 (mM .xor .i64 (yq .i64 (wi ((wi (c.c*6364136223846793005))+1442695040888963407)) 33) (yq .i64 (wi ((wi (c.c*6364136223846793005))+1442695040888963407)) 47)) 255) {c with c:=wi ((wi (c.c*6364136223846793005))+1442695040888963407)})
def gp:sP:=DI
def KF (F:sP):GT:=λO s k=>F O (fx s 0) (λb a=>k (.tup [.int .i64 b,ol a]))
abbrev KQ (F:sP):WT:=WU z1 (KF F)
theorem ZV:KI [] a_ 82 ⟨[.pt],58,1,false⟩ Tryz.f82 z1 (KF (DI )):=λ_ _ _=>by kernel_rfl
theorem Q9:aC D 82 (ah (KQ gp)):=aO Tryz.func82 tn (ZV )
abbrev av:Type 1:=(O:Type)->Int->U0->(Int->U0->Option O)->Option O
def C8 (gp:sP):av:=λO n c k=>
 br (decide (n<=0)) (
 k 0 c) (
 br (decide (n<=256)) (
 gp _ c λh g=>
 chk (n≠0) <|
 k (Int.tmod h n) g) (
 gp _ c λf b=>
 gp _ b λd e=>
 gp _ e λi a=>
 chk (n≠0) <|
 k (Int.tmod (wi ((wi ((wi (f*65536))+(wi (d*256))))+i)) n) a))
def aD:av:=C8 gp
def J_ (F:av):GT:=λO s k=>F O (lI s 0) (fx s 1) (λb a=>k (.tup [.int .i64 b,ol a]))
abbrev cX (F:av):WT:=WU z2 (J_ F)
theorem ZK (gp:sP):KI [(82,ah (KQ gp))] a_ 53 ⟨[.pt,.data],31,1,false⟩ Tryz.f53 z2 (J_ (C8 gp )):=λ_ _ _=>by kernel_rfl
theorem ba:aC D 53 (ah (cX aD)):=aO Tryz.func53 (tc Q9 tn) (ZK gp )
abbrev be:Type 1:=(O:Type)->LV->U0->(LU->U0->Option O)->Option O
def DF (aD:av):be:=λO a c k=>
 aD _ (nL a) c λb d=>
 c0 b <|
 B1 a b.toNat λt3=>
 k t3 d
def aG:be:=DF aD
def KD (F:be):GT:=λO s k=>F O (lL s 0) (fx s 1) (λb a=>k (.tup [.str b,ol a]))
abbrev fZ (F:be):WT:=WU z3 (KD F)
theorem ZS (aD:av):KI [(53,ah (cX aD))] a_ 73 ⟨[.pt,.data],12,1,false⟩ Tryz.f73 z3 (KD (DF aD )):=λ_ _ _=>by kernel_rfl
theorem eA:aC D 73 (ah (fZ aG)):=aO Tryz.func73 (tc ba tn) (ZS aD )
abbrev ch:Type 1:=(O:Type)->Int->U0->(LU->U0->Option O)->Option O
def xT (aD:av)(aG:be):ch:=λO b c k=>
 aD _ b c λi h=>
 bM XT (λa=>
 br (decide (a.2.1>0)) (
 mq (λ(e:LU)=>
 aG _ [.str [115,97,121,32,104,105],.str [99,111,117,110,116,32,112],.str [99,111,117,110,116,32,115,99,114,105,112,116],.str [108,111,111,107,32,112],.str [108,111,111,107,32,98],.str [97,100,100,32,98],.str [97,100,100,32,112],.str [119,114,105,116,101,32,91,112,93,120,91,47,112,93],.str [119,114,105,116,101,32,91,105,109,103,32,115,114,99,61,108,111,103,111,93],.str [119,114,105,116,101,32,91,108,105,110,107,32,104,114,101,102,61,115,116,121,108,101,93],.str [119,114,105,116,101,32,91,98,93]] a.2.2 λf g=>
 cs e f <|
 some (.inl (HD (e++f,wi (a.2.1-1),g)))) λj7=>
 br (!(a.1==[])) (
 cs a.1 ([59]:LU) <|
 j7 (a.1++[59])) (
 j7 a.1)) (
 some (.inr (0,LC (a.1,a.2.2))))) (HD ([],wi (1+i),h)) λr8=>
 wx h0r r8.2 λd=>
 k d.1 d.2
def cy:ch:=xT aD aG
def PP:aH:=λi=>aL i [] [(3,[(.exit 0,ug 25 26 [(5,.str [])] [(25,.agg [.sl 1 true [],.int .i64 0,.int .i64 0])])])]
def my (F:ch):GT:=λO s k=>F O (lI s 0) (fx s 1) (λb a=>k (.tup [.str b,ol a]))
abbrev xp (F:ch):WT:=WU z4 (my F)
theorem Qh (aD:av)(aG:be):KI [(53,ah (cX aD)),(73,ah (fZ aG))] PP 111 ⟨[.pt,.data],25,1,false⟩ Tryz.f111 z4 (my (xT aD aG )):=λ_ _ _=>by kernel_rfl
theorem zu:aC D 111 (ah (xp cy)):=aO Tryz.func111 (tc ba (tc eA tn)) (Qh aD aG )
abbrev bD:Type 1:=(O:Type)->U0->(LU->U0->Option O)->Option O
def xc (aD:av)(aG:be):bD:=λO c k=>
 aD _ 4 c λh g=>
 bM XT (λa=>
 br (decide (a.2.1>0)) (
 aG _ [.str [112],.str [98],.str [112,97,103,101],.str [80],.str []] a.2.2 λb i=>
 cs a.1 b <|
 cs (a.1++b) ([58]:LU) <|
 aG _ [.str [49],.str [55],.str [57,57,57],.str [49,48,48,48],.str [48],.str [120]] i λd f=>
 cs ((a.1++b)++[58]) d <|
 cs (((a.1++b)++[58])++d) ([59]:LU) <|
 some (.inl (HD ((((a.1++b)++[58])++d)++[59],wi (a.2.1-1),f)))) (
 some (.inr (0,LC (a.1,a.2.2))))) (HD ([],h,g)) λr8=>
 wx h0r r8.2 λe=>
 k e.1 e.2
def gR:bD:=xc aD aG
def PV:aH:=λi=>aL i [] [(3,[(.exit 0,ug 23 24 [(3,.str [])] [(23,.agg [.sl 1 true [],.int .i64 0,.int .i64 0])])])]
def iO (F:bD):GT:=λO s k=>F O (fx s 0) (λb a=>k (.tup [.str b,ol a]))
abbrev Dc (F:bD):WT:=WU z5 (iO F)
theorem Qq (aD:av)(aG:be):KI [(53,ah (cX aD)),(73,ah (fZ aG))] PV 152 ⟨[.pt],23,1,false⟩ Tryz.f152 z5 (iO (xc aD aG )):=λ_ _ _=>by kernel_rfl
theorem JG:aC D 152 (ah (Dc gR)):=aO Tryz.func152 (tc ba (tc eA tn)) (Qq aD aG )
abbrev cQ:Type 1:=(O:Type)->Int->U0->(Bool->U0->Option O)->Option O
def C7 (aD:av):cQ:=λO n c k=>
 aD _ n c λb a=>
 k (b==0) a
def aP:cQ:=C7 aD
def J9 (F:cQ):GT:=λO s k=>F O (lI s 0) (fx s 1) (λb a=>k (.tup [.bool b,ol a]))
abbrev ir (F:cQ):WT:=WU z6 (J9 F)
theorem ZJ (aD:av):KI [(53,ah (cX aD))] a_ 51 ⟨[.pt,.data],9,1,false⟩ Tryz.f51 z6 (J9 (C7 aD )):=λ_ _ _=>by kernel_rfl
theorem fh:aC D 51 (ah (ir aP)):=aO Tryz.func51 (tc ba tn) (ZJ aD )
def xh (aD:av)(aG:be):bD:=λO c k=>
 aD _ 8 c λb a=>
 br (b==0) (
 aG _ [.str [112],.str [98],.str [115,99,114,105,112,116],.str [112,97,103,101]] a λt3 r=>
 cs ([47]:LU) t3 <|
 k ([47]++t3) r) (
 br (b==1) (
 aG _ [.str [97,112,112],.str [99,100,110,47,108,105,98],.str [108,105,98],.str [101,118,105,108,47,97,112,112]] a λp s=>
 cs ([115,99,114,105,112,116,32,115,114,99,61]:LU) p <|
 k ([115,99,114,105,112,116,32,115,114,99,61]++p) s) (
 br (b==2) (
 aG _ [.str [97,112,112],.str [117,116,105,108]] a λf q=>
 cs ([115,99,114,105,112,116,32,115,114,99,61]:LU) f <|
 cs ([115,99,114,105,112,116,32,115,114,99,61]++f:LU) ([32,107,105,110,100,61]:LU) <|
 aG _ [.str [100,101,102,101,114],.str [109,111,100,117,108,101]] q λo j=>
 cs (([115,99,114,105,112,116,32,115,114,99,61]++f)++[32,107,105,110,100,61]) o <|
 k ((([115,99,114,105,112,116,32,115,114,99,61]++f)++[32,107,105,110,100,61])++o) j) (
 br (b==3) (
 aG _ [.str [108,111,103,111],.str [99,100,110,47,108,111,103,111]] a λe m=>
 cs ([105,109,103,32,115,114,99,61]:LU) e <|
 k ([105,109,103,32,115,114,99,61]++e) m) (
 br (b==4) (
 aG _ [.str [115,116,121,108,101],.str [99,100,110,47,115,116,121,108,101]] a λd n=>
 cs ([108,105,110,107,32,104,114,101,102,61]:LU) d <|
 k ([108,105,110,107,32,104,114,101,102,61]++d) n) (
 br (b==5) (
 aG _ [.str [112,32,97,61,98],.str [],.str [80],.str [112,32,97],.str [112,32,97,61],.str [112,32,32,97,61,98],.str [112,32,97,61,98,32,97,61,99],.str [112,32,97,61,98,32,98,61,99,32,99,61,100,32,100,61,101,32,101,61,102],.str [47],.str [112,32,97,61,98,61,99]] a λh l=>
 k h l) (
 aG _ [.str [112],.str [98],.str [112,97,103,101],.str [115,99,114,105,112,116]] a λg i=>
 k g i))))))
def gW:bD:=xh aD aG
abbrev Dj (F:bD):WT:=WU z7 (iO F)
theorem Qv (aD:av)(aG:be):KI [(53,ah (cX aD)),(73,ah (fZ aG))] a_ 200 ⟨[.pt],48,1,false⟩ Tryz.f200 z7 (iO (xh aD aG )):=λ_ _ _=>by kernel_rfl
theorem JL:aC D 200 (ah (Dj gW)):=aO Tryz.func200 (tc ba (tc eA tn)) (Qv aD aG )
def xd (aD:av)(aP:cQ)(aG:be)(gW:bD):ch:=λO d c k=>
 aD _ (wi (d+1)) c λq p=>
 bM XT (λa=>
 br (decide (a.2.1>0)) (
 aP _ 3 a.2.2 λo l=>
 br o (
 aG _ [.str [104,105],.str [97,32,98],.str [99,111,117,110,116],.str [120,62,121],.str []] l λj m=>
 cs a.1 j <|
 some (.inl (HD (a.1++j,wi (a.2.1-1),m)))) (
 cs a.1 ([60]:LU) <|
 gW _ l λi n=>
 cs (a.1++[60]) i <|
 cs ((a.1++[60])++i) ([62]:LU) <|
 some (.inl (HD (((a.1++[60])++i)++[62],wi (a.2.1-1),n))))) (
 some (.inr (0,LC (a.1,a.2.2))))) (HD ([],q,p)) λr14=>
 wx h0r r14.2 λb=>
 aP _ 6 b.2 λg e=>
 br g (
 aG _ [.str [60,112],.str [60],.str [101,110,100]] e λf h=>
 cs b.1 f <|
 k (b.1++f) h) (
 k b.1 e)
def gU:ch:=xd aD aP aG gW
def PW:aH:=λi=>aL i [] [(3,[(.exit 0,ug 36 37 [(0,.ptr 36 0),(5,.str [])] [(36,.agg [.sl 1 true [],.int .i64 0,.int .i64 0])])])]
abbrev Dd (F:ch):WT:=WU z8 (my F)
theorem Qr (aD:av)(aP:cQ)(aG:be)(gW:bD):KI [(53,ah (cX aD)),(51,ah (ir aP)),(73,ah (fZ aG)),(200,ah (Dj gW))] PW 153 ⟨[.pt,.data],36,1,false⟩ Tryz.f153 z8 (my (xd aD aP aG gW )):=λ_ _ _=>by kernel_rfl
theorem JH:aC D 153 (ah (Dd gU)):=aO Tryz.func153 (tc ba (tc fh (tc eA (tc JL tn)))) (Qr aD aP aG gW )
def xR (cy:ch)(gR:bD)(aG:be)(gU:ch):ch:=λO a c k=>
 br (a==2) (
 cy _ 3 c λg l=>
 k g l) (
 br (a==3) (
 gR _ c λt3 i=>
 k t3 i) (
 br (a==5) (
 aG _ [.str [],.str [105,109,112,111,114,116,32,117,116,105,108,59],.str [105,109,112,111,114,116,32,108,105,98,59],.str [105,109,112,111,114,116,32,99,100,110,47,108,105,98,59],.str [105,109,112,111,114,116,32,97,112,112,59,105,109,112,111,114,116,32,117,116,105,108,59]] c λd f=>
 aG _ [.str [115,97,121,32,109],.str [99,111,117,110,116,32,112],.str [97,100,100,32,98],.str [108,111,111,107,32,112]] f λe h=>
 cs d e <|
 k (d++e) h) (
 br (a==4) (
 k [112,105,120,101,108,115] c) (
 gU _ 8 c λj b=>
 k j b))))
def gN:ch:=xR cy gR aG gU
abbrev DS (F:ch):WT:=WU z9 (my F)
theorem Qf (cy:ch)(gR:bD)(aG:be)(gU:ch):KI [(111,ah (xp cy)),(152,ah (Dc gR)),(73,ah (fZ aG)),(153,ah (Dd gU))] a_ 104 ⟨[.pt,.data],27,1,false⟩ Tryz.f104 z9 (my (xR cy gR aG gU )):=λ_ _ _=>by kernel_rfl
theorem JA:aC D 104 (ah (DS gN)):=aO Tryz.func104 (tc zu (tc JG (tc eA (tc JH tn)))) (Qf cy gR aG gU )
abbrev dc:Type 1:=(O:Type)->LV->U0->(Int->U0->Option O)->Option O
def C9 (aD:av):dc:=λO a c k=>
 aD _ (nL a) c λb e=>
 c0 b <|
 Iy a b.toNat λd=>
 k d e
def aY:dc:=C9 aD
def KA (F:dc):GT:=λO s k=>F O (lL s 0) (fx s 1) (λb a=>k (.tup [.int .i64 b,ol a]))
abbrev mH (F:dc):WT:=WU z3 (KA F)
theorem ZL (aD:av):KI [(53,ah (cX aD))] a_ 57 ⟨[.pt,.data],12,1,false⟩ Tryz.f57 z3 (KA (C9 aD )):=λ_ _ _=>by kernel_rfl
theorem kA:aC D 57 (ah (mH aY)):=aO Tryz.func57 (tc ba tn) (ZL aD )
abbrev bA:Type 1:=(O:Type)->U0->(LV->U0->Option O)->Option O
def xe (aP:cQ):bA:=λO c k=>
 bM o0l (λa=>
 br (decide (a.2.2.2.1<a.2.2.1)) (
 ci a.2.2.2.1 a.2.1 <|
 fO a.2.1 a.2.2.2.1.toNat 0 λe=>
 aP _ 2 a.2.2.2.2 λf b=>
 br f (
 ca a.1 ([.str e]:LV) 16 <|
 some (.inl (Ia (a.1++([.str e]:LV),a.2.1,a.2.2.1,wi (a.2.2.2.1+1),b)))) (
 some (.inl (Ia (a.1,a.2.1,a.2.2.1,wi (a.2.2.2.1+1),b))))) (
 some (.inr (0,Cd (a.1,a.2.2.2.2))))) (Ia ([],[.str [104,111,109,101],.str [99,100,110],.str [101,118,105,108]],(nL ([.str [104,111,109,101],.str [99,100,110],.str [101,118,105,108]]:LV)),0,c)) λr7=>
 wx S5 r7.2 λd=>
 k d.1 d.2
def ew:bA:=xe aP
def PX:aH:=λi=>aL i [] [(3,[(.exit 0,ug 21 22 [(3,.own 1000000 1 .flat [])] [(21,.agg [.sl 1 true [],.int .i64 0,.int .i64 0])])])]
def tR (F:bA):GT:=λO s k=>F O (fx s 0) (λb a=>k (.tup [.own 0 1 .flat b,ol a]))
abbrev De (F:bA):WT:=WU i0o (tR F)
theorem Qs (aP:cQ):KI [(51,ah (ir aP))] PX 156 ⟨[.pt],21,1,false⟩ Tryz.f156 i0o (tR (xe aP )):=λ_ _ _=>by kernel_rfl
theorem JI:aC D 156 (ah (De ew)):=aO Tryz.func156 (tc fh tn) (Qs aP )
abbrev gY:Type 1:=(O:Type)->U0->(U1->U0->Option O)->Option O
def xS (aP:cQ)(ew:bA):gY:=λO c k=>
 aP _ 2 c λj e=>
 br j (
 k ⟨false,[],[],[],[]⟩ e) (
 ew _ e λd i=>
 ew _ i λf g=>
 ew _ g λb h=>
 aP _ 2 h λl a=>
 br l (
 k ⟨true,d,f,b,[110,55]⟩ a) (
 k ⟨true,d,f,b,[]⟩ a))
def bX:gY:=xS aP ew
def Cm (F:gY):GT:=λO s k=>F O (fx s 0) (λb a=>k (.tup [e1c b,ol a]))
abbrev tX (F:gY):WT:=WU e1i (Cm F)
theorem Qg (aP:cQ)(ew:bA):KI [(51,ah (ir aP)),(156,ah (De ew))] a_ 106 ⟨[.pt],18,1,false⟩ Tryz.f106 e1i (Cm (xS aP ew )):=λ_ _ _=>by kernel_rfl
theorem uP:aC D 106 (ah (tX bX)):=aO Tryz.func106 (tc fh (tc JI tn)) (Qg aP ew )
abbrev dK:Type 1:=(O:Type)->Int->Int->Int->(Bool->Option O)->Option O
def g0y:dK:=λO x gK a k=>
 br (decide (x >= gK)) (
 k (decide (x<=a))) (
 k false)
def aU:dK:=g0y
def j0q (F:dK):GT:=λO s k=>F O (lI s 0) (lI s 1) (lI s 2) (λa=>k (.bool a))
abbrev ko (F:dK):WT:=WU b1l (j0q F)
theorem d1a:KU [] a_ 65 Tryz.f65 b1l (j0q (g0y )):=λ_ _ _=>by kernel_rfl
theorem eI:aC D 65 (ko aU):=aB Tryz.func65 tn (d1a )
theorem FH:aC D1 65 (ko aU):=aB Tryz.func65 tn (d1a )
abbrev cW:Type 1:=(O:Type)->LU->(Bool->Option O)->Option O
def Hc (aU:dK):cW:=λO s k=>
 bM S6 (λa=>
 br (decide (a.2<(nS a.1))) (
 idxS a.1 a.2 λd=>
 br (decide (d<97)) (
 some (.inr (1,vy (a.1,false)))) (
 idxS a.1 a.2 λe=>
 br (decide (e>122)) (
 some (.inr (1,vy (a.1,false)))) (
 some (.inl (qD (a.1,wi (a.2+1))))))) (
 some (.inr (0,uC a.1)))) (qD (s,0)) λr5=>
 if r5.1=0 then
 wx Pv r5.2 λc=>
 aU _ (nS c) 1 8 λf=>
 k f
 else
 wx h0s r5.2 λb=>
 k b.2
def aw:cW:=Hc aU
def WX:aH:=λi=>aL i [] [(2,[(.exit 0,xk 23 [(0,.str [])] []),(.ret,xk 23 [(0,.str []),(2,.bool false)] [])])]
def Cl (F:cW):GT:=λO s k=>F O (lS s 0) (λa=>k (.bool a))
abbrev gx (F:cW):WT:=WU qE (Cl F)
theorem Y4 (aU:dK):KU [(65,ko aU)] WX 101 Tryz.f101 qE (Cl (Hc aU )):=λ_ _ _=>by kernel_rfl
theorem mc:aC D 101 (gx aw):=aB Tryz.func101 (tc eI tn) (Y4 aU )
theorem FG:aC D1 101 (gx aw):=aB Tryz.func101 (tc FH tn) (Y4 aU )
def Hh (aw:cW):T4:=λO l k=>
 bM XC (λa=>
 br (decide (a.2<(nL a.1))) (
 c0 a.2 <|
 B1 a.1 a.2.toNat λd=>
 aw _ d λc=>
 br (!c) (
 some (.inr (1,D_ (a.1,false)))) (
 some (.inl (HC (a.1,wi (a.2+1)))))) (
 some (.inr (0,fo a.1)))) (HC (l,0)) λr4=>
 if r4.1=0 then
 wx ru r4.2 λe=>
 k (decide ((nL e)<=4))
 else
 wx XE r4.2 λb=>
 k b.2
def ke:T4:=Hh aw
def m0p:aH:=λi=>aL i [] [(2,[(.exit 0,xk 19 [(0,.sl 1 true [])] []),(.ret,xk 19 [(0,.sl 1 true []),(2,.bool false)] [])])]
theorem ZB (aw:cW):KU [(101,gx aw)] m0p 201 Tryz.f201 z0 (G4 (Hh aw )):=λ_ _ _=>by kernel_rfl
theorem a0b:aC D 201 (W4 ke):=aB Tryz.func201 (tc mc tn) (ZB aw )
theorem RP:aC D1 201 (W4 ke):=aB Tryz.func201 (tc FG tn) (ZB aw )
def Hi (aU:dK):cW:=λO s k=>
 bM S6 (λa=>
 br (decide (a.2<(nS a.1))) (
 idxS a.1 a.2 λm=>
 br (decide (m<97)) (
 idxS a.1 a.2 λn=>
 br (decide (n<48)) (
 idxS a.1 a.2 λj=>
 br (j != 47) (
 some (.inr (1,vy (a.1,false)))) (
 some (.inl (qD (a.1,wi (a.2+1)))))) (
 idxS a.1 a.2 λh=>
 br (decide (h>57)) (
 idxS a.1 a.2 λi=>
 br (i != 47) (
 some (.inr (1,vy (a.1,false)))) (
 some (.inl (qD (a.1,wi (a.2+1)))))) (
 some (.inl (qD (a.1,wi (a.2+1))))))) (
 idxS a.1 a.2 λg=>
 br (decide (g>122)) (
 idxS a.1 a.2 λo=>
 br (decide (o<48)) (
 idxS a.1 a.2 λl=>
 br (l != 47) (
 some (.inr (1,vy (a.1,false)))) (
 some (.inl (qD (a.1,wi (a.2+1)))))) (
 idxS a.1 a.2 λf=>
 br (decide (f>57)) (
 idxS a.1 a.2 λe=>
 br (e != 47) (
 some (.inr (1,vy (a.1,false)))) (
 some (.inl (qD (a.1,wi (a.2+1)))))) (
 some (.inl (qD (a.1,wi (a.2+1))))))) (
 some (.inl (qD (a.1,wi (a.2+1))))))) (
 some (.inr (0,uC a.1)))) (qD (s,0)) λr13=>
 if r13.1=0 then
 wx Pv r13.2 λb=>
 aU _ (nS b) 1 20 λc=>
 k c
 else
 wx h0s r13.2 λd=>
 k d.2
def eG:cW:=Hi aU
def m0q:aH:=λi=>aL i [] [(2,[(.exit 0,xk 41 [(0,.str [])] []),(.ret,xk 41 [(0,.str []),(2,.bool false)] [])])]
theorem ZC (aU:dK):KU [(65,ko aU)] m0q 202 Tryz.f202 qE (Cl (Hi aU )):=λ_ _ _=>by kernel_rfl
theorem E9:aC D 202 (gx eG):=aB Tryz.func202 (tc eI tn) (ZC aU )
theorem RQ:aC D1 202 (gx eG):=aB Tryz.func202 (tc FH tn) (ZC aU )
abbrev Ah:Type 1:=(O:Type)->U1->(Bool->Option O)->Option O
def C0 (ke:T4)(eG:cW):Ah:=λO p k=>
 br (!p.a) (
 br ((nL p.b)==0) (
 br ((nL p.c)==0) (
 br ((nL p.d)==0) (
 k (p.e==[])) (
 k false)) (
 k false)) (
 k false)) (
 ke _ p.b λh=>
 br h (
 ke _ p.c λi=>
 br i (
 ke _ p.d λg=>
 br g (
 br (p.e==[]) (
 k true) (
 eG _ p.e λf=>
 k f)) (
 k false)) (
 k false)) (
 k false))
def kZ:Ah:=C0 ke eG
def Tu (F:Ah):GT:=λO s k=>F O (L3 s 0) (λa=>k (.bool a))
abbrev Oy (F:Ah):WT:=WU TJ (Tu F)
theorem Y8 (ke:T4)(eG:cW):KU [(201,W4 ke),(202,gx eG)] a_ 154 Tryz.f154 TJ (Tu (C0 ke eG )):=λ_ _ _=>by kernel_rfl
theorem Zw:aC D 154 (Oy kZ):=aB Tryz.func154 (tc a0b (tc E9 tn)) (Y8 ke eG )
theorem RL:aC D1 154 (Oy kZ):=aB Tryz.func154 (tc RP (tc RQ tn)) (Y8 ke eG )
abbrev Ai:Type 1:=(O:Type)->LU->LV->(LU->Option O)->Option O
def Hf:Ai:=λO b l k=>
 bM Pk (λa=>
 br (decide (a.2.2<(nL a.2.1))) (
 cs a.1 ([32]:LU) <|
 c0 a.2.2 <|
 B1 a.2.1 a.2.2.toNat λc=>
 cs (a.1++[32]) c <|
 some (.inl (EC ((a.1++[32])++c,a.2.1,wi (a.2.2+1))))) (
 some (.inr (0,uC a.1)))) (EC (b,l,0)) λr3=>
 wx Pv r3.2 λd=>
 k d
def kc:Ai:=Hf
def m0c:aH:=λi=>aL i [] [(2,[(.exit 0,xk 20 [(0,.str [])] [])])]
def Tv (F:Ai):GT:=λO s k=>F O (lS s 0) (lL s 1) (λa=>k (.str a))
abbrev Oz (F:Ai):WT:=WU i0p (Tv F)
theorem Y9:KU [] m0c 155 Tryz.f155 i0p (Tv (Hf )):=λ_ _ _=>by kernel_rfl
theorem Zx:aC D 155 (Oz kc):=aB Tryz.func155 tn (Y9 )
theorem RM:aC D1 155 (Oz kc):=aB Tryz.func155 tn (Y9 )
abbrev oB:Type 1:=(O:Type)->U1->(LU->Option O)->Option O
def Cz (kZ:Ah)(kc:Ai):oB:=λO p k=>
 fB (kc _ [115,99,114,105,112,116] p.b λt3=>
 cs t3 ([59]:LU) <|
 kc _ [115,116,121,108,101] p.c λf=>
 cs (t3++[59]) f <|
 cs ((t3++[59])++f) ([59]:LU) <|
 kc _ [105,109,103] p.d λg=>
 cs (((t3++[59])++f)++[59]) g <|
 br (!(p.e==[])) (
 cs ((((t3++[59])++f)++[59])++g) ([59,110,111,110,99,101,32]:LU) <|
 cs (((((t3++[59])++f)++[59])++g)++[59,110,111,110,99,101,32]) p.e <|
 k ((((((t3++[59])++f)++[59])++g)++[59,110,111,110,99,101,32])++p.e)) (
 k ((((t3++[59])++f)++[59])++g))) λj7=>
 kZ _ p λh=>
 br (!h) (
 k []) (
 br (!p.a) (
 k []) (
 j7))
def cG:oB:=Cz kZ kc
def TO (F:oB):GT:=λO s k=>F O (L3 s 0) (λa=>k (.str a))
abbrev BO (F:oB):WT:=WU TJ (TO F)
theorem Y5 (kZ:Ah)(kc:Ai):KU [(154,Oy kZ),(155,Oz kc)] a_ 105 Tryz.f105 TJ (TO (Cz kZ kc )):=λ_ _ _=>by kernel_rfl
theorem zp:aC D 105 (BO cG):=aB Tryz.func105 (tc Zw (tc Zx tn)) (Y5 kZ kc )
theorem RJ:aC D1 105 (BO cG):=aB Tryz.func105 (tc RL (tc RM tn)) (Y5 kZ kc )
abbrev lF:Type 1:=(O:Type)->Int->U0->(U2->U0->Option O)->Option O
def DE (gN:ch)(aY:dc)(aP:cQ)(bX:gY)(cG:oB):lF:=λO a c k=>
 gN _ a c λd l=>
 aY _ [.int .i64 0,.int .i64 5,.int .i64 50] l λf h=>
 aP _ 2 h λe b=>
 br (a==1) (
 bX _ b λg i=>
 cG _ g λj=>
 k ⟨200,a,d,f,e,j⟩ i) (
 k ⟨200,a,d,f,e,[]⟩ b)
def cA:lF:=DE gN aY aP bX cG
def KC (F:lF):GT:=λO s k=>F O (lI s 0) (fx s 1) (λb a=>k (.tup [MF b,ol a]))
abbrev zJ (F:lF):WT:=WU e1j (KC F)
theorem ZR (gN:ch)(aY:dc)(aP:cQ)(bX:gY)(cG:oB):KI [(104,ah (DS gN)),(57,ah (mH aY)),(51,ah (ir aP)),(106,ah (tX bX)),(105,BO cG)] a_ 72 ⟨[.pt,.data],23,1,false⟩ Tryz.f72 e1j (KC (DE gN aY aP bX cG )):=λ_ _ _=>by kernel_rfl
theorem yb:aC D 72 (ah (zJ cA)):=aO Tryz.func72 (tc JA (tc kA (tc fh (tc uP (tc zp tn))))) (ZR gN aY aP bX cG )
abbrev iq:Type 1:=(O:Type)->U0->(U2->U0->Option O)->Option O
def C4 (aD:av)(cA:lF)(aY:dc)(aG:be):iq:=λO c k=>
 aD _ 5 c λu t=>
 cA _ (wi (1+u)) t λg r=>
 aD _ 12 r λi h=>
 br (i==0) (
 aY _ [.int .i64 99,.int .i64 100,.int .i64 404,.int .i64 599,.int .i64 600] h λv q=>
 k {g with a:=v} q) (
 br (i==1) (
 aY _ [.int .i64 0,.int .i64 6] h λs n=>
 k {g with b:=s} n) (
 br (i==2) (
 aY _ [.int .i64 (-1),.int .i64 1000,.int .i64 1001] h λl o=>
 k {g with d:=l} o) (
 br (i==3) (
 aG _ [.str [120],.str [115,99,114,105,112,116,59,115,116,121,108,101,59,105,109,103]] h λm p=>
 k {g with f:=m} p) (
 br (i==4) (
 bM Pm (λe=>
 br (decide ((nS e.2.1.c)<400)) (
 cs e.2.1.c ([48,49,50,51,52,53,54,55,56,57]:LU) <|
 some (.inl (EJ (e.1,{e.2.1 with c:=e.2.1.c++[48,49,50,51,52,53,54,55,56,57]},e.2.2)))) (
 some (.inr (0,EJ (e.1,e.2.1,e.2.2))))) (EJ (⟨0,0,[],0,false,[]⟩,g,h)) λr16=>
 wx Pm r16.2 λj=>
 k j.2.1 j.2.2) (
 k g h)))))
def bj:iq:=C4 aD cA aY aG
def We:aH:=λi=>aL i [] [(12,[(.exit 1,ug 46 47 [(2,.ptr 2 0),(3,.ptr 3 0)] [(2,.agg [.int .i64 0,.int .i64 0,.str [],.int .i64 0,.bool false,.str []]),(3,.agg [.int .i64 0,.int .i64 0,.str [],.int .i64 0,.bool false,.str []]),(46,.agg [.sl 1 true [],.int .i64 0,.int .i64 0])])])]
def J6 (F:iq):GT:=λO s k=>F O (fx s 0) (λb a=>k (.tup [MF b,ol a]))
abbrev vT (F:iq):WT:=WU e1k (J6 F)
theorem ZG (aD:av)(cA:lF)(aY:dc)(aG:be):KI [(53,ah (cX aD)),(72,ah (zJ cA)),(57,ah (mH aY)),(73,ah (fZ aG))] We 48 ⟨[.pt],46,1,false⟩ Tryz.f48 e1k (J6 (C4 aD cA aY aG )):=λ_ _ _=>by kernel_rfl
theorem uQ:aC D 48 (ah (vT bj)):=aO Tryz.func48 (tc ba (tc yb (tc kA (tc eA tn)))) (ZG aD cA aY aG )
abbrev G0:Type 1:=(O:Type)->LV->(U2->Option O)->Option O
def k0h (au:eK)(bj:iq):G0:=λO a k=>
 au _ a λc=>
 bj _ c λb d=>
 k b
def HH:G0:=k0h au bj
def j0h (F:G0):GT:=λO s k=>F O (lL s 0) (λa=>k (MF a))
abbrev W26 (F:G0):WT:=WU z0 (j0h F)
theorem h1y (au:eK)(bj:iq):KU [(28,ah (nZ au)),(48,ah (vT bj))] a_ 26 Tryz.f26 z0 (j0h (k0h au bj )):=λ_ _ _=>by kernel_rfl
theorem w0r:aC D 26 (W26 HH):=aB Tryz.func26 (tc lr (tc uQ tn)) (h1y au bj )
def P5 (HH:G0):G0:=λO a k=>
 HH _ a λb=>
 k b
def F5:G0:=P5 HH
theorem k5 (HH:G0):KU [(26,W26 HH)] a_ 5 Tryz.f5 z0 (j0h (P5 HH )):=λ_ _ _=>by kernel_rfl
theorem j1o:aC D 5 (W26 F5):=aB Tryz.func5 (tc w0r tn) (k5 HH )
abbrev BN:Type 1:=(O:Type)->LV->LU->(Int->Option O)->Option O
def l0l:BN:=λO l c k=>
 bM Bb (λb=>
 br (decide (b.2.2<(nL b.1))) (
 c0 b.2.2 <|
 wM b.1 b.2.2.toNat λd=>
 br (d.a==b.2.1) (
 some (.inr (1,cY b.2.2))) (
 some (.inl (pC (b.1,b.2.1,wi (b.2.2+1)))))) (
 some (.inr (0,[])))) (pC (l,c,0)) λr3=>
 if r3.1=0 then
 k (-1)
 else
 wx iX r3.2 λe=>
 k e
def sK:BN:=l0l
def n0v:aH:=λi=>aL i [] [(2,[(.exit 0,xk 20 [] []),(.ret,xk 20 [(4,.int .i64 0)] [])])]
def g0o (F:BN):GT:=λO s k=>F O (lL s 0) (lS s 1) (λa=>k (.int .i64 a))
abbrev h0o (F:BN):WT:=WU e1l (g0o F)
theorem d1b:KU [] n0v 89 Tryz.f89 e1l (g0o (l0l )):=λ_ _ _=>by kernel_rfl
theorem c0o:aC D 89 (h0o sK):=aB Tryz.func89 tn (d1b )
theorem c0p:aC D1 89 (h0o sK):=aB Tryz.func89 tn (d1b )
abbrev Sz:Type 1:=(O:Type)->U3->LU->(Int->Option O)->Option O
def l0m:Sz:=λO s d k=>
 bM XN (λc=>
 br (decide (c.2.1<(nL c.2.2.b))) (
 c0 c.2.1 <|
 Ce c.2.2.b c.2.1.toNat λe=>
 br (e.a==c.1) (
 some (.inr (1,cY c.2.1))) (
 some (.inl (QB (c.1,wi (c.2.1+1),c.2.2))))) (
 some (.inr (0,[])))) (QB (d,0,s)) λr3=>
 if r3.1=0 then
 k (-1)
 else
 wx iX r3.2 λf=>
 k f
def AU:Sz:=l0m
def c1p:aH:=λi=>aL i [] [(2,[(.exit 0,xk 22 [] []),(.ret,xk 22 [(4,.int .i64 0)] [])])]
def c1e (F:Sz):GT:=λO s k=>F O (L4 s 0) (lS s 2) (λa=>k (.int .i64 a))
abbrev l0o (F:Sz):WT:=WU e1m (c1e F)
theorem d1c:KU [] c1p 91 Tryz.f91 e1m (c1e (l0m )):=λ_ _ _=>by kernel_rfl
theorem x0l:aC D 91 (l0o AU):=aB Tryz.func91 tn (d1c )
theorem c0q:aC D1 91 (l0o AU):=aB Tryz.func91 tn (d1c )
abbrev oH:Type 1:=(O:Type)->LU->Int->(LV->Option O)->Option O
def Hj:oH:=λO s c k=>
 bM XO (λa=>
 br (decide (a.2.2.2.2<=(nS a.1))) (
 mq (λ(e:Bool)=>
 br e (
 cc a.2.2.2.1 a.2.2.2.2 (nS a.1) <|
 ca a.2.2.1 ([.str ((a.1.take a.2.2.2.2.toNat).drop a.2.2.2.1.toNat)]:LV) 16 <|
 some (.inl (IU (a.1,a.2.1,a.2.2.1++([.str ((a.1.take a.2.2.2.2.toNat).drop a.2.2.2.1.toNat)]:LV),wi (a.2.2.2.2+1),wi (a.2.2.2.2+1))))) (
 some (.inl (IU (a.1,a.2.1,a.2.2.1,a.2.2.2.1,wi (a.2.2.2.2+1)))))) λj4=>
 br (a.2.2.2.2==(nS a.1)) (
 j4 true) (
 idxS a.1 a.2.2.2.2 λd=>
 j4 (d==a.2.1))) (
 some (.inr (0,fo a.2.2.1)))) (IU (s,c,[],0,0)) λr9=>
 wx ru r9.2 λb=>
 k b
def cP:oH:=Hj
def m0r:aH:=λi=>aL i [] [(4,[(.exit 0,xk 36 [(5,.own 1000000 1 .flat [])] [])])]
def UT (F:oH):GT:=λO s k=>F O (lS s 0) (lI s 1) (λa=>k (.own 0 1 .flat a))
abbrev BR (F:oH):WT:=WU TK (UT F)
theorem ZD:KU [] m0r 203 Tryz.f203 TK (UT (Hj )):=λ_ _ _=>by kernel_rfl
theorem AB:aC D 203 (BR cP):=aB Tryz.func203 tn (ZD )
theorem RR:aC D1 203 (BR cP):=aB Tryz.func203 tn (ZD )
abbrev vC:Type 1:=(O:Type)->LU->(U1->Bool->Option O)->Option O
def C1 (cP:oH)(cG:oB):vC:=λO s k=>
 br (s==[]) (
 k ⟨false,[],[],[],[]⟩ true) (
 cP _ s 59 λl1=>
 br (decide ((nL l1)<3)) (
 k ⟨false,[],[],[],[]⟩ false) (
 ci 0 l1 <|
 fO l1 0 0 λj=>
 ci 1 l1 <|
 fO l1 1 0 λt3=>
 ci 2 l1 <|
 fO l1 2 0 λh=>
 cP _ j 32 λc=>
 cc 1 (nL c) (nL c) <|
 cP _ t3 32 λa=>
 cc 1 (nL a) (nL a) <|
 cP _ h 32 λb=>
 cc 1 (nL b) (nL b) <|
 br (decide ((nL l1)>3)) (
 ci 3 l1 <|
 fO l1 3 0 λi=>
 br (decide ((nS i)>6)) (
 ci 3 l1 <|
 fO l1 3 0 λd=>
 cc 6 (nS d) (nS d) <|
 cG _ ⟨true,(c.take ((nL c).toNat)).drop 1,(a.take ((nL a).toNat)).drop 1,(b.take ((nL b).toNat)).drop 1,(d.take ((nS d).toNat)).drop 6⟩ λg=>
 br (!(g==s)) (
 k ⟨false,[],[],[],[]⟩ false) (
 k ⟨true,(c.take ((nL c).toNat)).drop 1,(a.take ((nL a).toNat)).drop 1,(b.take ((nL b).toNat)).drop 1,(d.take ((nS d).toNat)).drop 6⟩ true)) (
 cG _ ⟨true,(c.take ((nL c).toNat)).drop 1,(a.take ((nL a).toNat)).drop 1,(b.take ((nL b).toNat)).drop 1,[]⟩ λe=>
 br (!(e==s)) (
 k ⟨false,[],[],[],[]⟩ false) (
 k ⟨true,(c.take ((nL c).toNat)).drop 1,(a.take ((nL a).toNat)).drop 1,(b.take ((nL b).toNat)).drop 1,[]⟩ true))) (
 cG _ ⟨true,(c.take ((nL c).toNat)).drop 1,(a.take ((nL a).toNat)).drop 1,(b.take ((nL b).toNat)).drop 1,[]⟩ λf=>
 br (!(f==s)) (
 k ⟨false,[],[],[],[]⟩ false) (
 k ⟨true,(c.take ((nL c).toNat)).drop 1,(a.take ((nL a).toNat)).drop 1,(b.take ((nL b).toNat)).drop 1,[]⟩ true))))
def fV:vC:=C1 cP cG
def T5 (F:vC):GT:=λO s k=>F O (lS s 0) (λb a=>k (.tup [k1y b,.bool a]))
abbrev Hq (F:vC):WT:=WU qE (T5 F)
theorem ZA (cP:oH)(cG:oB):KU [(203,BR cP),(105,BO cG)] a_ 160 Tryz.f160 qE (T5 (C1 cP cG )):=λ_ _ _=>by kernel_rfl
theorem Lg:aC D 160 (Hq fV):=aB Tryz.func160 (tc AB (tc zp tn)) (ZA cP cG )
theorem RO:aC D1 160 (Hq fV):=aB Tryz.func160 (tc RR (tc RJ tn)) (ZA cP cG )
abbrev kh:Type 1:=(O:Type)->U2->(Bool->Option O)->Option O
def Hg (fV:vC)(aU:dK):kh:=λO x k=>
 fV _ x.f λj h=>
 aU _ x.a 100 599 λi=>
 br i (
 aU _ x.b 1 5 λg=>
 br g (
 br (decide ((nS x.c)<=400)) (
 aU _ x.d 0 1000 λe=>
 br e (
 k h) (
 k false)) (
 k false)) (
 k false)) (
 k false)
def bY:kh:=Hg fV aU
def Tw (F:kh):GT:=λO s k=>F O (sE s 0) (λa=>k (.bool a))
abbrev vQ (F:kh):WT:=WU Ss (Tw F)
theorem Y_ (fV:vC)(aU:dK):KU [(160,Hq fV),(65,ko aU)] a_ 157 Tryz.f157 Ss (Tw (Hg fV aU )):=λ_ _ _=>by kernel_rfl
theorem sy:aC D 157 (vQ bY):=aB Tryz.func157 (tc Lg (tc eI tn)) (Y_ fV aU )
theorem RN:aC D1 157 (vQ bY):=aB Tryz.func157 (tc RO (tc FH tn)) (Y_ fV aU )
abbrev AW:Type 1:=(O:Type)->U3->(Bool->Option O)->Option O
def He (aw:cW)(bY:kh):AW:=λO s k=>
 bM Pp (λi=>
 br (decide (i.1<(nL i.2.b))) (
 fB (bM XP (λh=>
 br (decide (h.2.1<h.1)) (
 c0 h.2.1 <|
 Ce h.2.2.b h.2.1.toNat λq=>
 c0 h.1 <|
 Ce h.2.2.b h.1.toNat λt=>
 br (q.a==t.a) (
 some (.inr (1,YX (false,h.1,h.2.2)))) (
 some (.inl (QD (h.1,wi (h.2.1+1),h.2.2))))) (
 some (.inr (0,Bh (h.1,h.2.2))))) (QD (i.1,0,i.2)) λr10=>
 if r10.1=0 then
 wx Pp r10.2 λm=>
 some (.inl (Bh (wi (m.1+1),m.2)))
 else
 wx o0b r10.2 λn=>
 some (.inr (1,IV (n.1,n.2.2)))) λyQ=>
 c0 i.1 <|
 Ce i.2.b i.1.toNat λu=>
 aw _ u.a λv=>
 br (!v) (
 some (.inr (1,IV (false,i.2)))) (
 c0 i.1 <|
 Ce i.2.b i.1.toNat λj=>
 bY _ ⟨j.b,j.c,j.d,j.e,j.f,j.g⟩ λr=>
 br (!r) (
 some (.inr (1,IV (false,i.2)))) (
 yQ))) (
 some (.inr (0,QC i.2)))) (Bh (0,s)) λr14=>
 if r14.1=0 then
 wx o0a r14.2 λl=>
 aw _ l.a λo=>
 br o (
 k (decide ((nL l.b)<=10))) (
 k false)
 else
 wx o0c r14.2 λp=>
 k p.1
def kY:AW:=He aw bY
def l0r:aH:=λi=>aL i [] [(2,[(.exit 0,xk 57 [(1,.ptr 1 0)] [(1,.agg [.str [],.sl 7 true []])]),(.ret,xk 57 [(1,.ptr 1 0),(2,.bool false)] [(1,.agg [.str [],.sl 7 true []])])]),(7,[(.exit 2,xk 57 [(1,.ptr 1 0),(3,.int .i64 0)] [(1,.agg [.str [],.sl 7 true []])]),(.ret,xk 57 [(1,.ptr 1 0),(2,.bool false),(3,.int .i64 0)] [(1,.agg [.str [],.sl 7 true []])])])]
def TQ (F:AW):GT:=λO s k=>F O (L4 s 0) (λa=>k (.bool a))
abbrev Ok (F:AW):WT:=WU e1n (TQ F)
theorem Y6 (aw:cW)(bY:kh):KU [(101,gx aw),(157,vQ bY)] l0r 108 Tryz.f108 e1n (TQ (He aw bY )):=λ_ _ _=>by kernel_rfl
theorem Zh:aC D 108 (Ok kY):=aB Tryz.func108 (tc mc (tc sy tn)) (Y6 aw bY )
theorem RK:aC D1 108 (Ok kY):=aB Tryz.func108 (tc FG (tc RN tn)) (Y6 aw bY )
abbrev xm:Type 1:=(O:Type)->LV->U5->U2->(LV->Bool->Option O)->Option O
def mB:xm:=λO l a x k=>FR (λO xs h k=>sK O xs h k) (λO h fs p k=>AU O ⟨h,fs⟩ p k) (λO h fs k=>kY O ⟨h,fs⟩ k) O l a.a a.b x.a x.b x.c x.d x.e x.f k
def g1f (F:xm):GT:=λO s k=>F O (lL s 0) (fQ s 1) (sE s 3) (λb a=>k (.tup [.own 0 2 .clean b,.bool a]))
abbrev h0m (F:xm):WT:=WU l1f (g1f F)
theorem Q7:aC D 74 (h0m mB):=mQ (λ_ _ _=>by kernel_rfl) (RI (Fsv:=(λO xs h k=>sK O xs h k)) (FF:=(λO h fs p k=>AU O ⟨h,fs⟩ p k)) (FI:=(λO h fs k=>kY O ⟨h,fs⟩ k)) (λ_=>rfl) (nB (λ_ _ _=>by kernel_rfl) c0p) (nB (λ_ _ _=>by kernel_rfl) c0q) (nB (λ_ _ _=>by kernel_rfl) RK))
def C5 (aP:cQ)(cA:lF)(mB:xm):bA:=λO c k=>
 bM o0l (λd=>
 br (decide (d.2.2.2.1<d.2.2.1)) (
 ci d.2.2.2.1 d.2.1 <|
 fO d.2.1 d.2.2.2.1.toNat 0 λT=>
 bM XQ (λb=>
 br (decide (b.2.2.2.2.2.2.2.1<b.2.2.2.2.2.2.1)) (
 ci b.2.2.2.2.2.2.2.1 b.2.2.2.2.2.1 <|
 fO b.2.2.2.2.2.1 b.2.2.2.2.2.2.2.1.toNat 0 λI=>
 q0v (λ(M:Int) (t:U0)=>
 aP _ 6 t λq j=>
 br (!q) (
 cA _ M j λn z=>
 mB _ b.1 ⟨b.2.1,I⟩ n λl Q=>
 some (.inl (IW (l,b.2.1,b.2.2.1,b.2.2.2.1,b.2.2.2.2.1,b.2.2.2.2.2.1,b.2.2.2.2.2.2.1,wi (b.2.2.2.2.2.2.2.1+1),z)))) (
 some (.inl (IW (b.1,b.2.1,b.2.2.1,b.2.2.2.1,b.2.2.2.2.1,b.2.2.2.2.2.1,b.2.2.2.2.2.2.1,wi (b.2.2.2.2.2.2.2.1+1),j))))) λQe=>
 br (!(I==[97,112,112])) (
 aP _ 2 b.2.2.2.2.2.2.2.2 λK J=>
 br K (
 Qe 5 J) (
 Qe 2 J)) (
 Qe 2 b.2.2.2.2.2.2.2.2)) (
 some (.inr (0,YW (b.1,b.2.1,b.2.2.1,b.2.2.2.1,b.2.2.2.2.1,b.2.2.2.2.2.2.2.2))))) (IW (d.1,T,d.2.1,d.2.2.1,d.2.2.2.1,[.str [97,112,112],.str [108,105,98],.str [117,116,105,108]],(nL ([.str [97,112,112],.str [108,105,98],.str [117,116,105,108]]:LV)),0,d.2.2.2.2)) λr18=>
 wx n0z r18.2 λa=>
 aP _ 4 a.2.2.2.2.2 λE i=>
 br (!E) (
 cA _ 3 i λD H=>
 mB _ a.1 ⟨a.2.1,[115,116,121,108,101]⟩ D λh P=>
 aP _ 4 H λm f=>
 br (!m) (
 cA _ 4 f λy w=>
 mB _ h ⟨a.2.1,[108,111,103,111]⟩ y λu N=>
 some (.inl (Ia (u,a.2.2.1,a.2.2.2.1,wi (a.2.2.2.2.1+1),w)))) (
 some (.inl (Ia (h,a.2.2.1,a.2.2.2.1,wi (a.2.2.2.2.1+1),f))))) (
 aP _ 4 i λv g=>
 br (!v) (
 cA _ 4 g λF o=>
 mB _ a.1 ⟨a.2.1,[108,111,103,111]⟩ F λG R=>
 some (.inl (Ia (G,a.2.2.1,a.2.2.2.1,wi (a.2.2.2.2.1+1),o)))) (
 some (.inl (Ia (a.1,a.2.2.1,a.2.2.2.1,wi (a.2.2.2.2.1+1),g)))))) (
 some (.inr (0,Cd (d.1,d.2.2.2.2))))) (Ia ([],[.str [104,111,109,101],.str [99,100,110],.str [101,118,105,108]],(nL ([.str [104,111,109,101],.str [99,100,110],.str [101,118,105,108]]:LV)),0,c)) λr=>
 wx S5 r.2 λe=>
 cA _ 1 e.2 λB p=>
 mB _ e.1 ⟨[104,111,109,101],[105,110,100,101,120]⟩ B λx L=>
 cA _ 1 p λA s=>
 mB _ x ⟨[104,111,109,101],[110,101,120,116]⟩ A λC S=>
 k C s
def bm:bA:=C5 aP cA mB
def Wf:aH:=λi=>aL i [] [(3,[(.exit 0,ug 85 86 [(0,.ptr 85 0),(3,.own 1000000 2 .clean [])] [(85,.agg [.sl 1 true [],.int .i64 0,.int .i64 0])])]),(6,[(.exit 2,ug 85 86 [(0,.ptr 85 0),(3,.own 1000000 2 .clean []),(5,.str []),(10,.own 1000001 1 .flat []),(11,.int .i64 0),(12,.int .i64 0)] [(85,.agg [.sl 1 true [],.int .i64 0,.int .i64 0])])])]
def J7 (F:bA):GT:=λO s k=>F O (fx s 0) (λb a=>k (.tup [.own 0 2 .clean b,ol a]))
abbrev vU (F:bA):WT:=WU e1o (J7 F)
theorem ZH (aP:cQ)(cA:lF)(mB:xm):KI [(51,ah (ir aP)),(72,ah (zJ cA)),(74,h0m mB)] Wf 49 ⟨[.pt],85,1,false⟩ Tryz.f49 e1o (J7 (C5 aP cA mB )):=λ_ _ _=>by kernel_rfl
theorem uR:aC D 49 (ah (vU bm)):=aO Tryz.func49 (tc fh (tc yb (tc Q7 tn))) (ZH aP cA mB )
abbrev oa:Type 1:=(O:Type)->U5->(Bool->Option O)->Option O
def k0y (aw:cW):oa:=λO a k=>
 aw _ a.a λd=>
 br d (
 aw _ a.b λc=>
 k c) (
 k false)
def dw:oa:=k0y aw
def j0r (F:oa):GT:=λO s k=>F O (fQ s 0) (λa=>k (.bool a))
abbrev Dr (F:oa):WT:=WU TL (j0r F)
theorem i1y (aw:cW):KU [(101,gx aw)] a_ 67 Tryz.f67 TL (j0r (k0y aw )):=λ_ _ _=>by kernel_rfl
theorem wZ:aC D 67 (Dr dw):=aB Tryz.func67 (tc mc tn) (i1y aw )
abbrev Ak:Type 1:=(O:Type)->(U7->Option O)->Option O
def M0:Ak:=λO  k=>
 k ⟨[w0 ⟨[112,97,103,101],[],(-1),[]⟩],[.int .i64 0]⟩
def qU:Ak:=M0
def T6 (F:Ak):GT:=λO s k=>F O  (λa=>k (i0l a))
abbrev Vd (F:Ak):WT:=WU MH (T6 F)
theorem s0g:KU [] a_ 161 Tryz.f161 MH (T6 (M0 )):=λ_ _ _=>by kernel_rfl
theorem Zz:aC D 161 (Vd qU):=aB Tryz.func161 tn (s0g )
abbrev oC:Type 1:=(O:Type)->U5->U2->(U8->Bool->Option O)->Option O
def MS (fV:vC)(dw:oa)(bY:kh)(qU:Ak):oC:=λO a x k=>
 fV _ x.f λg j=>
 fB (qU _  λh=>
 k ⟨a.a,a.b,g.a,g.b,g.c,g.d,g.e,[],[],false,h.a,h.b,[],[],[],0,0,0,0,[],[],false⟩ true) λj7=>
 dw _ a λl=>
 br (!l) (
 k ⟨[],[],false,[],[],[],[],[],[],false,[],[],[],[],[],0,0,0,0,[],[],false⟩ false) (
 bY _ x λi=>
 br (!i) (
 k ⟨[],[],false,[],[],[],[],[],[],false,[],[],[],[],[],0,0,0,0,[],[],false⟩ false) (
 br (!j) (
 k ⟨[],[],false,[],[],[],[],[],[],false,[],[],[],[],[],0,0,0,0,[],[],false⟩ false) (
 br (x.a != 200) (
 k ⟨[],[],false,[],[],[],[],[],[],false,[],[],[],[],[],0,0,0,0,[],[],false⟩ false) (
 br (x.b != 1) (
 k ⟨[],[],false,[],[],[],[],[],[],false,[],[],[],[],[],0,0,0,0,[],[],false⟩ false) (
 j7)))))
def dW:oC:=MS fV dw bY qU
def TS (F:oC):GT:=λO s k=>F O (fQ s 0) (sE s 2) (λb a=>k (.tup [e1d b,.bool a]))
abbrev DU (F:oC):WT:=WU e1p (TS F)
theorem r0a (fV:vC)(dw:oa)(bY:kh)(qU:Ak):KU [(160,Hq fV),(67,Dr dw),(157,vQ bY),(161,Vd qU)] a_ 110 Tryz.f110 e1p (TS (MS fV dw bY qU )):=λ_ _ _=>by kernel_rfl
theorem zt:aC D 110 (DU dW):=aB Tryz.func110 (tc Lg (tc wZ (tc sy (tc Zz tn)))) (r0a fV dw bY qU )
abbrev eL:Type 1:=(O:Type)->U0->(U8->U0->Option O)->Option O
def DG (bX:gY)(cG:oB)(dW:oC):eL:=λO c k=>
 bX _ c λd b=>
 cG _ d λt3=>
 dW _ ⟨[104,111,109,101],[105,110,100,101,120]⟩ ⟨200,1,[],0,false,t3⟩ λa e=>
 k a b
def kw:eL:=DG bX cG dW
def KE (F:eL):GT:=λO s k=>F O (fx s 0) (λb a=>k (.tup [e1d b,ol a]))
abbrev KP (F:eL):WT:=WU TM (KE F)
theorem ZT (bX:gY)(cG:oB)(dW:oC):KI [(106,ah (tX bX)),(105,BO cG),(110,DU dW)] a_ 76 ⟨[.pt],15,1,false⟩ Tryz.f76 TM (KE (DG bX cG dW )):=λ_ _ _=>by kernel_rfl
theorem Q8:aC D 76 (ah (KP kw)):=aO Tryz.func76 (tc uP (tc zp (tc zt tn))) (ZT bX cG dW )
def DH (aG:be)(aD:av)(cy:ch):bD:=λO c k=>
 aG _ [.str [],.str [60,112,62,104,105,60,47,112,62],.str [60,108,105,110,107,32,104,114,101,102,61,115,116,121,108,101,62]] c λl n=>
 aD _ 6 n λm i=>
 bM XT (λb=>
 br (decide (b.2.1>0)) (
 cy _ 2 b.2.2 λf h=>
 cs ([60,115,99,114,105,112,116,62]:LU) f <|
 cs ([60,115,99,114,105,112,116,62]++f:LU) ([60,47,115,99,114,105,112,116,62]:LU) <|
 aG _ [.str [60,115,99,114,105,112,116,32,115,114,99,61,97,112,112,62,60,47,115,99,114,105,112,116,62],.str (([60,115,99,114,105,112,116,62]++f)++[60,47,115,99,114,105,112,116,62]),.str [60,115,99,114,105,112,116,32,115,114,99,61,99,100,110,47,108,105,98,62,60,47,115,99,114,105,112,116,62],.str [60,115,99,114,105,112,116,32,115,114,99,61,117,116,105,108,32,107,105,110,100,61,109,111,100,117,108,101,62,60,47,115,99,114,105,112,116,62],.str [60,115,99,114,105,112,116,32,115,114,99,61,108,105,98,32,107,105,110,100,61,100,101,102,101,114,62,60,47,115,99,114,105,112,116,62],.str [60,105,109,103,32,115,114,99,61,108,111,103,111,62],.str [60,108,105,110,107,32,104,114,101,102,61,99,100,110,47,115,116,121,108,101,62],.str [60,112,62,120,60,47,112,62],.str [60,98,62],.str [60,115,99,114,105,112,116,32,110,111,110,99,101,61,110,55,62,115,97,121,32,110,60,47,115,99,114,105,112,116,62],.str [60,115,99,114,105,112,116,32,115,114,99,61,101,118,105,108,47,97,112,112,62,60,47,115,99,114,105,112,116,62],.str [116,101,120,116]] h λg j=>
 cs b.1 g <|
 some (.inl (HD (b.1++g,wi (b.2.1-1),j)))) (
 some (.inr (0,LC (b.1,b.2.2))))) (HD (l,m,i)) λr10=>
 wx h0r r10.2 λa=>
 aG _ [.str [],.str [],.str [60,112,62,101,110,100,60,47,112,62],.str [60,112]] a.2 λd e=>
 cs a.1 d <|
 k (a.1++d) e
def ed:bD:=DH aG aD cy
def Wh:aH:=λi=>aL i [] [(3,[(.exit 0,ug 28 29 [(0,.ptr 28 0),(3,.str [])] [(28,.agg [.sl 1 true [],.int .i64 0,.int .i64 0])])])]
abbrev Ds (F:bD):WT:=WU e1q (iO F)
theorem ZU (aG:be)(aD:av)(cy:ch):KI [(73,ah (fZ aG)),(53,ah (cX aD)),(111,ah (xp cy))] Wh 77 ⟨[.pt],28,1,false⟩ Tryz.f77 e1q (iO (DH aG aD cy )):=λ_ _ _=>by kernel_rfl
theorem FD:aC D 77 (ah (Ds ed)):=aO Tryz.func77 (tc eA (tc ba (tc zu tn))) (ZU aG aD cy )
abbrev AX:Type 1:=(O:Type)->U1->(U1->Option O)->Option O
def MV:AX:=λO p k=>
 ca ([]:LV) p.b 16 <|
 ca ([]:LV) p.c 16 <|
 ca ([]:LV) p.d 16 <|
 k {p with b:=([]:LV)++p.b,c:=([]:LV)++p.c,d:=([]:LV)++p.d}
def qF:AX:=MV
def TT (F:AX):GT:=λO s k=>F O (L3 s 0) (λa=>k (e1c a))
abbrev VT (F:AX):WT:=WU TJ (TT F)
theorem r0c:KU [] a_ 113 Tryz.f113 TJ (TT (MV )):=λ_ _ _=>by kernel_rfl
theorem Zi:aC D 113 (VT qF):=aB Tryz.func113 tn (r0c )
abbrev bT:Type 1:=(O:Type)->LV->(LV->Option O)->Option O
def M1:bT:=λO l k=>
 ca ([]:LV) l 32 <|
 k (([]:LV)++l)
def fH:bT:=M1
def HZ (F:bT):GT:=λO s k=>F O (lL s 0) (λa=>k (.own 0 2 .flat a))
abbrev Hr (F:bT):WT:=WU e1r (HZ F)
theorem s0h:KU [] a_ 162 Tryz.f162 e1r (HZ (M1 )):=λ_ _ _=>by kernel_rfl
theorem E3:aC D 162 (Hr fH):=aB Tryz.func162 tn (s0h )
def MW (fH:bT):bT:=λO l k=>
 bM vl (λa=>
 br (decide (a.2.2<(nL a.1))) (
 c0 a.2.2 <|
 S_ a.1 a.2.2.toNat λd=>
 c0 a.2.2 <|
 S_ a.1 a.2.2.toNat λf=>
 fH _ f.c λb=>
 ca a.2.1 ([w1 {d with c:=b}]:LV) 64 <|
 some (.inl (ld (a.1,a.2.1++([w1 {d with c:=b}]:LV),wi (a.2.2+1))))) (
 some (.inr (0,fo a.2.1)))) (ld (l,[],0)) λr5=>
 wx ru r5.2 λe=>
 k e
def qG:bT:=MW fH
def l0t:aH:=λi=>aL i [] [(3,[(.exit 0,xk 29 [(3,.own 1000000 4 .clean [])] [])])]
def TU (F:bT):GT:=λO s k=>F O (lL s 0) (λa=>k (.own 0 4 .clean a))
abbrev VU (F:bT):WT:=WU b1m (TU F)
theorem r0d (fH:bT):KU [(162,Hr fH)] l0t 114 Tryz.f114 b1m (TU (MW fH )):=λ_ _ _=>by kernel_rfl
theorem Zj:aC D 114 (VU qG):=aB Tryz.func114 (tc E3 tn) (r0d fH )
abbrev oD:Type 1:=(O:Type)->U7->(U7->Option O)->Option O
def MX (fH:bT):oD:=λO b k=>
 ca ([]:LV) b.b 8 <|
 bM XS (λc=>
 br (decide (c.1<(nL c.2.1.a))) (
 c0 c.1 <|
 Ep c.2.1.a c.1.toNat λf=>
 c0 c.1 <|
 Ep c.2.1.a c.1.toNat λg=>
 fH _ g.d λe=>
 ca c.2.2.a ([w0 {f with d:=e}]:LV) 64 <|
 some (.inl (QE (wi (c.1+1),c.2.1,{c.2.2 with a:=c.2.2.a++([w0 {f with d:=e}]:LV)})))) (
 some (.inr (0,IX c.2.2)))) (QE (0,b,⟨[],([]:LV)++b.b⟩)) λr5=>
 wx XR r5.2 λh=>
 k h
def dX:oD:=MX fH
def l0u:aH:=λi=>aL i [] [(3,[(.exit 0,xk 38 [(2,.ptr 2 0),(3,.ptr 3 0)] [(2,.agg [.nil,.nil]),(3,.agg [.own 1000000 4 .clean [],.own 1000001 1 .flat []])])])]
def TV (F:oD):GT:=λO s k=>F O (wm s 0) (λa=>k (i0l a))
abbrev DV (F:oD):WT:=WU e1s (TV F)
theorem r0e (fH:bT):KU [(162,Hr fH)] l0u 115 Tryz.f115 e1s (TV (MX fH )):=λ_ _ _=>by kernel_rfl
theorem zv:aC D 115 (DV dX):=aB Tryz.func115 (tc E3 tn) (r0e fH )
abbrev dH:Type 1:=(O:Type)->U8->(U8->Option O)->Option O
def l0c (qF:AX)(qG:bT)(dX:oD):dH:=λO p k=>
 qF _ ⟨p.c,p.d,p.e,p.f,p.g⟩ λh=>
 qG _ p.i λl2=>
 dX _ ⟨p.k,p.l⟩ λj=>
 ca ([]:LV) p.m 96 <|
 ca ([]:LV) p.n 64 <|
 ca ([]:LV) p.o 32 <|
 ca ([]:LV) p.t 32 <|
 ca ([]:LV) p.u 16 <|
 k {p with c:=h.a,d:=h.b,e:=h.c,f:=h.d,g:=h.e,i:=l2,k:=j.a,l:=j.b,m:=([]:LV)++p.m,n:=([]:LV)++p.n,o:=([]:LV)++p.o,t:=([]:LV)++p.t,u:=([]:LV)++p.u}
def a8:dH:=l0c qF qG dX
def j0t (F:dH):GT:=λO s k=>F O (dr s 0) (λa=>k (GU a))
abbrev ng (F:dH):WT:=WU kq (j0t F)
theorem j1c (qF:AX)(qG:bT)(dX:oD):KU [(113,VT qF),(114,VU qG),(115,DV dX)] a_ 79 Tryz.f79 kq (j0t (l0c qF qG dX )):=λ_ _ _=>by kernel_rfl
theorem iC:aC D 79 (ng a8):=aB Tryz.func79 (tc Zi (tc Zj (tc zv tn))) (j1c qF qG dX )
abbrev vB:Type 1:=(O:Type)->LU->Int->(Int->Option O)->Option O
def My:vB:=λO s b k=>
 bM Pq (λa=>
 br (decide (a.2.2<(nS a.1))) (
 idxS a.1 a.2.2 λd=>
 br (d==a.2.1) (
 some (.inr (1,qD (a.1,a.2.2)))) (
 some (.inl (EQ (a.1,a.2.1,wi (a.2.2+1)))))) (
 some (.inr (0,uC a.1)))) (EQ (s,b,0)) λr3=>
 if r3.1=0 then
 wx Pv r3.2 λe=>
 k (nS e)
 else
 wx S6 r3.2 λc=>
 k c.2
def i6:vB:=My
def m0d:aH:=λi=>aL i [] [(2,[(.exit 0,xk 20 [(0,.str [])] []),(.ret,xk 20 [(0,.str []),(4,.int .i64 0)] [])])]
def Tz (F:vB):GT:=λO s k=>F O (lS s 0) (lI s 1) (λa=>k (.int .i64 a))
abbrev O2 (F:vB):WT:=WU TK (Tz F)
theorem s0e:KU [] m0d 158 Tryz.f158 TK (Tz (My )):=λ_ _ _=>by kernel_rfl
theorem Lf:aC D 158 (O2 i6):=aB Tryz.func158 tn (s0e )
abbrev oI:Type 1:=(O:Type)->LV->LU->(LU->Bool->Option O)->Option O
def NY:oI:=λO l name k=>
 bM Bb (λc=>
 br (decide (c.2.2<(nL c.1))) (
 c0 c.2.2 <|
 Qd c.1 c.2.2.toNat λf=>
 br (f.a==c.2.1) (
 c0 c.2.2 <|
 Qd c.1 c.2.2.toNat λe=>
 some (.inr (1,vy (e.b,true)))) (
 some (.inl (pC (c.1,c.2.1,wi (c.2.2+1)))))) (
 some (.inr (0,[])))) (pC (l,name,0)) λr4=>
 if r4.1=0 then
 k [] false
 else
 wx h0s r4.2 λd=>
 k d.1 d.2
def cH:oI:=NY
def m0s:aH:=λi=>aL i [] [(2,[(.exit 0,xk 25 [] []),(.ret,xk 25 [(4,.str []),(5,.bool false)] [])])]
def UU (F:oI):GT:=λO s k=>F O (lL s 0) (lS s 1) (λb a=>k (.tup [.str b,.bool a]))
abbrev Dk (F:oI):WT:=WU e1t (UU F)
theorem t0n:KU [] m0s 204 Tryz.f204 e1t (UU (NY )):=λ_ _ _=>by kernel_rfl
theorem AC:aC D 204 (Dk cH):=aB Tryz.func204 tn (t0n )
abbrev Aj:Type 1:=(O:Type)->LU->(U9->Bool->Option O)->Option O
def Mz (aw:cW)(cP:oH)(eG:cW)(cH:oI):Aj:=λO s k=>
 br (decide ((nS s)>60)) (
 k ⟨0,[],[],[]⟩ false) (
 mq (λ(v:Bool)=>
 br v (
 cc 1 (nS s) (nS s) <|
 aw _ ((s.take ((nS s).toNat)).drop 1) λt=>
 br (!t) (
 k ⟨0,[],[],[]⟩ false) (
 cc 1 (nS s) (nS s) <|
 k ⟨2,(s.take ((nS s).toNat)).drop 1,[],[]⟩ true)) (
 cP _ s 32 λr=>
 ci 0 r <|
 fO r 0 0 λx=>
 bM XU (λa=>
 br (decide (a.2.1<(nL a.1))) (
 ci a.2.1 a.1 <|
 fO a.1 a.2.1.toNat 0 λw=>
 cP _ w 61 λd=>
 fB (ci 0 d <|
 fO d 0 0 λj=>
 cH _ a.2.2.2.2.2.c j λy p=>
 br p (
 some (.inr (1,ER (false,0,[],[],a.2.2.2.2.2)))) (
 ci 0 d <|
 fO d 0 0 λi=>
 ci 1 d <|
 fO d 1 0 λh=>
 ca a.2.2.2.2.2.c ([w2 ⟨i,h⟩]:LV) 32 <|
 some (.inl (QF (a.1,wi (a.2.1+1),a.2.2.1,a.2.2.2.1,a.2.2.2.2.1,{a.2.2.2.2.2 with c:=a.2.2.2.2.2.c++([w2 ⟨i,h⟩]:LV)}))))) λY3=>
 br ((nL d) != 2) (
 some (.inr (1,ER (false,0,[],[],a.2.2.2.2.2)))) (
 ci 0 d <|
 fO d 0 0 λl=>
 aw _ l λm=>
 br (!m) (
 some (.inr (1,ER (false,0,[],[],a.2.2.2.2.2)))) (
 ci 1 d <|
 fO d 1 0 λo=>
 eG _ o λq=>
 br (!q) (
 some (.inr (1,ER (false,0,[],[],a.2.2.2.2.2)))) (
 Y3)))) (
 some (.inr (0,YY (a.2.2.1,a.2.2.2.1,a.2.2.2.2.1,a.2.2.2.2.2))))) (QF (r,1,0,[],[],⟨1,x,[],[]⟩)) λg=>
 if g.1=0 then
 wx o0d g.2 λf=>
 aw _ f.2.2.2.b λn=>
 br (!n) (
 k ⟨0,[],[],[]⟩ false) (
 br (decide ((nL f.2.2.2.c)>4)) (
 k ⟨0,[],[],[]⟩ false) (
 k f.2.2.2 true))
 else
 wx o0e g.2 λe=>
 k ⟨e.2.1,e.2.2.1,[],e.2.2.2.1⟩ e.1)) λj4=>
 br (decide ((nS s)>0)) (
 idxS s 0 λu=>
 j4 (u==47)) (
 j4 false))
def qT:Aj:=Mz aw cP eG cH
def m0e:aH:=λi=>aL i [] [(10,[(.exit 0,xk 100 [(2,.ptr 2 0),(5,.ptr 5 0)] [(2,.agg [.int .i64 0,.str [],.nil,.str []]),(5,.agg [.int .i64 0,.str [],.own 1000000 2 .flat [],.str []])]),(.ret,xk 100 [(2,.ptr 2 0),(3,.bool false),(5,.ptr 5 0)] [(2,.agg [.int .i64 0,.str [],.nil,.str []]),(5,.agg [.int .i64 0,.str [],.own 1000000 2 .flat [],.str []])])])]
def T3 (F:Aj):GT:=λO s k=>F O (lS s 0) (λb a=>k (.tup [k1z b,.bool a]))
abbrev Vc (F:Aj):WT:=WU qE (T3 F)
theorem s0f (aw:cW)(cP:oH)(eG:cW)(cH:oI):KU [(101,gx aw),(203,BR cP),(202,gx eG),(204,Dk cH)] m0e 159 Tryz.f159 qE (T3 (Mz aw cP eG cH )):=λ_ _ _=>by kernel_rfl
theorem Zy:aC D 159 (Vc qT):=aB Tryz.func159 (tc mc (tc AB (tc E9 (tc AC tn)))) (s0f aw cP eG cH )
end
end Go.Am

/-
  Proved: lemmas for Rows.FnFormatsCardSaid.
-/
import Derived.Test.YtmkhgngckgcpeaaGreatDooruUp6
set_option linter.all false
section
set_option maxRecDepth 10000
namespace Go.Am
open Go Go.Proofs
noncomputable section
abbrev vA:Type 1:=(O:Type)->U19->LU->U5->(U19->U21->Bool->Option O)->Option O
def Mw (jX:vJ)(bR:jA)(bL:gr)(dW:oC)(dV:bT)(kv:oc)(kx:dH)(fX:dH)(qe:Ar)(eT:bV)(fY:nY):vA:=λO n M a k=>
 jX _ M a λb1=>
 br (!b1) (
 bR _ n λW=>
 k W ⟨false,[],[],false,[],[],[],[],[],[],false,[],[],[],[],[],0,0,0,0,[],[],false,[],[],0⟩ false) (
 bL _ n a.a a true λN G=>
 dW _ a G λX S=>
 br (!S) (
 k N ⟨false,[],[],false,[],[],[],[],[],[],false,[],[],[],[],[],0,0,0,0,[],[],false,[],[],0⟩ false) (
 dV _ n.a λV=>
 kv _ X G.c λZ=>
 kx _ Z λQ=>
 fX _ Q λJ=>
 bM Kr (λx=>
 br (decide (x.1<200)) (
 qe _ x.2.2.2.2.2.2.2.2.2.2.2.2.2.2.2.2.2.1 λH=>
 br (decide (H<0)) (
 some (.inr (0,EN (x.2.2.1,x.2.2.2.1,x.2.2.2.2.1,x.2.2.2.2.2.1,x.2.2.2.2.2.2.1,x.2.2.2.2.2.2.2.1,x.2.2.2.2.2.2.2.2.1,x.2.2.2.2.2.2.2.2.2.1,x.2.2.2.2.2.2.2.2.2.2.1,x.2.2.2.2.2.2.2.2.2.2.2.1,x.2.2.2.2.2.2.2.2.2.2.2.2.1,x.2.2.2.2.2.2.2.2.2.2.2.2.2.1,x.2.2.2.2.2.2.2.2.2.2.2.2.2.2.1,x.2.2.2.2.2.2.2.2.2.2.2.2.2.2.2.1,x.2.2.2.2.2.2.2.2.2.2.2.2.2.2.2.2.1,x.2.2.2.2.2.2.2.2.2.2.2.2.2.2.2.2.2.1,x.2.2.2.2.2.2.2.2.2.2.2.2.2.2.2.2.2.2.1,x.2.2.2.2.2.2.2.2.2.2.2.2.2.2.2.2.2.2.2.1,x.2.2.2.2.2.2.2.2.2.2.2.2.2.2.2.2.2.2.2.2.1,x.2.2.2.2.2.2.2.2.2.2.2.2.2.2.2.2.2.2.2.2.2.1,x.2.2.2.2.2.2.2.2.2.2.2.2.2.2.2.2.2.2.2.2.2.2.1,x.2.2.2.2.2.2.2.2.2.2.2.2.2.2.2.2.2.2.2.2.2.2.2.1,x.2.2.2.2.2.2.2.2.2.2.2.2.2.2.2.2.2.2.2.2.2.2.2.2.1,x.2.2.2.2.2.2.2.2.2.2.2.2.2.2.2.2.2.2.2.2.2.2.2.2.2.1,x.2.2.2.2.2.2.2.2.2.2.2.2.2.2.2.2.2.2.2.2.2.2.2.2.2.2.1,x.2.2.2.2.2.2.2.2.2.2.2.2.2.2.2.2.2.2.2.2.2.2.2.2.2.2.2.1,x.2.2.2.2.2.2.2.2.2.2.2.2.2.2.2.2.2.2.2.2.2.2.2.2.2.2.2.2.1,x.2.2.2.2.2.2.2.2.2.2.2.2.2.2.2.2.2.2.2.2.2.2.2.2.2.2.2.2.2.1,x.2.2.2.2.2.2.2.2.2.2.2.2.2.2.2.2.2.2.2.2.2.2.2.2.2.2.2.2.2.2.1,x.2.2.2.2.2.2.2.2.2.2.2.2.2.2.2.2.2.2.2.2.2.2.2.2.2.2.2.2.2.2.2.1,x.2.2.2.2.2.2.2.2.2.2.2.2.2.2.2.2.2.2.2.2.2.2.2.2.2.2.2.2.2.2.2.2)))) (
 eT _ x.2.2.2.2.2.2.2.2.2.2.2.2.2.2.2.2.2.1 λI=>
 ci H I <|
 oN I H.toNat 1 λF=>
 bL _ x.2.2.2.2.2.2.2.2.2.2.2.2.2.2.2.2.1 x.2.1.a F true λL z=>
 ca x.2.2.2.2.2.2.2.2.2.2.2.2.2.2.2.2.2.2.2.2.2.2.2.2.2.2.2.2.2.2.1 ([Jv ⟨F.a,F.b,z.a,z.b,z.c,z.d,z.e,z.f⟩]:LV) 96 <|
 fY _ x.2.2.2.2.2.2.2.2.2.2.2.2.2.2.2.2.2.1 F z λK=>
 some (.inl (EO (wi (x.1+1),x.2.1,x.2.2.1,x.2.2.2.1,x.2.2.2.2.1,x.2.2.2.2.2.1,x.2.2.2.2.2.2.1,x.2.2.2.2.2.2.2.1,x.2.2.2.2.2.2.2.2.1,x.2.2.2.2.2.2.2.2.2.1,x.2.2.2.2.2.2.2.2.2.2.1,x.2.2.2.2.2.2.2.2.2.2.2.1,x.2.2.2.2.2.2.2.2.2.2.2.2.1,x.2.2.2.2.2.2.2.2.2.2.2.2.2.1,x.2.2.2.2.2.2.2.2.2.2.2.2.2.2.1,x.2.2.2.2.2.2.2.2.2.2.2.2.2.2.2.1,L,K,x.2.2.2.2.2.2.2.2.2.2.2.2.2.2.2.2.2.2.1,x.2.2.2.2.2.2.2.2.2.2.2.2.2.2.2.2.2.2.2.1,x.2.2.2.2.2.2.2.2.2.2.2.2.2.2.2.2.2.2.2.2.1,x.2.2.2.2.2.2.2.2.2.2.2.2.2.2.2.2.2.2.2.2.2.1,x.2.2.2.2.2.2.2.2.2.2.2.2.2.2.2.2.2.2.2.2.2.2.1,x.2.2.2.2.2.2.2.2.2.2.2.2.2.2.2.2.2.2.2.2.2.2.2.1,x.2.2.2.2.2.2.2.2.2.2.2.2.2.2.2.2.2.2.2.2.2.2.2.2.1,x.2.2.2.2.2.2.2.2.2.2.2.2.2.2.2.2.2.2.2.2.2.2.2.2.2.1,x.2.2.2.2.2.2.2.2.2.2.2.2.2.2.2.2.2.2.2.2.2.2.2.2.2.2.1,x.2.2.2.2.2.2.2.2.2.2.2.2.2.2.2.2.2.2.2.2.2.2.2.2.2.2.2.1,x.2.2.2.2.2.2.2.2.2.2.2.2.2.2.2.2.2.2.2.2.2.2.2.2.2.2.2.2.1,x.2.2.2.2.2.2.2.2.2.2.2.2.2.2.2.2.2.2.2.2.2.2.2.2.2.2.2.2.2.1,x.2.2.2.2.2.2.2.2.2.2.2.2.2.2.2.2.2.2.2.2.2.2.2.2.2.2.2.2.2.2.1++([Jv ⟨F.a,F.b,z.a,z.b,z.c,z.d,z.e,z.f⟩]:LV),x.2.2.2.2.2.2.2.2.2.2.2.2.2.2.2.2.2.2.2.2.2.2.2.2.2.2.2.2.2.2.2.1,x.2.2.2.2.2.2.2.2.2.2.2.2.2.2.2.2.2.2.2.2.2.2.2.2.2.2.2.2.2.2.2.2))))) (
 some (.inr (0,EN (x.2.2.1,x.2.2.2.1,x.2.2.2.2.1,x.2.2.2.2.2.1,x.2.2.2.2.2.2.1,x.2.2.2.2.2.2.2.1,x.2.2.2.2.2.2.2.2.1,x.2.2.2.2.2.2.2.2.2.1,x.2.2.2.2.2.2.2.2.2.2.1,x.2.2.2.2.2.2.2.2.2.2.2.1,x.2.2.2.2.2.2.2.2.2.2.2.2.1,x.2.2.2.2.2.2.2.2.2.2.2.2.2.1,x.2.2.2.2.2.2.2.2.2.2.2.2.2.2.1,x.2.2.2.2.2.2.2.2.2.2.2.2.2.2.2.1,x.2.2.2.2.2.2.2.2.2.2.2.2.2.2.2.2.1,x.2.2.2.2.2.2.2.2.2.2.2.2.2.2.2.2.2.1,x.2.2.2.2.2.2.2.2.2.2.2.2.2.2.2.2.2.2.1,x.2.2.2.2.2.2.2.2.2.2.2.2.2.2.2.2.2.2.2.1,x.2.2.2.2.2.2.2.2.2.2.2.2.2.2.2.2.2.2.2.2.1,x.2.2.2.2.2.2.2.2.2.2.2.2.2.2.2.2.2.2.2.2.2.1,x.2.2.2.2.2.2.2.2.2.2.2.2.2.2.2.2.2.2.2.2.2.2.1,x.2.2.2.2.2.2.2.2.2.2.2.2.2.2.2.2.2.2.2.2.2.2.2.1,x.2.2.2.2.2.2.2.2.2.2.2.2.2.2.2.2.2.2.2.2.2.2.2.2.1,x.2.2.2.2.2.2.2.2.2.2.2.2.2.2.2.2.2.2.2.2.2.2.2.2.2.1,x.2.2.2.2.2.2.2.2.2.2.2.2.2.2.2.2.2.2.2.2.2.2.2.2.2.2.1,x.2.2.2.2.2.2.2.2.2.2.2.2.2.2.2.2.2.2.2.2.2.2.2.2.2.2.2.1,x.2.2.2.2.2.2.2.2.2.2.2.2.2.2.2.2.2.2.2.2.2.2.2.2.2.2.2.2.1,x.2.2.2.2.2.2.2.2.2.2.2.2.2.2.2.2.2.2.2.2.2.2.2.2.2.2.2.2.2.1,x.2.2.2.2.2.2.2.2.2.2.2.2.2.2.2.2.2.2.2.2.2.2.2.2.2.2.2.2.2.2.1,x.2.2.2.2.2.2.2.2.2.2.2.2.2.2.2.2.2.2.2.2.2.2.2.2.2.2.2.2.2.2.2.1,x.2.2.2.2.2.2.2.2.2.2.2.2.2.2.2.2.2.2.2.2.2.2.2.2.2.2.2.2.2.2.2.2))))) (EO (0,a,0,false,[],[],false,[],[],false,0,0,0,0,false,0,N,J,true,[],[],false,[],[],false,0,0,0,0,false,[Jv ⟨a.a,a.b,G.a,G.b,G.c,G.d,G.e,G.f⟩],V,n.d)) λr18=>
 wx XM r18.2 λy=>
 k y.2.2.2.2.2.2.2.2.2.2.2.2.2.2.1 ⟨y.2.2.2.2.2.2.2.2.2.2.2.2.2.2.2.2.1,y.2.2.2.2.2.2.2.2.2.2.2.2.2.2.2.1.a,y.2.2.2.2.2.2.2.2.2.2.2.2.2.2.2.1.b,y.2.2.2.2.2.2.2.2.2.2.2.2.2.2.2.1.c,y.2.2.2.2.2.2.2.2.2.2.2.2.2.2.2.1.d,y.2.2.2.2.2.2.2.2.2.2.2.2.2.2.2.1.e,y.2.2.2.2.2.2.2.2.2.2.2.2.2.2.2.1.f,y.2.2.2.2.2.2.2.2.2.2.2.2.2.2.2.1.g,y.2.2.2.2.2.2.2.2.2.2.2.2.2.2.2.1.h,y.2.2.2.2.2.2.2.2.2.2.2.2.2.2.2.1.i,y.2.2.2.2.2.2.2.2.2.2.2.2.2.2.2.1.j,y.2.2.2.2.2.2.2.2.2.2.2.2.2.2.2.1.k,y.2.2.2.2.2.2.2.2.2.2.2.2.2.2.2.1.l,y.2.2.2.2.2.2.2.2.2.2.2.2.2.2.2.1.m,y.2.2.2.2.2.2.2.2.2.2.2.2.2.2.2.1.n,y.2.2.2.2.2.2.2.2.2.2.2.2.2.2.2.1.o,y.2.2.2.2.2.2.2.2.2.2.2.2.2.2.2.1.p,y.2.2.2.2.2.2.2.2.2.2.2.2.2.2.2.1.q,y.2.2.2.2.2.2.2.2.2.2.2.2.2.2.2.1.r,y.2.2.2.2.2.2.2.2.2.2.2.2.2.2.2.1.s,y.2.2.2.2.2.2.2.2.2.2.2.2.2.2.2.1.t,y.2.2.2.2.2.2.2.2.2.2.2.2.2.2.2.1.u,y.2.2.2.2.2.2.2.2.2.2.2.2.2.2.2.1.v,y.2.2.2.2.2.2.2.2.2.2.2.2.2.2.2.2.2.2.2.2.2.2.2.2.2.2.2.2.1,y.2.2.2.2.2.2.2.2.2.2.2.2.2.2.2.2.2.2.2.2.2.2.2.2.2.2.2.2.2.1,y.2.2.2.2.2.2.2.2.2.2.2.2.2.2.2.2.2.2.2.2.2.2.2.2.2.2.2.2.2.2⟩ true))
def jO:vA:=Mw jX bR bL dW dV kv kx fX qe eT fY
def m0b:aH:=λi=>aL i [] [(10,[(.exit 0,xk 99 [(6,.ptr 6 0),(7,.ptr 7 0),(9,.ptr 9 0),(11,.ptr 11 0),(13,.ptr 13 0)] [(6,.agg [.nil,.nil,.nil,.int .i64 0]),(7,.agg [.bool false,.str [],.str [],.bool false,.nil,.nil,.nil,.str [],.str [],.nil,.bool false,.nil,.nil,.nil,.nil,.nil,.int .i64 0,.int .i64 0,.int .i64 0,.int .i64 0,.nil,.nil,.bool false,.nil,.nil,.int .i64 0]),(9,.agg [.own 1000000 2 .clean [],.own 1000001 10 .flat [],.own 1000002 4 .flat [],.int .i64 0]),(11,.agg [.str [],.str [],.bool false,.own 1000003 1 .flat [],.own 1000004 1 .flat [],.own 1000005 1 .flat [],.str [],.str [],.view 1000006 4 .clean [],.bool false,.own 1000007 4 .clean [],.view 1000008 1 .flat [],.own 1000009 8 .flat [],.own 1000010 5 .flat [],.own 1000011 2 .flat [],.int .i64 0,.int .i64 0,.int .i64 0,.int .i64 0,.own 1000012 2 .flat [],.own 1000013 1 .flat [],.bool false]),(13,.agg [.bool false,.str [],.str [],.bool false,.nil,.nil,.nil,.str [],.str [],.nil,.bool false,.nil,.nil,.nil,.nil,.nil,.int .i64 0,.int .i64 0,.int .i64 0,.int .i64 0,.nil,.nil,.bool false,.own 1000014 8 .flat [],.own 1000015 2 .clean [],.int .i64 0])])])]
def Tq (F:vA):GT:=λO s k=>F O (fy s 0) (lS s 4) (fQ s 5) (λb a c=>k (.tup [Ci b,e1g a,.bool c]))
abbrev Ox (F:vA):WT:=WU g0f (Tq F)
theorem s0c (jX:vJ)(bR:jA)(bL:gr)(dW:oC)(dV:bT)(kv:oc)(kx:dH)(fX:dH)(qe:Ar)(eT:bV)(fY:nY):KU [(192,PB jX),(193,vR bR),(184,tY bL),(110,DU dW),(107,DT dV),(75,PN kv),(78,ng kx),(52,PL fX),(194,Vl qe),(54,KN eT),(55,PM fY)] m0b 147 Tryz.f147 g0f (Tq (Mw jX bR bL dW dV kv kx fX qe eT fY )):=λ_ _ _=>by kernel_rfl
theorem Lc:aC D 147 (Ox jO):=aB Tryz.func147 (tc Lt (tc pX (tc nq (tc zt (tc zq (tc JQ (tc JR (tc B_ (tc Z_ (tc yZ (tc CA tn))))))))))) (s0c jX bR bL dW dV kv kx fX qe eT fY )
abbrev Ac:Type 1:=(O:Type)->U20->U5->(U20->Bool->Option O)->Option O
def Mu (dm:rl)(jV:vH)(fJ:rk)(jX:vJ)(jO:vA):Ac:=λO w a k=>
 dm _ w λG=>
 jV _ ⟨w.e,w.f⟩ λI L=>
 fB (br (!w.ag) (
 jX _ I.a a λM=>
 k G M) (
 jO _ ⟨w.a,w.b,w.c,w.d⟩ I.a a λH F K=>
 k ⟨H.a,H.b,H.c,H.d,G.e,G.f,F.a,F.b,F.c,F.d,F.e,F.f,F.g,F.h,F.i,F.j,F.k,F.l,F.m,F.n,F.o,F.p,F.q,F.r,F.s,F.t,F.u,F.v,F.w,F.x,F.y,F.z,G.ag⟩ K)) λCf=>
 fJ _ w λJ=>
 br (!J) (
 k G false) (
 br (!L) (
 k G false) (
 Cf))
def qQ:Ac:=Mu dm jV fJ jX jO
def Tn (F:Ac):GT:=λO s k=>F O (uU s 0) (fQ s 33) (λb a=>k (.tup [l1c b,.bool a]))
abbrev VZ (F:Ac):WT:=WU g0g (Tn F)
theorem s0a (dm:rl)(jV:vH)(fJ:rk)(jX:vJ)(jO:vA):KU [(187,Hv dm),(189,O_ jV),(186,Hu fJ),(192,PB jX),(147,Ox jO)] a_ 142 Tryz.f142 g0g (Tn (Mu dm jV fJ jX jO )):=λ_ _ _=>by kernel_rfl
theorem Zt:aC D 142 (VZ qQ):=aB Tryz.func142 (tc E8 (tc Lq (tc E7 (tc Lt (tc Lc tn))))) (s0a dm jV fJ jX jO )
abbrev Ae:Type 1:=(O:Type)->U20->U5->LV->LV->(U20->Bool->Option O)->Option O
def Mv (fJ:rk)(dw:oa)(dm:rl)(jW:vI)(jU:fv)(jM:mF):Ae:=λO w a h g k=>
 fB (dm _ w λo=>
 jW _ w a h g λj p n=>
 jU _ ⟨w.e,w.f⟩ λm=>
 jM _ m {p with a:=a.a,b:=a.b} λi=>
 k ⟨j.a,j.b,j.c,j.d,i.a,i.b,false,[],[],false,[],[],[],[],[],[],false,[],[],[],[],[],0,0,0,0,[],[],false,[],[],0,o.ag⟩ n) λyQ=>
 fJ _ w λr=>
 br (!r) (
 dm _ w λt=>
 k t false) (
 dw _ a λs=>
 br (!s) (
 dm _ w λq=>
 k q false) (
 yQ))
def qR:Ae:=Mv fJ dw dm jW jU jM
def To (F:Ae):GT:=λO s k=>F O (uU s 0) (fQ s 33) (lL s 35) (lL s 36) (λb a=>k (.tup [l1d b,.bool a]))
abbrev Va (F:Ae):WT:=WU Jy (To F)
theorem s0b (fJ:rk)(dw:oa)(dm:rl)(jW:vI)(jU:fv)(jM:mF):KU [(186,Hu fJ),(67,Dr dw),(187,Hv dm),(190,PA jW),(185,ro jU),(134,Ov jM)] a_ 144 Tryz.f144 Jy (To (Mv fJ dw dm jW jU jM )):=λ_ _ _=>by kernel_rfl
theorem Zu:aC D 144 (Va qR):=aB Tryz.func144 (tc E7 (tc wZ (tc E8 (tc Lr (tc Lp (tc La tn)))))) (s0b fJ dw dm jW jU jM )
abbrev sQ:Type 1:=(O:Type)->U0->(U20->U0->Option O)->Option O
def DN (cz:eO)(aP:cQ)(qO:Aa)(aD:av)(aY:dc)(fT:bA)(fU:m0)(qP:Ab)(cg:bc)(qQ:Ac)(qR:Ae):sQ:=λO c k=>
 cz _ c λI J=>
 aP _ 3 J λK H=>
 qO _ I.a (!K) λN=>
 aD _ 4 H λS G=>
 bM Ks (λb=>
 br (decide (b.1>0)) (
 aD _ 4 b.2.2.2.2.2.2.2.2.2.2.2.2.2.2.2.2.2.2 λF d=>
 br (F==0) (
 aY _ [.int .i64 (-1),.int .i64 1] d λg u=>
 fT _ u λv x=>
 fU _ 8 x λh j=>
 qP _ b.2.2.2.2.2.2.2.2.2.2.2.2.2.2.2.2.2.1 g v h λq M=>
 some (.inl (vr (wi (b.1-1),b.2.1,b.2.2.1,b.2.2.2.1,b.2.2.2.2.1,b.2.2.2.2.2.1,b.2.2.2.2.2.2.1,b.2.2.2.2.2.2.2.1,b.2.2.2.2.2.2.2.2.1,b.2.2.2.2.2.2.2.2.2.1,b.2.2.2.2.2.2.2.2.2.2.1,b.2.2.2.2.2.2.2.2.2.2.2.1,b.2.2.2.2.2.2.2.2.2.2.2.2.1,b.2.2.2.2.2.2.2.2.2.2.2.2.2.1,b.2.2.2.2.2.2.2.2.2.2.2.2.2.2.1,b.2.2.2.2.2.2.2.2.2.2.2.2.2.2.2.1,b.2.2.2.2.2.2.2.2.2.2.2.2.2.2.2.2.1,q,j)))) (
 br (F==1) (
 cg _ d λt i=>
 qQ _ b.2.2.2.2.2.2.2.2.2.2.2.2.2.2.2.2.2.1 t λr L=>
 some (.inl (vr (wi (b.1-1),b.2.1,b.2.2.1,b.2.2.2.1,b.2.2.2.2.1,b.2.2.2.2.2.1,b.2.2.2.2.2.2.1,b.2.2.2.2.2.2.2.1,b.2.2.2.2.2.2.2.2.1,b.2.2.2.2.2.2.2.2.2.1,b.2.2.2.2.2.2.2.2.2.2.1,b.2.2.2.2.2.2.2.2.2.2.2.1,b.2.2.2.2.2.2.2.2.2.2.2.2.1,b.2.2.2.2.2.2.2.2.2.2.2.2.2.1,b.2.2.2.2.2.2.2.2.2.2.2.2.2.2.1,b.2.2.2.2.2.2.2.2.2.2.2.2.2.2.2.1,b.2.2.2.2.2.2.2.2.2.2.2.2.2.2.2.2.1,r,i)))) (
 cg _ d λz m=>
 fT _ m λy f=>
 fU _ 8 f λs o=>
 qR _ b.2.2.2.2.2.2.2.2.2.2.2.2.2.2.2.2.2.1 z y s λn Q=>
 some (.inl (vr (wi (b.1-1),b.2.1,b.2.2.1,b.2.2.2.1,b.2.2.2.2.1,b.2.2.2.2.2.1,b.2.2.2.2.2.2.1,b.2.2.2.2.2.2.2.1,b.2.2.2.2.2.2.2.2.1,b.2.2.2.2.2.2.2.2.2.1,b.2.2.2.2.2.2.2.2.2.2.1,b.2.2.2.2.2.2.2.2.2.2.2.1,b.2.2.2.2.2.2.2.2.2.2.2.2.1,b.2.2.2.2.2.2.2.2.2.2.2.2.2.1,b.2.2.2.2.2.2.2.2.2.2.2.2.2.2.1,b.2.2.2.2.2.2.2.2.2.2.2.2.2.2.2.1,b.2.2.2.2.2.2.2.2.2.2.2.2.2.2.2.2.1,n,o)))))) (
 some (.inr (0,Yk (b.2.1,b.2.2.1,b.2.2.2.1,b.2.2.2.2.1,b.2.2.2.2.2.1,b.2.2.2.2.2.2.1,b.2.2.2.2.2.2.2.1,b.2.2.2.2.2.2.2.2.1,b.2.2.2.2.2.2.2.2.2.1,b.2.2.2.2.2.2.2.2.2.2.1,b.2.2.2.2.2.2.2.2.2.2.2.1,b.2.2.2.2.2.2.2.2.2.2.2.2.1,b.2.2.2.2.2.2.2.2.2.2.2.2.2.1,b.2.2.2.2.2.2.2.2.2.2.2.2.2.2.1,b.2.2.2.2.2.2.2.2.2.2.2.2.2.2.2.1,b.2.2.2.2.2.2.2.2.2.2.2.2.2.2.2.2.1,b.2.2.2.2.2.2.2.2.2.2.2.2.2.2.2.2.2.1,b.2.2.2.2.2.2.2.2.2.2.2.2.2.2.2.2.2.2))))) (vr (S,0,0,false,[],[],false,[],[],false,0,0,0,0,false,0,false,N,G)) λp=>
 wx o0y p.2 λe=>
 k e.2.2.2.2.2.2.2.2.2.2.2.2.2.2.2.2.1 e.2.2.2.2.2.2.2.2.2.2.2.2.2.2.2.2.2
def lA:sQ:=DN cz aP qO aD aY fT fU qP cg qQ qR
def Wk:aH:=λi=>aL i [] [(3,[(.exit 0,ug 55 56 [(2,.ptr 2 0),(3,.ptr 3 0)] [(2,.agg [.nil,.nil,.nil,.int .i64 0,.nil,.int .i64 0,.bool false,.str [],.str [],.bool false,.nil,.nil,.nil,.str [],.str [],.nil,.bool false,.nil,.nil,.nil,.nil,.nil,.int .i64 0,.int .i64 0,.int .i64 0,.int .i64 0,.nil,.nil,.bool false,.nil,.nil,.int .i64 0,.bool false]),(3,.agg [.own 1000000 2 .clean [],.own 1000001 10 .flat [],.own 1000002 4 .flat [],.int .i64 0,.view 1000003 25 .clean [],.int .i64 0,.bool false,.str [],.str [],.bool false,.own 1000004 1 .flat [],.own 1000005 1 .flat [],.own 1000006 1 .flat [],.str [],.str [],.view 1000007 4 .clean [],.bool false,.own 1000008 4 .clean [],.view 1000009 1 .flat [],.own 1000010 8 .flat [],.own 1000011 5 .flat [],.own 1000012 2 .flat [],.int .i64 0,.int .i64 0,.int .i64 0,.int .i64 0,.own 1000013 2 .flat [],.own 1000014 1 .flat [],.bool false,.own 1000015 8 .flat [],.own 1000016 2 .clean [],.int .i64 0,.bool false]),(55,.agg [.sl 1 true [],.int .i64 0,.int .i64 0])])])]
def KG (F:sQ):GT:=λO s k=>F O (fx s 0) (λb a=>k (.tup [b1h b,ol a]))
abbrev KV (F:sQ):WT:=WU g0h (KG F)
theorem Za (cz:eO)(aP:cQ)(qO:Aa)(aD:av)(aY:dc)(fT:bA)(fU:m0)(qP:Ab)(cg:bc)(qQ:Ac)(qR:Ae):KI [(138,ah (xr cz)),(51,ah (ir aP)),(137,VX qO),(53,ah (cX aD)),(57,ah (mH aY)),(140,ah (DY fT)),(141,ah (DZ fU)),(139,VY qP),(143,ah (xt cg)),(142,VZ qQ),(144,Va qR)] Wk 96 ⟨[.pt],55,1,false⟩ Tryz.f96 g0h (KG (DN cz aP qO aD aY fT fU qP cg qQ qR )):=λ_ _ _=>by kernel_rfl
theorem RD:aC D 96 (ah (KV lA)):=aO Tryz.func96 (tc zx (tc fh (tc Zr (tc ba (tc kA (tc JC (tc JD (tc Zs (tc zy (tc Zt (tc Zu tn))))))))))) (Za cz aP qO aD aY fT fU qP cg qQ qR )
def xa (bm:bA)(aD:av)(aG:be)(ak:bc)(aP:cQ)(bL:gr):eO:=λO c k=>
 bm _ c λl1 q=>
 aD _ 20 q λp i=>
 aD _ 4 i λm o=>
 bM Py (λa=>
 br (decide (a.1>0)) (
 aG _ [.str [104,111,109,101],.str [99,100,110]] a.2.2.2 λr j=>
 ak _ j λf g=>
 aP _ 3 g λe d=>
 bL _ a.2.2.1 r f e λh n=>
 some (.inl (EY (wi (a.1-1),a.2.1,h,d)))) (
 some (.inr (0,uE (a.2.1,a.2.2.1,a.2.2.2))))) (EY (m,0,⟨l1,[],[],p⟩,o)) λr16=>
 wx D7 r16.2 λb=>
 k b.2.1 b.2.2
def gP:eO:=xa bm aD aG ak aP bL
def PU:aH:=λi=>aL i [] [(3,[(.exit 0,ug 31 32 [(2,.ptr 2 0),(3,.ptr 3 0)] [(2,.agg [.nil,.nil,.nil,.int .i64 0]),(3,.agg [.own 1000000 2 .clean [],.own 1000001 10 .flat [],.own 1000002 4 .flat [],.int .i64 0]),(31,.agg [.sl 1 true [],.int .i64 0,.int .i64 0])])])]
abbrev Da (F:eO):WT:=WU g0i (tQ F)
theorem Qo (bm:bA)(aD:av)(aG:be)(ak:bc)(aP:cQ)(bL:gr):KI [(49,ah (vU bm)),(53,ah (cX aD)),(73,ah (fZ aG)),(59,ah (mI ak)),(51,ah (ir aP)),(184,tY bL)] PU 145 ⟨[.pt],31,1,false⟩ Tryz.f145 g0i (tQ (xa bm aD aG ak aP bL )):=λ_ _ _=>by kernel_rfl
theorem JE:aC D 145 (ah (Da gP)):=aO Tryz.func145 (tc uR (tc ba (tc eA (tc kB (tc fh (tc nq tn)))))) (Qo bm aD aG ak aP bL )
abbrev m4:Type 1:=(O:Type)->U0->(LV->Option O)->Option O
def xb (bm:bA)(aD:av)(aG:be)(bj:iq):m4:=λO c k=>
 bm _ c λl1 q=>
 aD _ 12 q λm j=>
 br (m==0) (
 aG _ [.str [104,111,109,101],.str [],.str [109,111,114,101]] j λo s=>
 ca l1 ([oW ⟨o,[]⟩]:LV) 40 <|
 k (l1++([oW ⟨o,[]⟩]:LV))) (
 br (m==1) (
 ci 0 l1 <|
 c1z l1 0 1 λt=>
 aG _ [.str [97,112,112],.str [],.str [122,122,122]] j λn p=>
 bj _ p λg r=>
 sx 7 0 1 l1 λh=>
 ca h ([i0k ⟨n,g.a,g.b,g.c,g.d,g.e,g.f⟩]:LV) 80 <|
 ci 0 (jC 0 1 l1) <|
 bU (jC 0 1 l1) 0 1 [.sl 7 true (h++([i0k ⟨n,g.a,g.b,g.c,g.d,g.e,g.f⟩]:LV))] λi=>
 k i) (
 k l1))
def gQ:m4:=xb bm aD aG bj
def Cs (F:m4):GT:=λO s k=>F O (fx s 0) (λa=>k (.tup [.own 0 2 .clean a,.agg [.undef,.undef,.undef]]))
abbrev Db (F:m4):WT:=WU g0j (Cs F)
theorem Qp (bm:bA)(aD:av)(aG:be)(bj:iq):KI [(49,ah (vU bm)),(53,ah (cX aD)),(73,ah (fZ aG)),(48,ah (vT bj))] a_ 146 ⟨[.pt],35,1,false⟩ Tryz.f146 g0j (Cs (xb bm aD aG bj )):=λ_ _ _=>by kernel_rfl
theorem JF:aC D 146 (ah (Db gQ)):=aO Tryz.func146 (tc uR (tc ba (tc eA (tc uQ tn)))) (Qp bm aD aG bj )
abbrev sR:Type 1:=(O:Type)->U0->(U19->Option O)->Option O
def DO (gP:eO)(aD:av)(gQ:m4)(eY:bA)(aY:dc)(ak:bc):sR:=λO c k=>
 gP _ c λg p=>
 aD _ 14 p λi h=>
 br (i==0) (
 gQ _ h λq=>
 k {g with a:=q}) (
 br (i==1) (
 eY _ h λn r=>
 k {g with b:=n}) (
 br (i==2) (
 aY _ [.int .i64 (-1),.int .i64 999999998000,.int .i64 999999998001] h λo s=>
 k {g with d:=o}) (
 br (i==3) (
 bM D7 (λe=>
 br (decide ((nL e.2.1.c)<400)) (
 ak _ e.2.2 λf m=>
 ca e.2.1.c ([AQ ⟨[104,111,109,101],f.a,f.b,false⟩]:LV) 56 <|
 some (.inl (uE (e.1,{e.2.1 with c:=e.2.1.c++([AQ ⟨[104,111,109,101],f.a,f.b,false⟩]:LV)},m)))) (
 some (.inr (0,uE (e.1,e.2.1,e.2.2))))) (uE (0,g,h)) λr13=>
 wx D7 r13.2 λj=>
 k j.2.1) (
 k g))))
def lC:sR:=DO gP aD gQ eY aY ak
def Wl:aH:=λi=>aL i [] [(10,[(.exit 1,ug 39 40 [(2,.ptr 2 0),(3,.ptr 3 0)] [(2,.agg [.nil,.nil,.nil,.int .i64 0]),(3,.agg [.own 1000000 2 .clean [],.own 1000001 10 .flat [],.own 1000002 4 .flat [],.int .i64 0]),(39,.agg [.sl 1 true [],.int .i64 0,.int .i64 0])])])]
def KH (F:sR):GT:=λO s k=>F O (fx s 0) (λa=>k (.tup [Ci a,.agg [.undef,.undef,.undef]]))
abbrev KW (F:sR):WT:=WU Jz (KH F)
theorem Zb (gP:eO)(aD:av)(gQ:m4)(eY:bA)(aY:dc)(ak:bc):KI [(145,ah (Da gP)),(53,ah (cX aD)),(146,ah (Db gQ)),(60,ah (Dp eY)),(57,ah (mH aY)),(59,ah (mI ak))] Wl 97 ⟨[.pt],39,1,false⟩ Tryz.f97 Jz (KH (DO gP aD gQ eY aY ak )):=λ_ _ _=>by kernel_rfl
theorem RE:aC D 97 (ah (KW lC)):=aO Tryz.func97 (tc JE (tc ba (tc JF (tc FB (tc kA (tc kB tn)))))) (Zb gP aD gQ eY aY ak )
abbrev Af:Type 1:=(O:Type)->U19->Int->(U19->Option O)->Option O
def Mx (bR:jA)(aU:dK)(jY:vK):Af:=λO n a k=>
 bR _ n λb=>
 aU _ a 0 1000 λe=>
 br (!e) (
 k b) (
 jY _ n λf=>
 br (!f) (
 k b) (
 aU _ (wi (n.d+a)) 0 999999998000 λc=>
 br (!c) (
 k b) (
 k {b with d:=wi (n.d+a)})))
def qS:Af:=Mx bR aU jY
def Tt (F:Af):GT:=λO s k=>F O (fy s 0) (lI s 4) (λa=>k (Ci a))
abbrev Vb (F:Af):WT:=WU g0k (Tt F)
theorem s0d (bR:jA)(aU:dK)(jY:vK):KU [(193,vR bR),(65,ko aU),(195,PC jY)] a_ 148 Tryz.f148 g0k (Tt (Mx bR aU jY )):=λ_ _ _=>by kernel_rfl
theorem Zv:aC D 148 (Vb qS):=aB Tryz.func148 (tc pX (tc eI (tc Lu tn))) (s0d bR aU jY )
abbrev sS:Type 1:=(O:Type)->U0->(U19->U21->U0->Option O)->Option O
def DP (cz:eO)(cg:bc)(jO:vA)(aD:av)(qS:Af)(ak:bc)(bj:iq)(mB:xm):sS:=λO c k=>
 cz _ c λq s=>
 cg _ s λr o=>
 jO _ q [104,111,109,101] r λb g t=>
 aD _ 8 o λn e=>
 br (n==0) (
 qS _ b 5 λh=>
 k h g e) (
 br (n==1) (
 ak _ e λi j=>
 bj _ j λf m=>
 mB _ b.a i f λd p=>
 k {b with a:=d} g m) (
 k b g e))
def lD:sS:=DP cz cg jO aD qS ak bj mB
def KJ (F:sS):GT:=λO s k=>F O (fx s 0) (λb a c=>k (.tup [Ci b,e1g a,ol c]))
abbrev KX (F:sS):WT:=WU Jz (KJ F)
theorem Zc (cz:eO)(cg:bc)(jO:vA)(aD:av)(qS:Af)(ak:bc)(bj:iq)(mB:xm):KI [(138,ah (xr cz)),(143,ah (xt cg)),(147,Ox jO),(53,ah (cX aD)),(148,Vb qS),(59,ah (mI ak)),(48,ah (vT bj)),(74,h0m mB)] a_ 98 ⟨[.pt],39,1,false⟩ Tryz.f98 Jz (KJ (DP cz cg jO aD qS ak bj mB )):=λ_ _ _=>by kernel_rfl
theorem RF:aC D 98 (ah (KX lD)):=aO Tryz.func98 (tc zx (tc zy (tc Lc (tc ba (tc Zv (tc kB (tc uQ (tc Q7 tn)))))))) (Zc cz cg jO aD qS ak bj mB )
abbrev sN:Type 1:=(O:Type)->U0->(U20->Option O)->Option O
def DD (lA:sQ)(aD:av)(lC:sR)(eZ:gv)(lD:sS):sN:=λO c k=>
 lA _ c λG M=>
 aD _ 20 M λJ I=>
 br (J==0) (
 lC _ I λH=>
 k {G with a:=H.a,b:=H.b,c:=H.c,d:=H.d}) (
 br (J==1) (
 eZ _ I λK N=>
 k {G with e:=K.a,f:=K.b}) (
 br (J==2) (
 lD _ I λQ F L=>
 k ⟨G.a,G.b,G.c,G.d,G.e,G.f,F.a,F.b,F.c,F.d,F.e,F.f,F.g,F.h,F.i,F.j,F.k,F.l,F.m,F.n,F.o,F.p,F.q,F.r,F.s,F.t,F.u,F.v,F.w,F.x,F.y,F.z,G.ag⟩) (
 k G)))
def kt:sN:=DD lA aD lC eZ lD
def KB (F:sN):GT:=λO s k=>F O (fx s 0) (λa=>k (.tup [b1h a,.agg [.undef,.undef,.undef]]))
abbrev KO (F:sN):WT:=WU g0l (KB F)
theorem ZQ (lA:sQ)(aD:av)(lC:sR)(eZ:gv)(lD:sS):KI [(96,ah (KV lA)),(53,ah (cX aD)),(97,ah (KW lC)),(61,ah (Dq eZ)),(98,ah (KX lD))] a_ 62 ⟨[.pt],27,1,false⟩ Tryz.f62 g0l (KB (DD lA aD lC eZ lD )):=λ_ _ _=>by kernel_rfl
theorem Q6:aC D 62 (ah (KO kt)):=aO Tryz.func62 (tc RD (tc ba (tc RE (tc FC (tc RF tn))))) (ZQ lA aD lC eZ lD )
abbrev G6:Type 1:=(O:Type)->LV->(U20->Option O)->Option O
def k0m (au:eK)(kt:sN):G6:=λO a k=>
 au _ a λc=>
 kt _ c λb=>
 k b
def HP:G6:=k0m au kt
def j0m (F:G6):GT:=λO s k=>F O (lL s 0) (λa=>k (b1h a))
abbrev h0j (F:G6):WT:=WU z0 (j0m F)
theorem i1e (au:eK)(kt:sN):KU [(28,ah (nZ au)),(62,ah (KO kt))] a_ 33 Tryz.f33 z0 (j0m (k0m au kt )):=λ_ _ _=>by kernel_rfl
theorem w0w:aC D 33 (h0j HP):=aB Tryz.func33 (tc lr (tc Q6 tn)) (i1e au kt )
def j0x (HP:G6):G6:=λO a k=>
 HP _ a λb=>
 k b
def GZ:G6:=j0x HP
theorem Y7 (HP:G6):KU [(33,h0j HP)] a_ 11 Tryz.f11 z0 (j0m (j0x HP )):=λ_ _ _=>by kernel_rfl
theorem w0e:aC D 11 (h0j GZ):=aB Tryz.func11 (tc w0w tn) (Y7 HP )
def g0x:dK:=λO n b a k=>
 br (decide (b<=n)) (
 k (decide (n<=a))) (
 k false)
def ul:dK:=g0x
theorem i1w:KU [] a_ 63 Tryz.f63 b1l (j0q (g0x )):=λ_ _ _=>by kernel_rfl
theorem c0k:aC D 63 (ko ul):=aB Tryz.func63 tn (i1w )
def g0v (ul:dK):iT:=λO a k=>
 ul _ a 1 5 λb=>
 br (!b) (
 k []) (
 ci (wi (a-1)) ([.str [112,97,103,101],.str [115,99,114,105,112,116],.str [115,116,121,108,101],.str [105,109,97,103,101],.str [109,111,100,117,108,101]]:LV) <|
 fO ([.str [112,97,103,101],.str [115,99,114,105,112,116],.str [115,116,121,108,101],.str [105,109,97,103,101],.str [109,111,100,117,108,101]]:LV) ((wi (a-1)).toNat) 0 λc=>
 k c)
def AT:iT:=g0v ul
theorem i1f (ul:dK):KU [(63,ko ul)] a_ 34 Tryz.f34 Su (VN (g0v ul )):=λ_ _ _=>by kernel_rfl
theorem w0x:aC D 34 (ta AT):=aB Tryz.func34 (tc c0k tn) (i1f ul )
def J1:iT:=λO a k=>wK O a k
theorem x0e:aC D 64 (ta J1):=mQ (λ_ _ _=>by kernel_rfl) (JT (λ_=>rfl))
def c1f (J1:iT):iT:=λO n k=>
 J1 _ n λa=>
 k a
def jE:iT:=c1f J1
theorem i1g (J1:iT):KU [(64,ta J1)] a_ 35 Tryz.f35 Su (VN (c1f J1 )):=λ_ _ _=>by kernel_rfl
theorem JO:aC D 35 (ta jE):=aB Tryz.func35 (tc x0e tn) (i1g J1 )
abbrev Gu:Type 1:=(O:Type)->U2->(LU->Option O)->Option O
def g0q (AT:iT)(jE:iT):Gu:=λO x k=>
 AT _ x.b λg=>
 mq (λ(d:LU)=>
 jE _ x.a λt3=>
 cs t3 ([32]:LU) <|
 cs (t3++[32]) d <|
 cs ((t3++[32])++d) ([32]:LU) <|
 jE _ (nS x.c) λf=>
 cs (((t3++[32])++d)++[32]) f <|
 br x.e (
 cs ((((t3++[32])++d)++[32])++f) ([32,115,104,97,114,101,115]:LU) <|
 k (((((t3++[32])++d)++[32])++f)++[32,115,104,97,114,101,115])) (
 k ((((t3++[32])++d)++[32])++f))) λj6=>
 br (g==[]) (
 j6 [45]) (
 j6 g)
def CZ:Gu:=g0q AT jE
def i0z (F:Gu):GT:=λO s k=>F O (sE s 0) (λa=>k (.str a))
abbrev g0z (F:Gu):WT:=WU Ss (i0z F)
theorem h1j (AT:iT)(jE:iT):KU [(34,ta AT),(35,ta jE)] a_ 12 Tryz.f12 Ss (i0z (g0q AT jE )):=λ_ _ _=>by kernel_rfl
theorem w0f:aC D 12 (g0z CZ):=aB Tryz.func12 (tc w0x (tc JO tn)) (h1j AT jE )
def k0n (aU:dK):iT:=λO a k=>
 aU _ a 1 5 λb=>
 br (!b) (
 k []) (
 ci a ([.str [],.str [112,97,103,101],.str [115,99,114,105,112,116],.str [115,116,121,108,101],.str [105,109,97,103,101],.str [109,111,100,117,108,101]]:LV) <|
 fO ([.str [],.str [112,97,103,101],.str [115,99,114,105,112,116],.str [115,116,121,108,101],.str [105,109,97,103,101],.str [109,111,100,117,108,101]]:LV) a.toNat 0 λc=>
 k c)
def Gj:iT:=k0n aU
theorem i1h (aU:dK):KU [(65,ko aU)] a_ 36 Tryz.f36 Su (VN (k0n aU )):=λ_ _ _=>by kernel_rfl
theorem w0y:aC D 36 (ta Gj):=aB Tryz.func36 (tc eI tn) (i1h aU )
def j0y (Gj:iT)(dp:iT):Gu:=λO x k=>
 Gj _ x.b λg=>
 mq (λ(d:LU)=>
 dp _ x.a λt3=>
 cs t3 ([32]:LU) <|
 cs (t3++[32]) d <|
 cs ((t3++[32])++d) ([32]:LU) <|
 dp _ (nS x.c) λf=>
 cs (((t3++[32])++d)++[32]) f <|
 br x.e (
 cs ((((t3++[32])++d)++[32])++f) ([32,115,104,97,114,101,115]:LU) <|
 k (((((t3++[32])++d)++[32])++f)++[32,115,104,97,114,101,115])) (
 k ((((t3++[32])++d)++[32])++f))) λj5=>
 br (g==[]) (
 j5 [45]) (
 j5 g)
def Ga:Gu:=j0y Gj dp
theorem h1k (Gj:iT)(dp:iT):KU [(36,ta Gj),(37,ta dp)] a_ 13 Tryz.f13 Ss (i0z (j0y Gj dp )):=λ_ _ _=>by kernel_rfl
theorem w0g:aC D 13 (g0z Ga):=aB Tryz.func13 (tc w0y (tc yY tn)) (h1k Gj dp )
def VP (ul:dK):cW:=λO s k=>
 bM S6 (λa=>
 br (decide (a.2<(nS a.1))) (
 idxS a.1 a.2 λd=>
 br (decide (d<97)) (
 some (.inr (1,vy (a.1,false)))) (
 idxS a.1 a.2 λe=>
 br (decide (e>122)) (
 some (.inr (1,vy (a.1,false)))) (
 some (.inl (qD (a.1,wi (a.2+1))))))) (
 some (.inr (0,uC a.1)))) (qD (s,0)) λr5=>
 if r5.1=0 then
 wx Pv r5.2 λc=>
 ul _ (nS c) 1 8 λf=>
 k f
 else
 wx h0s r5.2 λb=>
 k b.2
def tL:cW:=VP ul
theorem q0x (ul:dK):KU [(63,ko ul)] WX 100 Tryz.f100 qE (Cl (VP ul )):=λ_ _ _=>by kernel_rfl
theorem Zg:aC D 100 (gx tL):=aB Tryz.func100 (tc c0k tn) (q0x ul )
def c1i (tL:cW):oa:=λO a k=>
 tL _ a.a λd=>
 br d (
 tL _ a.b λc=>
 k c) (
 k false)
def J2:oa:=c1i tL
theorem i1x (tL:cW):KU [(100,gx tL)] a_ 66 Tryz.f66 TL (j0r (c1i tL )):=λ_ _ _=>by kernel_rfl
theorem x0f:aC D 66 (Dr J2):=aB Tryz.func66 (tc Zg tn) (i1x tL )
def c1g (J2:oa):sM:=λO a k=>
 J2 _ a λc=>
 br (!c) (
 k []) (
 cs a.a ([47]:LU) <|
 cs (a.a++[47]) a.b <|
 k ((a.a++[47])++a.b))
def ov:sM:=c1g J2
theorem i1j (J2:oa):KU [(66,Dr J2)] a_ 38 Tryz.f38 TL (j0n (c1g J2 )):=λ_ _ _=>by kernel_rfl
theorem Q3:aC D 38 (H3 ov):=aB Tryz.func38 (tc x0f tn) (i1j J2 )
def c1h:dq:=λO p k=>
 k p.v
def HQ:dq:=c1h
theorem i1k:KU [] a_ 39 Tryz.f39 kq (AV (c1h )):=λ_ _ _=>by kernel_rfl
theorem w0z:aC D 39 (mG HQ):=aB Tryz.func39 tn (i1k )
abbrev Gv:Type 1:=(O:Type)->U8->(LU->Option O)->Option O
def g0r (ov:sM)(jE:iT)(HQ:dq):Gv:=λO p k=>
 ov _ ⟨p.a,p.b⟩ λc=>
 cs c ([32]:LU) <|
 jE _ (nL p.k) λd=>
 cs (c++[32]) d <|
 cs ((c++[32])++d) ([47]:LU) <|
 jE _ (nL p.m) λt3=>
 cs (((c++[32])++d)++[47]) t3 <|
 cs ((((c++[32])++d)++[47])++t3) ([47]:LU) <|
 jE _ (nL p.n) λe=>
 cs (((((c++[32])++d)++[47])++t3)++[47]) e <|
 HQ _ p λf=>
 br f (
 cs ((((((c++[32])++d)++[47])++t3)++[47])++e) ([32,108,111,97,100,101,100]:LU) <|
 k (((((((c++[32])++d)++[47])++t3)++[47])++e)++[32,108,111,97,100,101,100])) (
 k ((((((c++[32])++d)++[47])++t3)++[47])++e))
def Ca:Gv:=g0r ov jE HQ
def j0a (F:Gv):GT:=λO s k=>F O (dr s 0) (λa=>k (.str a))
abbrev h0a (F:Gv):WT:=WU kq (j0a F)
theorem h1l (ov:sM)(jE:iT)(HQ:dq):KU [(38,H3 ov),(35,ta jE),(39,mG HQ)] a_ 14 Tryz.f14 kq (j0a (g0r ov jE HQ )):=λ_ _ _=>by kernel_rfl
theorem w0h:aC D 14 (h0a Ca):=aB Tryz.func14 (tc Q3 (tc JO (tc w0z tn))) (h1l ov jE HQ )
def j0z (jg:sM)(dp:iT)(nW:dq):Gv:=λO p k=>
 jg _ ⟨p.a,p.b⟩ λc=>
 cs c ([32]:LU) <|
 dp _ (nL p.k) λd=>
 cs (c++[32]) d <|
 cs ((c++[32])++d) ([47]:LU) <|
 dp _ (nL p.m) λt3=>
 cs (((c++[32])++d)++[47]) t3 <|
 cs ((((c++[32])++d)++[47])++t3) ([47]:LU) <|
 dp _ (nL p.n) λe=>
 cs (((((c++[32])++d)++[47])++t3)++[47]) e <|
 nW _ p λf=>
 br f (
 cs ((((((c++[32])++d)++[47])++t3)++[47])++e) ([32,108,111,97,100,101,100]:LU) <|
 k (((((((c++[32])++d)++[47])++t3)++[47])++e)++[32,108,111,97,100,101,100])) (
 k ((((((c++[32])++d)++[47])++t3)++[47])++e))
def Gb:Gv:=j0z jg dp nW
theorem h1m (jg:sM)(dp:iT)(nW:dq):KU [(40,H3 jg),(37,ta dp),(41,mG nW)] a_ 15 Tryz.f15 kq (j0a (j0z jg dp nW )):=λ_ _ _=>by kernel_rfl
theorem w0i:aC D 15 (h0a Gb):=aB Tryz.func15 (tc JP (tc yY (tc Q4 tn))) (h1m jg dp nW )
abbrev BM:Type 1:=(O:Type)->LV->LU->(LU->Option O)->Option O
def xL:BM:=λO a b k=>wN O a b k
def b1x (F:BM):GT:=λO s k=>F O (lL s 0) (lS s 1) (λa=>k (.str a))
abbrev S3 (F:BM):WT:=WU i0r (b1x F)
theorem c0h:aC D 42 (S3 xL):=mQ (λ_ _ _=>by kernel_rfl) (JU (λ_=>rfl))
abbrev Gw:Type 1:=(O:Type)->LV->(LU->Option O)->Option O
def g0s (xL:BM):Gw:=λO l k=>
 br ((nL l)==0) (
 k [45]) (
 xL _ l [59,32] λa=>
 k a)
def xQ:Gw:=g0s xL
def j0b (F:Gw):GT:=λO s k=>F O (lL s 0) (λa=>k (.str a))
abbrev h0b (F:Gw):WT:=WU z0 (j0b F)
theorem h1n (xL:BM):KU [(42,S3 xL)] a_ 16 Tryz.f16 z0 (j0b (g0s xL )):=λ_ _ _=>by kernel_rfl
theorem w0j:aC D 16 (h0b xQ):=aB Tryz.func16 (tc c0h tn) (h1n xL )
def k0p:BM:=λO l b k=>
 br ((nL l)==0) (
 k [45]) (
 B1 l 0 λd=>
 bM Kt (λa=>
 br (decide (a.2.2.2<(nL a.1))) (
 cs a.2.2.1 a.2.1 <|
 c0 a.2.2.2 <|
 B1 a.1 a.2.2.2.toNat λt3=>
 cs (a.2.2.1++a.2.1) t3 <|
 some (.inl (EP (a.1,a.2.1,(a.2.2.1++a.2.1)++t3,wi (a.2.2.2+1))))) (
 some (.inr (0,uC a.2.2.1)))) (EP (l,b,d,1)) λr4=>
 wx Pv r4.2 λc=>
 k c)
def uk:BM:=k0p
def g1j:aH:=λi=>aL i [] [(5,[(.exit 0,xk 28 [(5,.str [])] [])])]
theorem i1n:KU [] g1j 43 Tryz.f43 i0r (b1x (k0p )):=λ_ _ _=>by kernel_rfl
theorem c0i:aC D 43 (S3 uk):=aB Tryz.func43 tn (i1n )
def k0a (uk:BM):Gw:=λO l k=>
 uk _ l [59,32] λa=>
 k a
def Gc:Gw:=k0a uk
theorem h1o (uk:BM):KU [(43,S3 uk)] a_ 17 Tryz.f17 z0 (j0b (k0a uk )):=λ_ _ _=>by kernel_rfl
theorem w0k:aC D 17 (h0b Gc):=aB Tryz.func17 (tc c0i tn) (h1o uk )
abbrev Gx:Type 1:=(O:Type)->U15->(LU->Option O)->Option O
def g0t (ov:sM):Gx:=λO s k=>
 cs s.a ([62]:LU) <|
 ov _ ⟨s.b,s.c⟩ λe=>
 cs (s.a++[62]) e <|
 br s.d (
 cs ((s.a++[62])++e) ([32,63]:LU) <|
 k (((s.a++[62])++e)++[32,63])) (
 k ((s.a++[62])++e))
def Cb:Gx:=g0t ov
def j0c (F:Gx):GT:=λO s k=>F O (x0q s 0) (λa=>k (.str a))
abbrev h0c (F:Gx):WT:=WU So (j0c F)
theorem h1p (ov:sM):KU [(38,H3 ov)] a_ 18 Tryz.f18 So (j0c (g0t ov )):=λ_ _ _=>by kernel_rfl
theorem w0l:aC D 18 (h0c Cb):=aB Tryz.func18 (tc Q3 tn) (h1p ov )
def k0b (jg:sM):Gx:=λO s k=>
 cs s.a ([62]:LU) <|
 jg _ ⟨s.b,s.c⟩ λe=>
 cs (s.a++[62]) e <|
 br s.d (
 cs ((s.a++[62])++e) ([32,63]:LU) <|
 k (((s.a++[62])++e)++[32,63])) (
 k ((s.a++[62])++e))
def Gd:Gx:=k0b jg
theorem h1q (jg:sM):KU [(40,H3 jg)] a_ 19 Tryz.f19 So (j0c (k0b jg )):=λ_ _ _=>by kernel_rfl
theorem w0m:aC D 19 (h0c Gd):=aB Tryz.func19 (tc JP tn) (h1q jg )
abbrev G7:Type 1:=(O:Type)->LV->Int->(Int->Option O)->Option O
def k0q:G7:=λO l1 now k=>
 bM Ku (λa=>
 br (decide (a.2.2.2.2<a.2.2.2.1)) (
 c0 a.2.2.2.2 <|
 oO a.2.2.1 a.2.2.2.2.toNat λc=>
 br (decide (c.j >= a.1)) (
 some (.inl (zQ (a.1,wi (a.2.1+1),a.2.2.1,a.2.2.2.1,wi (a.2.2.2.2+1))))) (
 some (.inl (zQ (a.1,a.2.1,a.2.2.1,a.2.2.2.1,wi (a.2.2.2.2+1)))))) (
 some (.inr (0,cY a.2.1)))) (zQ (now,0,l1,(nL l1),0)) λr6=>
 wx iX r6.2 λb=>
 k b
def Gk:G7:=k0q
def g1k:aH:=λi=>aL i [] [(3,[(.exit 0,xk 23 [(5,.int .i64 0)] [])])]
def j0o (F:G7):GT:=λO s k=>F O (lL s 0) (lI s 1) (λa=>k (.int .i64 a))
abbrev h0k (F:G7):WT:=WU CX (j0o F)
theorem i1o:KU [] g1k 44 Tryz.f44 CX (j0o (k0q )):=λ_ _ _=>by kernel_rfl
theorem x0a:aC D 44 (h0k Gk):=aB Tryz.func44 tn (i1o )
abbrev zG:Type 1:=(O:Type)->LV->Int->(LU->Option O)->Option O
def g0u (Gk:G7)(jE:iT):zG:=λO l1 now k=>
 Gk _ l1 now λb=>
 jE _ b λt3=>
 cs t3 ([47]:LU) <|
 jE _ (nL l1) λa=>
 cs (t3++[47]) a <|
 k ((t3++[47])++a)
def sJ:zG:=g0u Gk jE
def j0d (F:zG):GT:=λO s k=>F O (lL s 0) (lI s 1) (λa=>k (.str a))
abbrev S0 (F:zG):WT:=WU CX (j0d F)
theorem h1r (Gk:G7)(jE:iT):KU [(44,h0k Gk),(35,ta jE)] a_ 20 Tryz.f20 CX (j0d (g0u Gk jE )):=λ_ _ _=>by kernel_rfl
theorem a0a:aC D 20 (S0 sJ):=aB Tryz.func20 (tc x0a (tc JO tn)) (h1r Gk jE )
def k0r:G7:=λO l1 now k=>
 bM Kv (λa=>
 br (decide (a.2.2.1<(nL a.2.2.2))) (
 c0 a.2.2.1 <|
 oO a.2.2.2 a.2.2.1.toNat λc=>
 br (decide (c.j >= a.1)) (
 some (.inl (zR (a.1,wi (a.2.1+1),wi (a.2.2.1+1),a.2.2.2)))) (
 some (.inl (zR (a.1,a.2.1,wi (a.2.2.1+1),a.2.2.2))))) (
 some (.inr (0,cY a.2.1)))) (zR (now,0,0,l1)) λr6=>
 wx iX r6.2 λb=>
 k b
def Gl:G7:=k0r
theorem i1p:KU [] WZ 45 Tryz.f45 CX (j0o (k0r )):=λ_ _ _=>by kernel_rfl
theorem x0b:aC D 45 (h0k Gl):=aB Tryz.func45 tn (i1p )
def k0c (Gl:G7)(dp:iT):zG:=λO l1 now k=>
 Gl _ l1 now λb=>
 dp _ b λt3=>
 cs t3 ([47]:LU) <|
 dp _ (nL l1) λa=>
 cs (t3++[47]) a <|
 k ((t3++[47])++a)
def tM:zG:=k0c Gl dp
theorem h1t (Gl:G7)(dp:iT):KU [(45,h0k Gl),(37,ta dp)] a_ 21 Tryz.f21 CX (j0d (k0c Gl dp )):=λ_ _ _=>by kernel_rfl
theorem a0g:aC D 21 (S0 tM):=aB Tryz.func21 (tc x0b (tc yY tn)) (h1t Gl dp )
abbrev Gy:Type 1:=(O:Type)->U17->(LU->Option O)->Option O
def k0d (ov:sM)(xL:BM):Gy:=λO t k=>
 br ((nL t.a)==0) (
 k [45]) (
 bM Kw (λc=>
 br (decide (c.2.2.2.1<c.2.2.1)) (
 c0 c.2.2.2.1 <|
 jw c.2.1 c.2.2.2.1.toNat λg=>
 ov _ ⟨g.a,g.b⟩ λt3=>
 mq (λ(d:LU)=>
 br g.y (
 cs d ([43]:LU) <|
 ca c.1 ([.str (d++[43])]:LV) 16 <|
 some (.inl (zT (c.1++([.str (d++[43])]:LV),c.2.1,c.2.2.1,wi (c.2.2.2.1+1),c.2.2.2.2)))) (
 ca c.1 ([.str d]:LV) 16 <|
 some (.inl (zT (c.1++([.str d]:LV),c.2.1,c.2.2.1,wi (c.2.2.2.1+1),c.2.2.2.2))))) λj6=>
 br (c.2.2.2.1==c.2.2.2.2.b) (
 cs ([42]:LU) t3 <|
 j6 ([42]++t3)) (
 j6 t3)) (
 some (.inr (0,fo c.1)))) (zT ([],t.a,(nL t.a),0,t)) λr9=>
 wx ru r9.2 λe=>
 xL _ e [32] λf=>
 k f)
def Ge:Gy:=k0d ov xL
def g1g:aH:=λi=>aL i [] [(5,[(.exit 0,xk 40 [(3,.own 1000000 1 .flat [])] [])])]
def j0e (F:Gy):GT:=λO s k=>F O (iH s 0) (λa=>k (.str a))
abbrev h0d (F:Gy):WT:=WU xO (j0e F)
theorem h1u (ov:sM)(xL:BM):KU [(38,H3 ov),(42,S3 xL)] g1g 22 Tryz.f22 xO (j0e (k0d ov xL )):=λ_ _ _=>by kernel_rfl
theorem w0n:aC D 22 (h0d Ge):=aB Tryz.func22 (tc Q3 (tc c0h tn)) (h1u ov xL )
def k0e (jg:sM)(uk:BM):Gy:=λO t k=>
 bM Kx (λc=>
 br (decide (c.2.1<(nL c.2.2.a))) (
 c0 c.2.1 <|
 jw c.2.2.a c.2.1.toNat λg=>
 jg _ ⟨g.a,g.b⟩ λt3=>
 mq (λ(d:LU)=>
 c0 c.2.1 <|
 jw c.2.2.a c.2.1.toNat λh=>
 br h.y (
 cs d ([43]:LU) <|
 ca c.1 ([.str (d++[43])]:LV) 16 <|
 some (.inl (zU (c.1++([.str (d++[43])]:LV),wi (c.2.1+1),c.2.2)))) (
 ca c.1 ([.str d]:LV) 16 <|
 some (.inl (zU (c.1++([.str d]:LV),wi (c.2.1+1),c.2.2))))) λj7=>
 br (c.2.1==c.2.2.b) (
 cs ([42]:LU) t3 <|
 j7 ([42]++t3)) (
 j7 t3)) (
 some (.inr (0,fo c.1)))) (zU ([],0,t)) λr10=>
 wx ru r10.2 λf=>
 uk _ f [32] λe=>
 k e
def Gf:Gy:=k0e jg uk
def g1h:aH:=λi=>aL i [] [(3,[(.exit 0,xk 41 [(3,.own 1000000 1 .flat [])] [])])]
theorem h1v (jg:sM)(uk:BM):KU [(40,H3 jg),(43,S3 uk)] g1h 23 Tryz.f23 xO (j0e (k0e jg uk )):=λ_ _ _=>by kernel_rfl
theorem w0o:aC D 23 (h0d Gf):=aB Tryz.func23 (tc JP (tc c0i tn)) (h1v jg uk )
def k0z:eP:=λO l k=>
 bM Ky (λa=>
 br (decide (a.2.2.2<a.2.2.1)) (
 c0 a.2.2.2 <|
 Eo a.2.1 a.2.2.2.toNat λc=>
 br c.d (
 some (.inl (zV (wi (a.1+1),a.2.1,a.2.2.1,wi (a.2.2.2+1))))) (
 some (.inl (zV (a.1,a.2.1,a.2.2.1,wi (a.2.2.2+1)))))) (
 some (.inr (0,cY a.1)))) (zV (0,l,(nL l),0)) λr5=>
 wx iX r5.2 λb=>
 k b
def HR:eP:=k0z
def g1n:aH:=λi=>aL i [] [(3,[(.exit 0,xk 18 [(3,.int .i64 0)] [])])]
abbrev c1n (F:eP):WT:=WU Sp (tS F)
theorem i1z:KU [] g1n 71 Tryz.f71 Sp (tS (k0z )):=λ_ _ _=>by kernel_rfl
theorem x0g:aC D 71 (c1n HR):=aB Tryz.func71 tn (i1z )
abbrev G8:Type 1:=(O:Type)->U19->(Int->Option O)->Option O
def k0s (HR:eP):G8:=λO n k=>
 HR _ n.c λa=>
 k a
def Cj:G8:=k0s HR
def j0p (F:G8):GT:=λO s k=>F O (fy s 0) (λa=>k (.int .i64 a))
abbrev h0l (F:G8):WT:=WU Sw (j0p F)
theorem i1q (HR:eP):KU [(71,c1n HR)] a_ 46 Tryz.f46 Sw (j0p (k0s HR )):=λ_ _ _=>by kernel_rfl
theorem x0c:aC D 46 (h0l Cj):=aB Tryz.func46 (tc x0g tn) (i1q HR )
abbrev Gz:Type 1:=(O:Type)->U20->(LU->Option O)->Option O
def k0f (jE:iT)(sJ:zG)(Cj:G8):Gz:=λO w k=>
 mq (λ(i:LU)=>
 jE _ w.d λe=>
 cs e ([32]:LU) <|
 sJ _ w.b w.d λt3=>
 cs (e++[32]) t3 <|
 cs ((e++[32])++t3) ([32]:LU) <|
 jE _ (nL w.c) λf=>
 cs (((e++[32])++t3)++[32]) f <|
 cs ((((e++[32])++t3)++[32])++f) ([32]:LU) <|
 Cj _ ⟨w.a,w.b,w.c,w.d⟩ λj=>
 jE _ j λh=>
 cs (((((e++[32])++t3)++[32])++f)++[32]) h <|
 cs ((((((e++[32])++t3)++[32])++f)++[32])++h) ([32]:LU) <|
 cs (((((((e++[32])++t3)++[32])++f)++[32])++h)++[32]) i <|
 br w.g (
 cs ((((((((e++[32])++t3)++[32])++f)++[32])++h)++[32])++i) ([32,114,101,97,100,121]:LU) <|
 k (((((((((e++[32])++t3)++[32])++f)++[32])++h)++[32])++i)++[32,114,101,97,100,121])) (
 k ((((((((e++[32])++t3)++[32])++f)++[32])++h)++[32])++i))) λj8=>
 br w.ag (
 j8 [102,97,115,116]) (
 j8 [115,108,111,119])
def Gg:Gz:=k0f jE sJ Cj
def j0g (F:Gz):GT:=λO s k=>F O (uU s 0) (λa=>k (.str a))
abbrev h0e (F:Gz):WT:=WU Sx (j0g F)
theorem h1w (jE:iT)(sJ:zG)(Cj:G8):KU [(35,ta jE),(20,S0 sJ),(46,h0l Cj)] a_ 24 Tryz.f24 Sx (j0g (k0f jE sJ Cj )):=λ_ _ _=>by kernel_rfl
theorem w0p:aC D 24 (h0e Gg):=aB Tryz.func24 (tc JO (tc a0a (tc x0c tn))) (h1w jE sJ Cj )
def k0t:G8:=λO n k=>
 bM Kz (λa=>
 br (decide (a.2.1<(nL a.2.2.c))) (
 c0 a.2.1 <|
 Eo a.2.2.c a.2.1.toNat λe=>
 br e.d (
 some (.inl (zW (wi (a.1+1),wi (a.2.1+1),a.2.2)))) (
 some (.inl (zW (a.1,wi (a.2.1+1),a.2.2))))) (
 some (.inr (0,cY a.1)))) (zW (0,0,n)) λr5=>
 wx iX r5.2 λb=>
 k b
def Ck:G8:=k0t
theorem i1r:KU [] WY 47 Tryz.f47 Sw (j0p (k0t )):=λ_ _ _=>by kernel_rfl
theorem x0d:aC D 47 (h0l Ck):=aB Tryz.func47 tn (i1r )
def k0g (dp:iT)(tM:zG)(Ck:G8):Gz:=λO w k=>
 dp _ w.d λe=>
 cs e ([32]:LU) <|
 tM _ w.b w.d λf=>
 cs (e++[32]) f <|
 cs ((e++[32])++f) ([32]:LU) <|
 dp _ (nL w.c) λt3=>
 cs (((e++[32])++f)++[32]) t3 <|
 cs ((((e++[32])++f)++[32])++t3) ([32]:LU) <|
 Ck _ ⟨w.a,w.b,w.c,w.d⟩ λi=>
 dp _ i λh=>
 cs (((((e++[32])++f)++[32])++t3)++[32]) h <|
 cs ((((((e++[32])++f)++[32])++t3)++[32])++h) ([32,115,108,111,119]:LU) <|
 br w.ag (
 cc 0 (wi ((nS (((((((e++[32])++f)++[32])++t3)++[32])++h)++[32,115,108,111,119]))-4)) (nS (((((((e++[32])++f)++[32])++t3)++[32])++h)++[32,115,108,111,119])) <|
 cs (((((((((e++[32])++f)++[32])++t3)++[32])++h)++[32,115,108,111,119]).take ((wi ((nS (((((((e++[32])++f)++[32])++t3)++[32])++h)++[32,115,108,111,119]))-4)).toNat)).drop 0) ([102,97,115,116]:LU) <|
 br w.g (
 cs ((((((((((e++[32])++f)++[32])++t3)++[32])++h)++[32,115,108,111,119]).take ((wi ((nS (((((((e++[32])++f)++[32])++t3)++[32])++h)++[32,115,108,111,119]))-4)).toNat)).drop 0)++[102,97,115,116]) ([32,114,101,97,100,121]:LU) <|
 k (((((((((((e++[32])++f)++[32])++t3)++[32])++h)++[32,115,108,111,119]).take ((wi ((nS (((((((e++[32])++f)++[32])++t3)++[32])++h)++[32,115,108,111,119]))-4)).toNat)).drop 0)++[102,97,115,116])++[32,114,101,97,100,121])) (
 k ((((((((((e++[32])++f)++[32])++t3)++[32])++h)++[32,115,108,111,119]).take ((wi ((nS (((((((e++[32])++f)++[32])++t3)++[32])++h)++[32,115,108,111,119]))-4)).toNat)).drop 0)++[102,97,115,116]))) (
 br w.g (
 cs (((((((e++[32])++f)++[32])++t3)++[32])++h)++[32,115,108,111,119]) ([32,114,101,97,100,121]:LU) <|
 k ((((((((e++[32])++f)++[32])++t3)++[32])++h)++[32,115,108,111,119])++[32,114,101,97,100,121])) (
 k (((((((e++[32])++f)++[32])++t3)++[32])++h)++[32,115,108,111,119])))
def Gh:Gz:=k0g dp tM Ck
theorem h1x (dp:iT)(tM:zG)(Ck:G8):KU [(37,ta dp),(21,S0 tM),(47,h0l Ck)] a_ 25 Tryz.f25 Sx (j0g (k0g dp tM Ck )):=λ_ _ _=>by kernel_rfl
theorem w0q:aC D 25 (h0e Gh):=aB Tryz.func25 (tc yY (tc a0g (tc x0d tn))) (h1x dp tM Ck )
def P3 (F4:T4)(F5:G0)(F6:G1)(F7:bT)(F8:G2)(F9:G3)(GY:G5)(GZ:G6)(CZ:Gu)(Ga:Gu)(Ca:Gv)(Gb:Gv)(xQ:Gw)(Gc:Gw)(Cb:Gx)(Gd:Gx)(sJ:zG)(tM:zG)(Ge:Gy)(Gf:Gy)(Gg:Gz)(Gh:Gz):T4:=λO a k=>
 F4 _ a λF=>
 br F (
 k true) (
 F5 _ a λv=>
 F6 _ a λs=>
 F7 _ a λu=>
 F8 _ a λy=>
 F9 _ a λt x=>
 GY _ a λz=>
 GZ _ a λr=>
 CZ _ v λe=>
 Ga _ v λf=>
 br (e==f) (
 Ca _ s λh=>
 Gb _ s λc=>
 br (h==c) (
 xQ _ u λp=>
 Gc _ u λd=>
 br (p==d) (
 Cb _ y λq=>
 Gd _ y λg=>
 br (q==g) (
 sJ _ t x λn=>
 tM _ t x λb=>
 br (n==b) (
 Ge _ z λm=>
 Gf _ z λj=>
 br (m==j) (
 Gg _ r λo=>
 Gh _ r λi=>
 br (o==i) (
 xQ _ [] λL6=>
 k (L6==[45])) (
 k false)) (
 k false)) (
 k false)) (
 k false)) (
 k false)) (
 k false)) (
 k false))
def F3:T4:=P3 F4 F5 F6 F7 F8 F9 GY GZ CZ Ga Ca Gb xQ Gc Cb Gd sJ tM Ge Gf Gg Gh
theorem k3 (F4:T4)(F5:G0)(F6:G1)(F7:bT)(F8:G2)(F9:G3)(GY:G5)(GZ:G6)(CZ:Gu)(Ga:Gu)(Ca:Gv)(Gb:Gv)(xQ:Gw)(Gc:Gw)(Cb:Gx)(Gd:Gx)(sJ:zG)(tM:zG)(Ge:Gy)(Gf:Gy)(Gg:Gz)(Gh:Gz):KU [(4,W4 F4),(5,W26 F5),(6,h0f F6),(7,Hx F7),(8,h0g F8),(9,h0h F9),(10,h0i GY),(11,h0j GZ),(12,g0z CZ),(13,g0z Ga),(14,h0a Ca),(15,h0a Gb),(16,h0b xQ),(17,h0b Gc),(18,h0c Cb),(19,h0c Gd),(20,S0 sJ),(21,S0 tM),(22,h0d Ge),(23,h0d Gf),(24,h0e Gg),(25,h0e Gh)] a_ 3 Tryz.f3 z0 (G4 (P3 F4 F5 F6 F7 F8 F9 GY GZ CZ Ga Ca Gb xQ Gc Cb Gd sJ tM Ge Gf Gg Gh )):=λ_ _ _=>by kernel_rfl
theorem j1m:aC D 3 (W4 F3):=aB Tryz.func3 (tc j1n (tc j1o (tc j1p (tc j1q (tc j1r (tc j1s (tc w0d (tc w0e (tc w0f (tc w0g (tc w0h (tc w0i (tc w0j (tc w0k (tc w0l (tc w0m (tc a0a (tc a0g (tc w0n (tc w0o (tc w0p (tc w0q tn)))))))))))))))))))))) (k3 F4 F5 F6 F7 F8 F9 GY GZ CZ Ga Ca Gb xQ Gc Cb Gd sJ tM Ge Gf Gg Gh )
end
end Go.Am
end
section
namespace Go.Am
open Go
universe u
abbrev An {A:Type}(G:∀O:Type,(A->Option O)->Option O)(Q:A->Prop):Prop:=∃a,Q a /\ ∀O k,G O k=k a
abbrev cO {A B:Type}(G:∀O:Type,(A->B->Option O)->Option O)(Q:A->B->Prop):Prop:=∃a b,Q a b /\ ∀O k,G O k=k a b
abbrev AS {A B D:Type}(G:∀O:Type,(A->B->D->Option O)->Option O)(Q:A->B->D->Prop):Prop:=∃a b d,Q a b d /\ ∀O k,G O k=k a b d
section
variable {C:Type u}{T:C->Type}{R A B D E:Type}{Y:∀c,R->Option (T c)}{Q:R->Prop}
def Tg (X:∀c,Option (T c))(Y:∀c,R->Option (T c))(Q:R->Prop):Prop:=∃r,Q r /\ ∀c,X c=Y c r
theorem l1q {r:R}(h:Q r):Tg (λc=>Y c r) Y Q:=⟨r,h,λ_=>rfl⟩
theorem Tg.mono {X:∀c,Option (T c)}{Q1:R->Prop}(h:Tg X Y Q1)(d:∀r,Q1 r->Q r):Tg X Y Q:=by obtain⟨r,a,b⟩:=h;exact⟨r,d r a,b⟩
theorem l1l {G:∀O:Type,(A->Option O)->Option O}{X:A -> ∀c,Option (T c)}{Q1:A->Prop}(h:An G Q1)(e:∀a,Q1 a->Tg (X a) Y Q):Tg (λc=>G (T c) (λa=>X a c)) Y Q:=by obtain⟨a,b,d⟩:=h;simp only[d];exact e a b
theorem l1h {G:∀O:Type,(A->B->Option O)->Option O}{X:A->B -> ∀c,Option (T c)}{Q1:A->B->Prop}(h:cO G Q1)(f:∀a b,Q1 a b->Tg (X a b) Y Q):Tg (λc=>G (T c) (λa b=>X a b c)) Y Q:=by obtain⟨a,b,d,e⟩:=h;simp only[e];exact f a b d
theorem l1i {G:∀O:Type,(A->B->D->Option O)->Option O}{X:A->B->D -> ∀c,Option (T c)}{Q1:A->B->D->Prop}(h:AS G Q1)(e:∀a b d,Q1 a b d->Tg (X a b d) Y Q):Tg (λc=>G (T c) (λa b d=>X a b d c)) Y Q:=by obtain⟨a,b,d,f,g⟩:=h;simp only[g];exact e a b d f
theorem m1a {b:Bool}{X Z:∀c,Option (T c)}(d:b=true->Tg X Y Q)(a:b=false->Tg Z Y Q):Tg (λc=>br b (X c) (Z c)) Y Q:=by
 cases b;·exact a rfl
 ·exact d rfl
theorem l1n {p:Prop}{d:Decidable p}{X Z:∀c,Option (T c)}(a:p->Tg X Y Q)(b:¬p->Tg Z Y Q):Tg (λc=>Go.Am.br (@decide p d) (X c) (Z c)) Y Q:=m1a (λe=>a (of_decide_eq_true e)) (λe=>b (of_decide_eq_false e))
theorem l1t {a:Int}{s:LU}{d:Decidable (a<nS s)}{X Z:∀c,Option (T c)}(b:a<s.length->Tg X Y Q)(e:(s.length:Int)<=a->Tg Z Y Q):Tg (λc=>Go.Am.br (@decide (a<nS s) d) (X c) (Z c)) Y Q:=l1n b λh=>e (Int.not_lt.1 h)
theorem l1v {a:Int}{s:LV}{d:Decidable (a<nL s)}{X Z:∀c,Option (T c)}(b:a<s.length->Tg X Y Q)(e:(s.length:Int)<=a->Tg Z Y Q):Tg (λc=>Go.Am.br (@decide (a<nL s) d) (X c) (Z c)) Y Q:=l1n b λh=>e (Int.not_lt.1 h)
theorem l1o {p:Prop}{d:Decidable p}{X Z:∀c,Option (T c)}(e:p->Tg X Y Q)(b:¬p->Tg Z Y Q):Tg (λc=>@ite _ p d (X c) (Z c)) Y Q:=by
 by_cases a:p;·simp only[if_pos a];exact e a
 ·simp only[if_neg a];exact b a
theorem l1u {p:Prop}{d:Decidable p}{X:∀c,Option (T c)}(a:p)(h:Tg X Y Q):Tg (λc=>@Go.Am.chk _ p d (X c)) Y Q:=by unfold Go.Am.chk;simp only[if_pos a];exact h
theorem m1b {n:Int}{X:∀c,Option (T c)}(a:0<=n)(h:Tg X Y Q):Tg (λc=>c0 n (X c)) Y Q:=l1u a h
theorem l1z {n:Int}{l:LV}{X:∀c,Option (T c)}(a:0<=n/\n.toNat<l.length)(h:Tg X Y Q):Tg (λc=>ci n l (X c)) Y Q:=l1u a h
theorem m1g {a b n:Int}{X:∀c,Option (T c)}(d:0<=a/\a<=b/\b<=n)(h:Tg X Y Q):Tg (λc=>cc a b n (X c)) Y Q:=l1u d h
theorem m1i {a b:LU}{X:∀c,Option (T c)}(d:a.length+b.length<=9223372036854775807)(h:Tg X Y Q):Tg (λc=>cs a b (X c)) Y Q:=l1u d h
theorem m1f {a b:LV}{n:Nat}{X:∀c,Option (T c)}(d:(a.length+b.length)*n<=140737488355328/\a.length+b.length<=140737488355328)(h:Tg X Y Q):Tg (λc=>ca a b n (X c)) Y Q:=l1u d h
theorem l1x {σ:Type}{D:LL->σ}{s:LL}{x:σ}{X:σ -> ∀c,Option (T c)}(a:D s=x)(h:Tg (X x) Y Q):Tg (λc=>wx D s (λx=>X x c)) Y Q:=by subst a;exact h
theorem m1k {J:∀c,Option (T c)}{B:∀c,Option (T c)->Option (T c)}(b:Tg J Y Q)(d:∀a:∀c,Option (T c),Tg a Y Q->Tg (λc=>B c (a c)) Y Q):Tg (λc=>fB (J c) (B c)) Y Q:=d J b
theorem m1e {J:∀c,Option (T c)}{B:∀c,Option (T c)->Option (T c)}(h:Tg (λc=>B c (J c)) Y Q):Tg (λc=>fB (J c) (B c)) Y Q:=h
theorem m1d {J:∀c,A->Option (T c)}{B:∀c,(A->Option (T c))->Option (T c)}(h:Tg (λc=>B c (J c)) Y Q):Tg (λc=>mq (J c) (B c)) Y Q:=h
theorem m1j (PJ:A->Prop){J:A -> ∀c,Option (T c)}{B:∀c,(A->Option (T c))->Option (T c)}(e:∀a,PJ a->Tg (J a) Y Q)(d:∀b:A -> ∀c,Option (T c),(∀a,PJ a->Tg (b a) Y Q)->Tg (λc=>B c (λa=>b a c)) Y Q):Tg (λc=>mq (λa=>J a c) (B c)) Y Q:=d J e
theorem m1h (PJ:A->E->Prop){J:A->E -> ∀c,Option (T c)}{B:∀c,(A->E->Option (T c))->Option (T c)}(f:∀a e,PJ a e->Tg (J a e) Y Q)(d:∀b:A->E -> ∀c,Option (T c),(∀a e,PJ a e->Tg (b a e) Y Q)->Tg (λc=>B c (λa e=>b a e c)) Y Q):Tg (λc=>q0v (λa e=>J a e c) (B c)) Y Q:=d J f
theorem l1r {X Z:∀c,Option (T c)}{l:LL}(h:Tg X Y Q):Tg (λc=>if(0,l).1=0 then X c else Z c) Y Q:=l1o (λ_=>h) (λh=>absurd rfl h)
theorem l1p {X Z:∀c,Option (T c)}{l:LL}{n:Nat}(h:Tg Z Y Q):Tg (λc=>if(n+1,l).1=0 then X c else Z c) Y Q:=l1o (λh=>absurd h (Nat.succ_ne_zero _)) (λ_=>h)
end
theorem aW (s:LU):nS s=(s.length:Int):=rfl
theorem aJ (l:LV):nL l=(l.length:Int):=rfl
section
variable {A B D:Type}
theorem m1c {G:∀O:Type,(A->Option O)->Option O}{Q:A->Prop}(h:Tg (C:=Σ O:Type,A->Option O) (T:=λc=>c.1) (λc=>G c.1 c.2) (λc r=>c.2 r) Q):An G Q:=by obtain⟨r,a,b⟩:=h;exact⟨r,a,λO k=>b ⟨O,k⟩⟩
theorem l1s {G:∀O:Type,(A->B->Option O)->Option O}{Q:A->B->Prop}(h:Tg (C:=Σ O:Type,A->B->Option O) (T:=λc=>c.1) (λc=>G c.1 c.2) (λc (r:A×B)=>c.2 r.1 r.2) (λr=>Q r.1 r.2)):cO G Q:=by obtain⟨r,a,b⟩:=h;exact⟨r.1,r.2,a,λO k=>b ⟨O,k⟩⟩
theorem l1w {G:∀O:Type,(A->B->D->Option O)->Option O}{Q:A->B->D->Prop}(h:Tg (C:=Σ O:Type,A->B->D->Option O) (T:=λc=>c.1) (λc=>G c.1 c.2) (λc (r:A×B×D)=>c.2 r.1 r.2.1 r.2.2) (λr=>Q r.1 r.2.1 r.2.2)):AS G Q:=by obtain⟨r,a,b⟩:=h;exact⟨r.1,r.2.1,r.2.2,a,λO k=>b ⟨O,k⟩⟩
universe v
variable {C:Type v}{T:C->Type}
theorem l1j {a:A}{b:B}{X:∀c,A->B->Option (T c)}{Q:A×B->Prop}(h:Q (a,b)):Tg (λc=>X c a b) (λc (r:A×B)=>X c r.1 r.2) Q:=⟨(a,b),h,λ_=>rfl⟩
theorem l1k {a:A}{b:B}{d:D}{X:∀c,A->B->D->Option (T c)}{Q:A×B×D->Prop}(h:Q (a,b,d)):Tg (λc=>X c a b d) (λc (r:A×B×D)=>X c r.1 r.2.1 r.2.2) Q:=⟨(a,b,d),h,λ_=>rfl⟩
theorem wh {σ:Type}{D:LL->σ}{e:σ->LL}(j:∀x,D (e x)=x){step:σ->LR}{d:σ}(Inv:σ->Prop)(m:σ->Nat){Ex:Nat×LL->Prop}(p:Inv d)
  (o:∀x,Inv x->Tg (C:=Unit) (T:=λ_=>LL ⊕ (Nat×LL)) (λ_=>step x) (λ_ z=>some z) (λz=>match z with
   |.inl s=>∃a,s=e a/\Inv a/\m a<m x
   |.inr r=>Ex r)):An (λ_=>bM D step (e d)) Ex:=by
 have f:∀(n:Nat) (x:σ),m x<n->Inv x -> ∃r,Ex r/\cN (λs=>step (D s)) (e x)=some r:=by
  intro n;induction n with
  |zero=>intro x h;omega
  |succ n q=>
   intro x u g;obtain⟨z,c,b⟩:=o x g;have b:=b ();rw[eW];simp only[j,b];cases z with
   |inl s =>obtain⟨a,rfl,i,t⟩:=c;exact q a (by omega) i
   |inr r=>exact⟨r,c,rfl⟩
 obtain⟨r,c,b⟩:=f _ d (Nat.lt_succ_self _) p;exact⟨r,c,λO k=>by unfold bM l_;rw[b]⟩
theorem l1y {σ:Type}{e:σ->LL}{a:σ}{Inv:σ->Prop}{m:σ->Nat}{n:Nat}{Ex:Nat×LL->Prop}(h:Inv a)(b:m a<n):Tg (C:=Unit) (T:=λ_=>LL ⊕ (Nat×LL)) (λ_=>some (Sum.inl (e a))) (λ_ z=>some z) (λz=>match z with
   |.inl s=>∃a,s=e a/\Inv a/\m a<n
   |.inr r=>Ex r):=⟨.inl (e a),⟨a,rfl,h,b⟩,λ_=>rfl⟩
theorem l1m {σ:Type}{e:σ->LL}{Inv:σ->Prop}{m:σ->Nat}{n:Nat}{Ex:Nat×LL->Prop}{r:Nat×LL}(h:Ex r):Tg (C:=Unit) (T:=λ_=>LL ⊕ (Nat×LL)) (λ_=>some (Sum.inr r)) (λ_ z=>some z) (λz=>match z with
   |.inl s=>∃a,s=e a/\Inv a/\m a<n
   |.inr r=>Ex r):=⟨.inr r,h,λ_=>rfl⟩
end
section
variable {U:Type}{w:U->V}{P P':U->Prop}{l l':LV}
def Rw (w:U->V)(P:U->Prop)(l:LV):Prop:=∀r∈l,∃y,P y/\r=w y
theorem Rw.nil:Rw w P []:=λr h=>by cases h
theorem Rw.cons {y:U}(b:P y)(h:Rw w P l):Rw w P (w y :: l):=λr a=>by
 rcases List.mem_cons.1 a with rfl|a;·exact⟨y,b,rfl⟩
 ·exact h r a
theorem Rw.one {y:U}(a:P y):Rw w P [w y]:=Rw.cons a Rw.nil
theorem Rw.app (h:Rw w P l)(b:Rw w P l'):Rw w P (l++l'):=λr a=>(List.mem_append.1 a).elim (h r) (b r)
theorem Rw.take (h:Rw w P l)(n:Nat):Rw w P (l.take n):=λr a=>h r (List.mem_of_mem_take a)
theorem Rw.drop (h:Rw w P l)(n:Nat):Rw w P (l.drop n):=λr a=>h r (List.mem_of_mem_drop a)
theorem Rw.mono (h:Rw w P l)(c:∀y,P y->P' y):Rw w P' l:=λr a=>by obtain⟨y,b,d⟩:=h r a;exact⟨y,c y b,d⟩
theorem Rw.get (h:Rw w P l){i:Nat}(a:i<l.length):∃y,P y/\l[i]?=some (w y):=by obtain⟨y,b,c⟩:=h l[i] (List.getElem_mem a);exact⟨y,b,by rw[List.getElem?_eq_getElem a,c]⟩
theorem Rw.ix {f:∀{α:Type},LV->Nat->(U->Option α)->Option α}(b:∀(α:Type) (l:LV) (i:Nat) (y:U) (k:U->Option α),l[i]?=some (w y)->f l i k=k y)(h:Rw w P l){i:Nat}(d:i<l.length):An (λ_=>f l i) λy=>P y/\l[i]?=some (w y):=by obtain⟨y,c,a⟩:=h.get d;exact⟨y,⟨c,a⟩,λO k=>b O l i y k a⟩
end
theorem dA {α:Type}{a:Bool}{ks:List CK}{l:LV}{i:Nat}{v:V}{e:bP ks}{k:bP ks->Option α}(h:l[i]?=some v)(b:im a ks v=some e):idx a ks l i k=k e:=by unfold idx;rw[h];simp only[Option.bind_some,b]
theorem d8 {α:Type}{ks:List CK}{l:LV}{i o:Nat}{v:V}{e:bP ks}{k:bP ks->Option α}(h:l[i]?=some v)(a:bo ks ((v.cells.drop o).take ks.length)=some e):idxAt ks l i o k=k e:=by unfold idxAt;rw[h];simp only[Option.bind_some,a]
theorem ig {s:LU}{n:Int}(a:0<=n)(c:n.toNat<s.length):An (λ_=>idxS s n) λb=>0<=b/\b<256:=by
 refine⟨(s[n.toNat].toNat:Int),⟨Int.natCast_nonneg _,?_⟩,λO k=>?_⟩;·have:=s[n.toNat].toNat_lt;omega
 ·show idxS s n k=_;unfold idxS chk;rw[if_pos a,List.getElem?_eq_getElem c]
theorem lT {n:Int}(h:-9223372036854775808<=n/\n<=9223372036854775807):wi n=n:=by unfold wi;simp[IntKind.wrap,IntKind.bits,IntKind.signed];omega
theorem GW (n:Int):-9223372036854775808<=wi n/\wi n<=9223372036854775807:=by unfold wi;simp[IntKind.wrap,IntKind.bits,IntKind.signed];omega
end Go.Am
end
section
namespace Go.Am
open Go
theorem Dv (x:Int):0<=mM .and .i64 x 255/\mM .and .i64 x 255<=255:=by
 have h:(BitVec.ofInt 64 x &&& BitVec.ofInt 64 255).toNat<=255:=by rw[BitVec.toNat_and];exact Nat.and_le_right
 show 0<=IntKind.wrap .i64 (BitVec.ofInt 64 x &&& BitVec.ofInt 64 255).toNat/\IntKind.wrap .i64 (BitVec.ofInt 64 x &&& BitVec.ofInt 64 255).toNat<=255;generalize (BitVec.ofInt 64 x &&& BitVec.ofInt 64 255).toNat=n at h;simp[IntKind.wrap,IntKind.bits,IntKind.signed];omega
def wb (n:Int):V:=.int .u8 n
def wn (n:Int):V:=.int .i64 n
abbrev tt {A:Type}(_:A):Prop:=True
theorem r0 {P:Int->Prop}{l:LV}(h:Rw wb P l){i:Nat}(a:i<l.length):An (λ_=>S9 l i) (λy=>P y/\l[i]?=some (wb y)):=h.ix (f:=S9) (λ_ l i y k h=>by unfold S9;exact dA (ks:=[.int .u8]) (e:=(y,())) h rfl) a
theorem r1 {P:Int->Prop}{l:LV}(h:Rw wn P l){i:Nat}(a:i<l.length):An (λ_=>Iy l i) (λy=>P y/\l[i]?=some (wn y)):=h.ix (f:=Iy) (λ_ l i y k h=>by unfold Iy;exact dA (ks:=[.int .i64]) (e:=(y,())) h rfl) a
theorem r2 {P:LU->Prop}{l:LV}(h:Rw V.str P l){i:Nat}(a:i<l.length):An (λ_=>B1 l i) (λy=>P y/\l[i]?=some (V.str y)):=h.ix (f:=B1) (λ_ l i y k h=>by unfold B1;exact dA (ks:=[.str]) (e:=(y,())) h rfl) a
theorem bC {n:Int}(h:-1152921504606846976<=n/\n<=1152921504606846976):wi (n+1)=n+1:=lT (by omega)
theorem lU {n:Int}(h:-1152921504606846976<=n/\n<=1152921504606846976):wi (n-1)=n-1:=lT (by omega)
structure Cu (c:U0):Prop where
  rw:Rw wb tt c.a
  lo:0<=c.b
  hi:c.b<=c.a.length
  le:c.a.length<=1048576
theorem i0c {c:U0}(h:Cu c):cO (λO=>gp O c) λn y=>(0<=n/\n<=255)/\Cu y:=by
 refine l1s ?_;unfold gp DI;have d:=h.lo;have f:=h.le;have g:=h.hi;refine m1a (λe=>?_) (λe=>?_)
 ·have e:c.b<c.a.length:=of_decide_eq_true e;refine m1b d (l1l (r0 h.rw (by omega)) λn _=>l1j ⟨Dv _,h.rw,?_,?_,f⟩);·show 0<=wi (c.b+1);rw[bC (by omega)];omega
  ·show wi (c.b+1)<=(c.a.length:Int);rw[bC (by omega)];omega
 ·exact l1j ⟨Dv _,h.rw,d,g,f⟩
theorem tm {a n:Int}(h:0<n)(b:0<=a):0<=Int.tmod a n/\Int.tmod a n<n:=⟨Int.tmod_nonneg _ b,Int.tmod_lt_of_pos _ h⟩
theorem kW {c:U0}(n:Int)(h:Cu c):cO (λO=>aD O n c) λm y=>(0<=m/\(m<n\/m=0))/\Cu y:=by
 refine l1s ?_;unfold aD C8;refine m1a (λe=>l1j ⟨⟨Int.le_refl _,.inr rfl⟩,h⟩) (λe=>m1a (λj=>l1h (i0c h) λa y ⟨g,f⟩=>l1u ?_ (l1j ⟨?_,f⟩)) (λj=>l1h (i0c h) λa y ⟨g,f⟩=>l1h (i0c f) λb z ⟨p,i⟩=>l1h (i0c i) λd u ⟨o,k⟩=>l1u ?_ (l1j ⟨?_,k⟩)));·simp at e;omega
 ·simp at e;have:=tm (a:=a) (n:=n) (by omega) g.1;exact⟨this.1,.inl this.2⟩
 ·simp at e;omega
 ·simp at e;have:=tm (a:=wi (wi (wi (a*65536)+wi (b*256))+d)) (n:=n) (by omega) (by rw[lT (n:=a*65536) (by omega),lT (n:=b*256) (by omega),lT (n:=a*65536+b*256) (by omega),lT (n:=a*65536+b*256+d) (by omega)];omega);exact⟨this.1,.inl this.2⟩
theorem xI {c:U0}(n:Int)(h:Cu c):cO (λO=>aP O n c) λ_ y=>Cu y:=by refine l1s ?_;unfold aP C7;exact l1h (kW n h) λm y a=>l1j a.2
theorem Fm {c:U0}{l:LV}{P:Int->Prop}(h:Cu c)(d:Rw wn P l)(b:l≠[]):cO (λO=>aY O l c) λn y=>P n/\Cu y:=by refine l1s ?_;unfold aY C9 nL;have:=List.length_pos_iff.2 b;exact l1h (kW _ h) λm y a=>m1b a.1.1 (l1l (r1 d (by omega)) λn e=>l1j ⟨e.1,a.2⟩)
theorem i0g {c:U0}{l:LV}{P:LU->Prop}(h:Cu c)(d:Rw V.str P l)(b:l≠[]):cO (λO=>aG O l c) λn y=>P n/\Cu y:=by refine l1s ?_;unfold aG DF nL;have:=List.length_pos_iff.2 b;exact l1h (kW _ h) λm y a=>m1b a.1.1 (l1l (r2 d (by omega)) λn e=>l1j ⟨e.1,a.2⟩)
end Go.Am
end

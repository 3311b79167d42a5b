/-
  Proved: lemmas for Rows.FnFormatsCardSaid.
-/
import Derived.Test.YtmkhgngckgcpeaaGreatDooruUp4
set_option linter.all false
set_option maxRecDepth 10000
namespace Go.Am
open Go Go.Proofs
noncomputable section
abbrev G3:Type 1:=(O:Type)->LV->(LV->Int->Option O)->Option O
def k0k (au:eK)(eY:bA)(aD:av):G3:=λO a k=>
 au _ a λc=>
 eY _ c λl2 d=>
 aD _ 60 d λb e=>
 k l2 b
def HL:G3:=k0k au eY aD
def j0k (F:G3):GT:=λO s k=>F O (lL s 0) (λb a=>k (.tup [.agg [.own 0 10 .flat b],.int .i64 a]))
abbrev h0h (F:G3):WT:=WU z0 (j0k F)
theorem i1c (au:eK)(eY:bA)(aD:av):KU [(28,ah (nZ au)),(60,ah (Dp eY)),(53,ah (cX aD))] a_ 31 Tryz.f31 z0 (j0k (k0k au eY aD )):=λ_ _ _=>by kernel_rfl
theorem w0u:aC D 31 (h0h HL):=aB Tryz.func31 (tc lr (tc FB (tc ba tn))) (i1c au eY aD )
def P9 (HL:G3):G3:=λO a k=>
 HL _ a λl1 b=>
 k l1 b
def F9:G3:=P9 HL
theorem k9 (HL:G3):KU [(31,h0h HL)] a_ 9 Tryz.f9 z0 (j0k (P9 HL )):=λ_ _ _=>by kernel_rfl
theorem j1s:aC D 9 (h0h F9):=aB Tryz.func9 (tc w0u tn) (k9 HL )
abbrev u9:Type 1:=(O:Type)->(U17->Option O)->Option O
def Mp:u9:=λO  k=>
 k ⟨[],(-1)⟩
def jL:u9:=Mp
def Th (F:u9):GT:=λO s k=>F O  (λa=>k (f0o a))
abbrev Ou (F:u9):WT:=WU MH (Th F)
theorem r0v:KU [] a_ 133 Tryz.f133 MH (Th (Mp )):=λ_ _ _=>by kernel_rfl
theorem LZ:aC D 133 (Ou jL):=aB Tryz.func133 tn (r0v )
def xV (cn:lE)(eh:bD):eL:=λO c k=>
 cn _ c λd l2 e=>
 eh _ e λa f=>
 k {d with b:=a} f
def gO:eL:=xV cn eh
def Cq (F:eL):GT:=λO s k=>F O (fx s 0) (λb a=>k (.tup [MG b,ol a]))
abbrev DX (F:eL):WT:=WU TM (Cq F)
theorem Qj (cn:lE)(eh:bD):KI [(29,ah (zI cn)),(92,ah (ow eh))] a_ 135 ⟨[.pt],15,1,false⟩ Tryz.f135 TM (Cq (xV cn eh )):=λ_ _ _=>by kernel_rfl
theorem JB:aC D 135 (ah (DX gO)):=aO Tryz.func135 (tc yX (tc FE tn)) (Qj cn eh )
abbrev fv:Type 1:=(O:Type)->U17->(U17->Option O)->Option O
def NH (a8:dH):fv:=λO t k=>
 bM IN (λB=>
 br (decide (B.1<(nL B.2.1.a))) (
 c0 B.1 <|
 jw B.2.1.a B.1.toNat λC=>
 c0 B.1 <|
 jw B.2.1.a B.1.toNat λA=>
 a8 _ ⟨A.c,A.d,A.e,A.f,A.g,A.h,A.i,A.j,A.k,A.l,A.m,A.n,A.o,A.p,A.q,A.r,A.s,A.t,A.u,A.v,A.w,A.x⟩ λz=>
 ca B.2.2.2.a ([w9 ⟨C.a,C.b,z.a,z.b,z.c,z.d,z.e,z.f,z.g,z.h,z.i,z.j,z.k,z.l,z.m,z.n,z.o,z.p,z.q,z.r,z.s,z.t,z.u,z.v,C.y⟩]:LV) 424 <|
 some (.inl (nC (wi (B.1+1),B.2.1,B.2.2.1,{B.2.2.2 with a:=B.2.2.2.a++([w9 ⟨C.a,C.b,z.a,z.b,z.c,z.d,z.e,z.f,z.g,z.h,z.i,z.j,z.k,z.l,z.m,z.n,z.o,z.p,z.q,z.r,z.s,z.t,z.u,z.v,C.y⟩]:LV)})))) (
 some (.inr (0,uD (B.2.2.1,B.2.2.2))))) (nC (0,t,0,{t with a:=[]})) λr5=>
 wx D6 r5.2 λD=>
 k D.2
def bq:fv:=NH a8
def m0m:aH:=λi=>aL i [] [(3,[(.exit 0,xk 36 [(2,.ptr 2 0),(3,.ptr 3 0)] [(2,.agg [.nil,.int .i64 0]),(3,.agg [.own 1000000 25 .clean [],.int .i64 0])])])]
def MK (F:fv):GT:=λO s k=>F O (iH s 0) (λa=>k (f0o a))
abbrev ro (F:fv):WT:=WU xO (MK F)
theorem s0y (a8:dH):KU [(79,ng a8)] m0m 181 Tryz.f181 xO (MK (NH a8 )):=λ_ _ _=>by kernel_rfl
theorem s7:aC D 181 (ro bq):=aB Tryz.func181 (tc iC tn) (s0y a8 )
def NI:fw:=λO a b k=>
 br (decide (b>a)) (
 k b) (
 k a)
def fI:fw:=NI
theorem s0z:KU [] a_ 182 Tryz.f182 i0s (Ha (NI )):=λ_ _ _=>by kernel_rfl
theorem E5:aC D 182 (rp fI):=aB Tryz.func182 tn (s0z )
abbrev mF:Type 1:=(O:Type)->U17->U8->(U17->Option O)->Option O
def Mq (bq:fv)(e_:fw)(fI:fw)(a8:dH):mF:=λO t p k=>
 bq _ t λx=>
 e_ _ t.b 6 λz=>
 e_ _ (nL x.a) (wi (z+1)) λA=>
 fI _ 0 A λy=>
 cc 0 y (nL x.a) <|
 a8 _ p λw=>
 ca ((x.a.take y.toNat).drop 0) ([w9 ⟨p.a,p.b,w.a,w.b,w.c,w.d,w.e,w.f,w.g,w.h,w.i,w.j,w.k,w.l,w.m,w.n,w.o,w.p,w.q,w.r,w.s,w.t,w.u,w.v,true⟩]:LV) 424 <|
 br (decide ((nL (((x.a.take y.toNat).drop 0)++([w9 ⟨p.a,p.b,w.a,w.b,w.c,w.d,w.e,w.f,w.g,w.h,w.i,w.j,w.k,w.l,w.m,w.n,w.o,w.p,w.q,w.r,w.s,w.t,w.u,w.v,true⟩]:LV)))>6)) (
 cc 1 (nL (((x.a.take y.toNat).drop 0)++([w9 ⟨p.a,p.b,w.a,w.b,w.c,w.d,w.e,w.f,w.g,w.h,w.i,w.j,w.k,w.l,w.m,w.n,w.o,w.p,w.q,w.r,w.s,w.t,w.u,w.v,true⟩]:LV))) (nL (((x.a.take y.toNat).drop 0)++([w9 ⟨p.a,p.b,w.a,w.b,w.c,w.d,w.e,w.f,w.g,w.h,w.i,w.j,w.k,w.l,w.m,w.n,w.o,w.p,w.q,w.r,w.s,w.t,w.u,w.v,true⟩]:LV))) <|
 k ⟨((((x.a.take y.toNat).drop 0)++([w9 ⟨p.a,p.b,w.a,w.b,w.c,w.d,w.e,w.f,w.g,w.h,w.i,w.j,w.k,w.l,w.m,w.n,w.o,w.p,w.q,w.r,w.s,w.t,w.u,w.v,true⟩]:LV)).take ((nL (((x.a.take y.toNat).drop 0)++([w9 ⟨p.a,p.b,w.a,w.b,w.c,w.d,w.e,w.f,w.g,w.h,w.i,w.j,w.k,w.l,w.m,w.n,w.o,w.p,w.q,w.r,w.s,w.t,w.u,w.v,true⟩]:LV))).toNat)).drop 1,wi ((nL (((((x.a.take y.toNat).drop 0)++([w9 ⟨p.a,p.b,w.a,w.b,w.c,w.d,w.e,w.f,w.g,w.h,w.i,w.j,w.k,w.l,w.m,w.n,w.o,w.p,w.q,w.r,w.s,w.t,w.u,w.v,true⟩]:LV)).take ((nL (((x.a.take y.toNat).drop 0)++([w9 ⟨p.a,p.b,w.a,w.b,w.c,w.d,w.e,w.f,w.g,w.h,w.i,w.j,w.k,w.l,w.m,w.n,w.o,w.p,w.q,w.r,w.s,w.t,w.u,w.v,true⟩]:LV))).toNat)).drop 1))-1)⟩) (
 k ⟨((x.a.take y.toNat).drop 0)++([w9 ⟨p.a,p.b,w.a,w.b,w.c,w.d,w.e,w.f,w.g,w.h,w.i,w.j,w.k,w.l,w.m,w.n,w.o,w.p,w.q,w.r,w.s,w.t,w.u,w.v,true⟩]:LV),wi ((nL (((x.a.take y.toNat).drop 0)++([w9 ⟨p.a,p.b,w.a,w.b,w.c,w.d,w.e,w.f,w.g,w.h,w.i,w.j,w.k,w.l,w.m,w.n,w.o,w.p,w.q,w.r,w.s,w.t,w.u,w.v,true⟩]:LV)))-1)⟩)
def jM:mF:=Mq bq e_ fI a8
def Ti (F:mF):GT:=λO s k=>F O (iH s 0) (dr s 2) (λa=>k (b1d a))
abbrev Ov (F:mF):WT:=WU i0v (Ti F)
theorem r0w (bq:fv)(e_:fw)(fI:fw)(a8:dH):KU [(181,ro bq),(183,rp e_),(182,rp fI),(79,ng a8)] a_ 134 Tryz.f134 i0v (Ti (Mq bq e_ fI a8 )):=λ_ _ _=>by kernel_rfl
theorem La:aC D 134 (Ov jM):=aB Tryz.func134 (tc s7 (tc E6 (tc E5 (tc iC tn)))) (r0w bq e_ fI a8 )
abbrev u_:Type 1:=(O:Type)->U17->Int->(U17->Bool->Option O)->Option O
def Mr (bq:fv)(aU:dK):u_:=λO t c k=>
 bq _ t λd=>
 br (c != 1) (
 br (c != (-1)) (
 k d false) (
 aU _ t.b 0 (wi ((nL t.a)-1)) λg=>
 br (!g) (
 k d false) (
 aU _ (wi (t.b+c)) 0 (wi ((nL t.a)-1)) λh=>
 br (!h) (
 k d false) (
 k {d with b:=wi (t.b+c)} true)))) (
 aU _ t.b 0 (wi ((nL t.a)-1)) λf=>
 br (!f) (
 k d false) (
 aU _ (wi (t.b+c)) 0 (wi ((nL t.a)-1)) λe=>
 br (!e) (
 k d false) (
 k {d with b:=wi (t.b+c)} true)))
def jN:u_:=Mr bq aU
def Tj (F:u_):GT:=λO s k=>F O (iH s 0) (lI s 2) (λb a=>k (.tup [f0o b,.bool a]))
abbrev Ow (F:u_):WT:=WU i0w (Tj F)
theorem r0x (bq:fv)(aU:dK):KU [(181,ro bq),(65,ko aU)] a_ 136 Tryz.f136 i0w (Tj (Mr bq aU )):=λ_ _ _=>by kernel_rfl
theorem Lb:aC D 136 (Ow jN):=aB Tryz.func136 (tc s7 (tc eI tn)) (r0x bq aU )
abbrev gv:Type 1:=(O:Type)->U0->(U17->U0->Option O)->Option O
def DM (jL:u9)(aY:dc)(gO:eL)(jM:mF)(aP:cQ)(jN:u_):gv:=λO c k=>
 jL _  λh=>
 aY _ [.int .i64 0,.int .i64 1,.int .i64 3,.int .i64 7] c λg i=>
 bM Xp (λa=>
 br (decide (a.1>0)) (
 gO _ a.2.2.2 λm l=>
 jM _ a.2.2.1 m λe=>
 aP _ 4 l λn f=>
 br n (
 jN _ e (-1) λd j=>
 some (.inl (Ih (wi (a.1-1),a.2.1,d,f)))) (
 some (.inl (Ih (wi (a.1-1),a.2.1,e,f))))) (
 some (.inr (0,Yg (a.2.1,a.2.2.1,a.2.2.2))))) (Ih (g,0,h,i)) λr12=>
 wx o0u r12.2 λb=>
 k b.2.1 b.2.2
def k_:gv:=DM jL aY gO jM aP jN
def Wj:aH:=λi=>aL i [] [(3,[(.exit 0,ug 25 26 [(2,.ptr 2 0),(3,.ptr 3 0)] [(2,.agg [.nil,.int .i64 0]),(3,.agg [.view 1000000 25 .clean [],.int .i64 0]),(25,.agg [.sl 1 true [],.int .i64 0,.int .i64 0])])])]
def zF (F:gv):GT:=λO s k=>F O (fx s 0) (λb a=>k (.tup [b1d b,ol a]))
abbrev KT (F:gv):WT:=WU f1q (zF F)
theorem ZZ (jL:u9)(aY:dc)(gO:eL)(jM:mF)(aP:cQ)(jN:u_):KI [(133,Ou jL),(57,ah (mH aY)),(135,ah (DX gO)),(134,Ov jM),(51,ah (ir aP)),(136,Ow jN)] Wj 95 ⟨[.pt],25,1,false⟩ Tryz.f95 f1q (zF (DM jL aY gO jM aP jN )):=λ_ _ _=>by kernel_rfl
theorem RC:aC D 95 (ah (KT k_)):=aO Tryz.func95 (tc LZ (tc kA (tc JB (tc La (tc fh (tc Lb tn)))))) (ZZ jL aY gO jM aP jN )
def DC (k_:gv)(aD:av)(aY:dc)(ak:bc):gv:=λO c k=>
 k_ _ c λd n=>
 aD _ 14 n λg e=>
 br (g==0) (
 aY _ [.int .i64 (-2),.int .i64 (-1),.int .i64 9,.int .i64 9223372036854775807,.int .i64 (-9223372036854775808)] e λl m=>
 k {d with b:=l} m) (
 br (g==1) (
 br (decide ((nL d.a)>0)) (
 ak _ e λi j=>
 ci 0 d.a <|
 bU d.a 0 0 (w2 i).cells λh=>
 k {d with a:=h} j) (
 k d e)) (
 br (g==2) (
 br (decide ((nL d.a)>0)) (
 ci 0 d.a <|
 bU d.a 0 24 [.bool false] λf=>
 k {d with a:=f} e) (
 k d e)) (
 k d e)))
def eZ:gv:=DC k_ aD aY ak
abbrev Dq (F:gv):WT:=WU f1r (zF F)
theorem ZP (k_:gv)(aD:av)(aY:dc)(ak:bc):KI [(95,ah (KT k_)),(53,ah (cX aD)),(57,ah (mH aY)),(59,ah (mI ak))] a_ 61 ⟨[.pt],37,1,false⟩ Tryz.f61 f1r (zF (DC k_ aD aY ak )):=λ_ _ _=>by kernel_rfl
theorem FC:aC D 61 (ah (Dq eZ)):=aO Tryz.func61 (tc RC (tc ba (tc kA (tc kB tn)))) (ZP k_ aD aY ak )
abbrev G5:Type 1:=(O:Type)->LV->(U17->Option O)->Option O
def k0l (au:eK)(eZ:gv):G5:=λO a k=>
 au _ a λc=>
 eZ _ c λb d=>
 k b
def HM:G5:=k0l au eZ
def j0l (F:G5):GT:=λO s k=>F O (lL s 0) (λa=>k (b1d a))
abbrev h0i (F:G5):WT:=WU z0 (j0l F)
theorem i1d (au:eK)(eZ:gv):KU [(28,ah (nZ au)),(61,ah (Dq eZ))] a_ 32 Tryz.f32 z0 (j0l (k0l au eZ )):=λ_ _ _=>by kernel_rfl
theorem w0v:aC D 32 (h0i HM):=aB Tryz.func32 (tc lr (tc FC tn)) (i1d au eZ )
def j0w (HM:G5):G5:=λO a k=>
 HM _ a λb=>
 k b
def GY:G5:=j0w HM
theorem q0w (HM:G5):KU [(32,h0i HM)] a_ 10 Tryz.f10 z0 (j0l (j0w HM )):=λ_ _ _=>by kernel_rfl
theorem w0d:aC D 10 (h0i GY):=aB Tryz.func10 (tc w0v tn) (q0w HM )
def MQ:bT:=λO l k=>
 bM vl (λa=>
 br (decide (a.2.2<(nL a.1))) (
 c0 a.2.2 <|
 wM a.1 a.2.2.toNat λd=>
 c0 a.2.2 <|
 wM a.1 a.2.2.toNat λc=>
 ca ([]:LV) c.b 80 <|
 ca a.2.1 ([oW {d with b:=([]:LV)++c.b}]:LV) 40 <|
 some (.inl (ld (a.1,a.2.1++([oW {d with b:=([]:LV)++c.b}]:LV),wi (a.2.2+1))))) (
 some (.inr (0,fo a.2.1)))) (ld (l,[],0)) λr4=>
 wx ru r4.2 λe=>
 k e
def dV:bT:=MQ
def l0q:aH:=λi=>aL i [] [(3,[(.exit 0,xk 29 [(3,.own 1000000 2 .clean [])] [])])]
def TP (F:bT):GT:=λO s k=>F O (lL s 0) (λa=>k (.own 0 2 .clean a))
abbrev DT (F:bT):WT:=WU i0x (TP F)
theorem q0y:KU [] l0q 107 Tryz.f107 i0x (TP (MQ )):=λ_ _ _=>by kernel_rfl
theorem zq:aC D 107 (DT dV):=aB Tryz.func107 tn (q0y )
abbrev jA:Type 1:=(O:Type)->U19->(U19->Option O)->Option O
def NV (dV:bT)(i7:bT):jA:=λO n k=>
 dV _ n.a λl1=>
 i7 _ n.b λl2=>
 ca ([]:LV) n.c 56 <|
 k ⟨l1,l2,([]:LV)++n.c,n.d⟩
def bR:jA:=NV dV i7
def UQ (F:jA):GT:=λO s k=>F O (fy s 0) (λa=>k (Ci a))
abbrev vR (F:jA):WT:=WU Sw (UQ F)
theorem t0k (dV:bT)(i7:bT):KU [(107,DT dV),(178,O7 i7)] a_ 193 Tryz.f193 Sw (UQ (NV dV i7 )):=λ_ _ _=>by kernel_rfl
theorem pX:aC D 193 (vR bR):=aB Tryz.func193 (tc zq (tc Ll tn)) (t0k dV i7 )
abbrev vM:Type 1:=(O:Type)->LV->LU->U5->Int->(U2->Bool->Option O)->Option O
def Nm (kK:Cc):vM:=λO l1 p a now k=>
 bM Xr (λl=>
 br (decide (l.2.2.1<(nL l.2.2.2.1))) (
 fB (some (.inl (QT (l.1,l.2.1,wi (l.2.2.1+1),l.2.2.2.1,l.2.2.2.2.1,l.2.2.2.2.2)))) λj9=>
 c0 l.2.2.1 <|
 oO l.2.2.2.1 l.2.2.1.toNat λs=>
 br (s.a==l.1) (
 c0 l.2.2.1 <|
 oO l.2.2.2.1 l.2.2.1.toNat λq=>
 br (q0 ⟨q.b,q.c⟩ l.2.2.2.2.1) (
 c0 l.2.2.1 <|
 oO l.2.2.2.1 l.2.2.1.toNat λt=>
 br (decide (t.j >= l.2.1)) (
 c0 l.2.2.1 <|
 oO l.2.2.2.1 l.2.2.1.toNat λm=>
 some (.inr (1,Yj (true,⟨m.d,m.e,m.f,m.g,m.h,m.i⟩)))) (
 j9)) (
 j9)) (
 j9)) (
 some (.inr (0,Yi l.2.2.2.2.2)))) (QT (p,now,0,l1,a,⟨0,0,[],0,false,[]⟩)) λr10=>
 if r10.1=0 then
 wx o0w r10.2 λr=>
 kK _  λo=>
 k o false
 else
 wx o0x r10.2 λn=>
 k n.2 n.1
def ja:vM:=Nm kK
def m0w:aH:=λi=>aL i [] [(2,[(.exit 0,xk 53 [(8,.ptr 8 0)] [(8,.agg [.int .i64 0,.int .i64 0,.str [],.int .i64 0,.bool false,.str []])]),(.ret,xk 53 [(8,.ptr 8 0),(9,.bool false)] [(8,.agg [.int .i64 0,.int .i64 0,.str [],.int .i64 0,.bool false,.str []])])])]
def Ud (F:vM):GT:=λO s k=>F O (lL s 0) (lS s 1) (fQ s 2) (lI s 4) (λb a=>k (.tup [MF b,.bool a]))
abbrev PE (F:vM):WT:=WU f1s (Ud F)
theorem t0z (kK:Cc):KU [(90,WV kK)] m0w 218 Tryz.f218 f1s (Ud (Nm kK )):=λ_ _ _=>by kernel_rfl
theorem Lx:aC D 218 (PE ja):=aB Tryz.func218 (tc JS tn) (t0z kK )
abbrev oL:Type 1:=(O:Type)->U19->LU->U5->U2->(U19->Option O)->Option O
def Nn (bR:jA)(ja:vM)(bY:kh)(jK:u7):oL:=λO n c a x k=>
 bR _ n λe=>
 ja _ n.b c a n.d λi h=>
 br (!h) (
 bY _ x λf=>
 br f (
 br (x.a==200) (
 jK _ n.b c a x n.d λg=>
 k {e with b:=g}) (
 k e)) (
 k e)) (
 k e)
def dM:oL:=Nn bR ja bY jK
def Ue (F:oL):GT:=λO s k=>F O (fy s 0) (lS s 4) (fQ s 5) (sE s 7) (λa=>k (Ci a))
abbrev Do (F:oL):WT:=WU f1t (Ue F)
theorem u0a (bR:jA)(ja:vM)(bY:kh)(jK:u7):KU [(193,vR bR),(218,PE ja),(157,vQ bY),(132,Or jK)] a_ 219 Tryz.f219 f1t (Ue (Nn bR ja bY jK )):=λ_ _ _=>by kernel_rfl
theorem AE:aC D 219 (Do dM):=aB Tryz.func219 (tc pX (tc Lx (tc sy (tc LY tn)))) (u0a bR ja bY jK )
abbrev gr:Type 1:=(O:Type)->U19->LU->U5->Bool->(U19->U2->Option O)->Option O
def NK (bR:jA)(dw:oa)(kK:Cc)(ja:vM)(uh:KL)(dM:oL):gr:=λO n f a e k=>
 bR _ n λg=>
 dw _ a λp=>
 br (!p) (
 kK _  λo=>
 k g o) (
 ja _ n.b f a n.d λl j=>
 br j (
 k g l) (
 uh _ n.a a λh=>
 br (decide ((nL n.c)<400)) (
 ca g.c ([AQ ⟨f,a.a,a.b,e⟩]:LV) 56 <|
 br (!e) (
 dM _ {g with c:=g.c++([AQ ⟨f,a.a,a.b,e⟩]:LV)} f a h λm=>
 k m h) (
 k {g with c:=g.c++([AQ ⟨f,a.a,a.b,e⟩]:LV)} h)) (
 br (!e) (
 dM _ g f a h λi=>
 k i h) (
 k g h))))
def bL:gr:=NK bR dw kK ja uh dM
def UJ (F:gr):GT:=λO s k=>F O (fy s 0) (lS s 4) (fQ s 5) (lB s 7) (λb a=>k (.tup [Ci b,MF a]))
abbrev tY (F:gr):WT:=WU f1u (UJ F)
theorem t0b (bR:jA)(dw:oa)(kK:Cc)(ja:vM)(uh:KL)(dM:oL):KU [(193,vR bR),(67,Dr dw),(90,WV kK),(218,PE ja),(56,l0n uh),(219,Do dM)] a_ 184 Tryz.f184 f1u (UJ (NK bR dw kK ja uh dM )):=λ_ _ _=>by kernel_rfl
theorem nq:aC D 184 (tY bL):=aB Tryz.func184 (tc pX (tc wZ (tc JS (tc Lx (tc c0j (tc AE tn)))))) (t0b bR dw kK ja uh dM )
abbrev eO:Type 1:=(O:Type)->U0->(U19->U0->Option O)->Option O
def xW (bm:bA)(aD:av)(ed:bD)(bX:gY)(cG:oB)(aY:dc)(mB:xm)(ak:bc)(bL:gr):eO:=λO c k=>
 bm _ c λl1 v=>
 aD _ 20 v λu r=>
 bM Xq (λa=>
 br (decide (a.2.2.1<a.2.1)) (
 ci a.2.2.1 a.1 <|
 fO a.1 a.2.2.1.toNat 0 λz=>
 ed _ a.2.2.2.2.2.2 λy x=>
 bX _ x λs h=>
 cG _ s λi=>
 aY _ [.int .i64 0,.int .i64 5] h λj f=>
 mB _ a.2.2.2.2.1 ⟨[104,111,109,101],z⟩ ⟨200,1,y,j,false,i⟩ λo t=>
 some (.inl (QS (a.1,a.2.1,wi (a.2.2.1+1),a.2.2.2.1,o,a.2.2.2.2.2.1,f)))) (
 some (.inr (0,Yh (a.2.2.2.1,a.2.2.2.2.1,a.2.2.2.2.2.1,a.2.2.2.2.2.2))))) (QS ([.str [105,110,100,101,120],.str [110,101,120,116]],(nL ([.str [105,110,100,101,120],.str [110,101,120,116]]:LV)),0,0,l1,u,r)) λr16=>
 wx o0v r16.2 λd=>
 aD _ 3 d.2.2.2 λg p=>
 bM Py (λb=>
 br (decide (b.1>0)) (
 ak _ b.2.2.2 λn m=>
 bL _ b.2.2.1 [104,111,109,101] n false λq w=>
 some (.inl (EY (wi (b.1-1),b.2.1,q,m)))) (
 some (.inr (0,uE (b.2.1,b.2.2.1,b.2.2.2))))) (EY (g,d.1,⟨d.2.1,[],[],d.2.2.1⟩,p)) λl=>
 wx D7 l.2 λe=>
 k e.2.1 e.2.2
def cz:eO:=xW bm aD ed bX cG aY mB ak bL
def PR:aH:=λi=>aL i [] [(3,[(.exit 0,ug 53 54 [(0,.ptr 53 0),(2,.ptr 2 0),(3,.ptr 3 0)] [(2,.agg [.nil,.nil,.nil,.int .i64 0]),(3,.agg [.own 1000000 2 .clean [],.nil,.nil,.int .i64 0]),(53,.agg [.sl 1 true [],.int .i64 0,.int .i64 0])])]),(9,[(.exit 2,ug 53 54 [(2,.ptr 2 0),(3,.ptr 3 0)] [(2,.agg [.nil,.nil,.nil,.int .i64 0]),(3,.agg [.own 1000000 2 .clean [],.own 1000001 10 .flat [],.own 1000002 4 .flat [],.int .i64 0]),(53,.agg [.sl 1 true [],.int .i64 0,.int .i64 0])])])]
def tQ (F:eO):GT:=λO s k=>F O (fx s 0) (λb a=>k (.tup [Ci b,ol a]))
abbrev xr (F:eO):WT:=WU f1v (tQ F)
theorem Qk (bm:bA)(aD:av)(ed:bD)(bX:gY)(cG:oB)(aY:dc)(mB:xm)(ak:bc)(bL:gr):KI [(49,ah (vU bm)),(53,ah (cX aD)),(77,ah (Ds ed)),(106,ah (tX bX)),(105,BO cG),(57,ah (mH aY)),(74,h0m mB),(59,ah (mI ak)),(184,tY bL)] PR 138 ⟨[.pt],53,1,false⟩ Tryz.f138 f1v (tQ (xW bm aD ed bX cG aY mB ak bL )):=λ_ _ _=>by kernel_rfl
theorem zx:aC D 138 (ah (xr cz)):=aO Tryz.func138 (tc uR (tc ba (tc FD (tc uP (tc zp (tc kA (tc Q7 (tc kB (tc nq tn))))))))) (Qk bm aD ed bX cG aY mB ak bL )
abbrev Aa:Type 1:=(O:Type)->LV->Bool->(U20->Option O)->Option O
def Ms (dV:bT)(jL:u9):Aa:=λO l c k=>
 dV _ l λl1=>
 jL _  λd=>
 k ⟨l1,[],[],0,d.a,d.b,false,[],[],false,[],[],[],[],[],[],false,[],[],[],[],[],0,0,0,0,[],[],false,[],[],0,c⟩
def qO:Aa:=Ms dV jL
def Tl (F:Aa):GT:=λO s k=>F O (lL s 0) (lB s 1) (λa=>k (b1e a))
abbrev VX (F:Aa):WT:=WU f1w (Tl F)
theorem r0y (dV:bT)(jL:u9):KU [(107,DT dV),(133,Ou jL)] a_ 137 Tryz.f137 f1w (Tl (Ms dV jL )):=λ_ _ _=>by kernel_rfl
theorem Zr:aC D 137 (VX qO):=aB Tryz.func137 (tc zq (tc LZ tn)) (r0y dV jL )
def xX (aD:av):bA:=λO c k=>
 aD _ 5 c λf e=>
 bM Pz (λa=>
 br (decide (a.2.1>0)) (
 aD _ 120 a.2.2 λd g=>
 ca a.1 ([.int .i64 (wi (d-1))]:LV) 8 <|
 some (.inl (EZ (a.1++([.int .i64 (wi (d-1))]:LV),wi (a.2.1-1),g)))) (
 some (.inr (0,Cd (a.1,a.2.2))))) (EZ ([],f,e)) λr6=>
 wx S5 r6.2 λb=>
 k b.1 b.2
def fT:bA:=xX aD
def PS:aH:=λi=>aL i [] [(3,[(.exit 0,ug 19 20 [(3,.own 1000000 1 .flat [])] [(19,.agg [.sl 1 true [],.int .i64 0,.int .i64 0])])])]
abbrev DY (F:bA):WT:=WU f1x (tR F)
theorem Ql (aD:av):KI [(53,ah (cX aD))] PS 140 ⟨[.pt],19,1,false⟩ Tryz.f140 f1x (tR (xX aD )):=λ_ _ _=>by kernel_rfl
theorem JC:aC D 140 (ah (DY fT)):=aO Tryz.func140 (tc ba tn) (Ql aD )
abbrev m0:Type 1:=(O:Type)->Int->U0->(LV->U0->Option O)->Option O
def xY (aD:av):m0:=λO b c k=>
 aD _ b c λg f=>
 bM Pz (λa=>
 br (decide (a.2.1>0)) (
 aD _ 7 a.2.2 λe h=>
 ca a.1 ([.int .i64 (wi (e-1))]:LV) 8 <|
 some (.inl (EZ (a.1++([.int .i64 (wi (e-1))]:LV),wi (a.2.1-1),h)))) (
 some (.inr (0,Cd (a.1,a.2.2))))) (EZ ([],g,f)) λr6=>
 wx S5 r6.2 λd=>
 k d.1 d.2
def fU:m0:=xY aD
def PT:aH:=λi=>aL i [] [(3,[(.exit 0,ug 22 23 [(5,.own 1000000 1 .flat [])] [(22,.agg [.sl 1 true [],.int .i64 0,.int .i64 0])])])]
def Cr (F:m0):GT:=λO s k=>F O (lI s 0) (fx s 1) (λb a=>k (.tup [.own 0 1 .flat b,ol a]))
abbrev DZ (F:m0):WT:=WU f1y (Cr F)
theorem Qm (aD:av):KI [(53,ah (cX aD))] PT 141 ⟨[.pt,.data],22,1,false⟩ Tryz.f141 f1y (Cr (xY aD )):=λ_ _ _=>by kernel_rfl
theorem JD:aC D 141 (ah (DZ fU)):=aO Tryz.func141 (tc ba tn) (Qm aD )
def VQ:dq:=λO p k=>
 k p.v
def nW:dq:=VQ
theorem i1m:KU [] a_ 41 Tryz.f41 kq (AV (VQ )):=λ_ _ _=>by kernel_rfl
theorem Q4:aC D 41 (mG nW):=aB Tryz.func41 tn (i1m )
def Hk (nW:dq):dq:=λO p k=>
 nW _ p λa=>
 k a
def jb:dq:=Hk nW
theorem u0b (nW:dq):KU [(41,mG nW)] a_ 220 Tryz.f220 kq (AV (Hk nW )):=λ_ _ _=>by kernel_rfl
theorem Ly:aC D 220 (mG jb):=aB Tryz.func220 (tc Q4 tn) (u0b nW )
abbrev Ay:Type 1:=(O:Type)->U17->Int->(U17->Option O)->Option O
def No (bq:fv)(aU:dK):Ay:=λO t i k=>
 bq _ t λb=>
 aU _ i 0 (wi ((nL t.a)-1)) λe=>
 br (!e) (
 k b) (
 ci i b.a <|
 bU b.a i.toNat 24 [.bool false] λc=>
 ci i c <|
 bU c i.toNat 2 (k1x ⟨[],[],false,[],[],[],[],[],[],false,[],[],[],[],[],0,0,0,0,[],[],false⟩).cells λd=>
 k {b with a:=d})
def n_:Ay:=No bq aU
def Uf (F:Ay):GT:=λO s k=>F O (iH s 0) (lI s 2) (λa=>k (f0o a))
abbrev Vs (F:Ay):WT:=WU i0w (Uf F)
theorem u0c (bq:fv)(aU:dK):KU [(181,ro bq),(65,ko aU)] a_ 221 Tryz.f221 i0w (Uf (No bq aU )):=λ_ _ _=>by kernel_rfl
theorem a0l:aC D 221 (Vs n_):=aB Tryz.func221 (tc s7 (tc eI tn)) (u0c bq aU )
abbrev Az:Type 1:=(O:Type)->U17->(Int->Option O)->Option O
def Np:Az:=λO t k=>
 bM Xt (λb=>
 br (decide (b.2.1<(nL b.2.2.a))) (
 c0 b.2.1 <|
 jw b.2.2.a b.2.1.toNat λd=>
 br d.y (
 some (.inl (Ii (wi (b.1+1),wi (b.2.1+1),b.2.2)))) (
 some (.inl (Ii (b.1,wi (b.2.1+1),b.2.2))))) (
 some (.inr (0,cY b.1)))) (Ii (0,0,t)) λr5=>
 wx iX r5.2 λc=>
 k c
def om:Az:=Np
def WY:aH:=λi=>aL i [] [(3,[(.exit 0,xk 21 [(3,.int .i64 0)] [])])]
def Ug (F:Az):GT:=λO s k=>F O (iH s 0) (λa=>k (.int .i64 a))
abbrev Vt (F:Az):WT:=WU xO (Ug F)
theorem u0d:KU [] WY 222 Tryz.f222 xO (Ug (Np )):=λ_ _ _=>by kernel_rfl
theorem a0m:aC D 222 (Vt om):=aB Tryz.func222 tn (u0d )
def NM (bq:fv)(aU:dK)(jb:dq)(n_:Ay)(om:Az):fv:=λO t k=>
 bq _ t λK=>
 mq (λ(M:U17)=>
 bM IN (λz=>
 br (decide (z.1<(nL z.2.2.2.a))) (
 om _ z.2.2.2 λE=>
 br (decide (E>3)) (
 ci z.1 z.2.2.2.a <|
 Yz z.2.2.2.a z.1.toNat 24 λG=>
 br G (
 br (z.1 != z.2.1.b) (
 n_ _ z.2.2.2 z.1 λI=>
 some (.inl (nC (wi (z.1+1),z.2.1,z.2.2.1,I)))) (
 some (.inl (nC (wi (z.1+1),z.2.1,z.2.2.1,z.2.2.2))))) (
 some (.inl (nC (wi (z.1+1),z.2.1,z.2.2.1,z.2.2.2))))) (
 some (.inl (nC (wi (z.1+1),z.2.1,z.2.2.1,z.2.2.2))))) (
 some (.inr (0,uD (z.2.2.1,z.2.2.2))))) (nC (0,t,0,M)) λr17=>
 wx D6 r17.2 λB=>
 k B.2) λI1=>
 fB (bM IN (λy=>
 br (decide (y.1<(nL y.2.2.2.a))) (
 om _ y.2.2.2 λJ=>
 br (decide (J>3)) (
 ci y.1 y.2.2.2.a <|
 Yz y.2.2.2.a y.1.toNat 24 λD=>
 br D (
 br (y.1 != y.2.1.b) (
 n_ _ y.2.2.2 y.1 λF=>
 some (.inl (nC (wi (y.1+1),y.2.1,y.2.2.1,F)))) (
 some (.inl (nC (wi (y.1+1),y.2.1,y.2.2.1,y.2.2.2))))) (
 some (.inl (nC (wi (y.1+1),y.2.1,y.2.2.1,y.2.2.2))))) (
 some (.inl (nC (wi (y.1+1),y.2.1,y.2.2.1,y.2.2.2))))) (
 some (.inr (0,uD (y.2.2.1,y.2.2.2))))) (nC (0,t,0,K)) λC=>
 wx D6 C.2 λH=>
 k H.2) λi0a=>
 aU _ t.b 0 (wi ((nL t.a)-1)) λP=>
 br P (
 c0 t.b <|
 jw t.a t.b.toNat λA=>
 jb _ ⟨A.c,A.d,A.e,A.f,A.g,A.h,A.i,A.j,A.k,A.l,A.m,A.n,A.o,A.p,A.q,A.r,A.s,A.t,A.u,A.v,A.w,A.x⟩ λN=>
 br (!N) (
 n_ _ K t.b λL=>
 I1 L) (
 i0a)) (
 i0a)
def jU:fv:=NM bq aU jb n_ om
def m0n:aH:=λi=>aL i [] [(5,[(.exit 0,xk 57 [(2,.ptr 2 0),(3,.ptr 3 0)] [(2,.agg [.nil,.int .i64 0]),(3,.agg [.own 1000000 25 .clean [],.int .i64 0])])])]
theorem t0c (bq:fv)(aU:dK)(jb:dq)(n_:Ay)(om:Az):KU [(181,ro bq),(65,ko aU),(220,mG jb),(221,Vs n_),(222,Vt om)] m0n 185 Tryz.f185 xO (MK (NM bq aU jb n_ om )):=λ_ _ _=>by kernel_rfl
theorem Lp:aC D 185 (ro jU):=aB Tryz.func185 (tc s7 (tc eI (tc Ly (tc a0l (tc a0m tn))))) (t0c bq aU jb n_ om )
def Ny (kY:AW)(sK:BN):T4:=λO l k=>
 bM XC (λb=>
 br (decide (b.2<(nL b.1))) (
 c0 b.2 <|
 wM b.1 b.2.toNat λf=>
 kY _ f λh=>
 br (!h) (
 some (.inr (1,D_ (b.1,false)))) (
 c0 b.2 <|
 wM b.1 b.2.toNat λc=>
 sK _ b.1 c.a λg=>
 br (g != b.2) (
 some (.inr (1,D_ (b.1,false)))) (
 some (.inl (HC (b.1,wi (b.2+1))))))) (
 some (.inr (0,fo b.1)))) (HC (l,0)) λr7=>
 if r7.1=0 then
 wx ru r7.2 λd=>
 k (decide ((nL d)<=4))
 else
 wx XE r7.2 λe=>
 k e.2
def qt:T4:=Ny kY sK
def n0a:aH:=λi=>aL i [] [(2,[(.exit 0,xk 30 [(0,.sl 2 false [])] []),(.ret,xk 30 [(0,.sl 2 false []),(2,.bool false)] [])])]
abbrev Vz (F:T4):WT:=WU i0x (G4 F)
theorem u0l (kY:AW)(sK:BN):KU [(108,Ok kY),(89,h0o sK)] n0a 230 Tryz.f230 i0x (G4 (Ny kY sK )):=λ_ _ _=>by kernel_rfl
theorem a0u:aC D 230 (Vz qt):=aB Tryz.func230 (tc Zh (tc c0o tn)) (u0l kY sK )
abbrev vK:Type 1:=(O:Type)->U19->(Bool->Option O)->Option O
def NX (qt:T4)(i_:T4)(aU:dK):vK:=λO n k=>
 qt _ n.a λe=>
 br e (
 i_ _ n.b λf=>
 br f (
 br (decide ((nL n.c)<=400)) (
 aU _ n.d 0 999999998000 λg=>
 k g) (
 k false)) (
 k false)) (
 k false)
def jY:vK:=NX qt i_ aU
def US (F:vK):GT:=λO s k=>F O (fy s 0) (λa=>k (.bool a))
abbrev PC (F:vK):WT:=WU Sw (US F)
theorem t0m (qt:T4)(i_:T4)(aU:dK):KU [(230,Vz qt),(179,O8 i_),(65,ko aU)] a_ 195 Tryz.f195 Sw (US (NX qt i_ aU )):=λ_ _ _=>by kernel_rfl
theorem Lu:aC D 195 (PC jY):=aB Tryz.func195 (tc a0u (tc Lm (tc eI tn))) (t0m qt i_ aU )
abbrev A1:Type 1:=(O:Type)->U17->(Bool->Option O)->Option O
def Nq (aU:dK):A1:=λO t k=>
 bM D6 (λe=>
 br (decide (e.1<(nL e.2.a))) (
 c0 e.1 <|
 jw e.2.a e.1.toNat λm=>
 br m.y (
 c0 e.1 <|
 jw e.2.a e.1.toNat λi=>
 c0 e.1 <|
 jw e.2.a e.1.toNat λh=>
 br (!(q0 ⟨i.a,i.b⟩ ⟨h.c,h.d⟩)) (
 some (.inr (1,Ym (false,e.2)))) (
 some (.inl (uD (wi (e.1+1),e.2))))) (
 some (.inl (uD (wi (e.1+1),e.2))))) (
 some (.inr (0,Yl e.2)))) (uD (0,t)) λr6=>
 if r6.1=0 then
 wx o0z r6.2 λf=>
 br (decide ((nL f.a)<=6)) (
 br ((nL f.a)==0) (
 br (f.b==(-1)) (
 k true) (
 aU _ f.b 0 (wi ((nL f.a)-1)) λl=>
 k l)) (
 aU _ f.b 0 (wi ((nL f.a)-1)) λg=>
 k g)) (
 k false)
 else
 wx p0a r6.2 λj=>
 k j.1
def qn:A1:=Nq aU
def m0x:aH:=λi=>aL i [] [(2,[(.exit 0,xk 57 [(1,.ptr 1 0)] [(1,.agg [.sl 25 false [],.int .i64 0])]),(.ret,xk 57 [(1,.ptr 1 0),(2,.bool false)] [(1,.agg [.sl 25 false [],.int .i64 0])])])]
def Uh (F:A1):GT:=λO s k=>F O (iH s 0) (λa=>k (.bool a))
abbrev Vu (F:A1):WT:=WU xO (Uh F)
theorem u0e (aU:dK):KU [(65,ko aU)] m0x 223 Tryz.f223 xO (Uh (Nq aU )):=λ_ _ _=>by kernel_rfl
theorem a0o:aC D 223 (Vu qn):=aB Tryz.func223 (tc eI tn) (u0e aU )
abbrev rk:Type 1:=(O:Type)->U20->(Bool->Option O)->Option O
def NN (jY:vK)(qn:A1):rk:=λO w k=>
 jY _ ⟨w.a,w.b,w.c,w.d⟩ λh=>
 br h (
 qn _ ⟨w.e,w.f⟩ λg=>
 k g) (
 k false)
def fJ:rk:=NN jY qn
def UK (F:rk):GT:=λO s k=>F O (uU s 0) (λa=>k (.bool a))
abbrev Hu (F:rk):WT:=WU Sx (UK F)
theorem t0d (jY:vK)(qn:A1):KU [(195,PC jY),(223,Vu qn)] a_ 186 Tryz.f186 Sx (UK (NN jY qn )):=λ_ _ _=>by kernel_rfl
theorem E7:aC D 186 (Hu fJ):=aB Tryz.func186 (tc Lu (tc a0o tn)) (t0d jY qn )
abbrev A2:Type 1:=(O:Type)->U21->(U21->Option O)->Option O
def Nr (a8:dH)(dV:bT):A2:=λO h k=>
 a8 _ ⟨h.b,h.c,h.d,h.e,h.f,h.g,h.h,h.i,h.j,h.k,h.l,h.m,h.n,h.o,h.p,h.q,h.r,h.s,h.t,h.u,h.v,h.w⟩ λA=>
 ca ([]:LV) h.x 96 <|
 dV _ h.y λl2=>
 k ⟨h.a,A.a,A.b,A.c,A.d,A.e,A.f,A.g,A.h,A.i,A.j,A.k,A.l,A.m,A.n,A.o,A.p,A.q,A.r,A.s,A.t,A.u,A.v,([]:LV)++h.x,l2,h.z⟩
def qo:A2:=Nr a8 dV
def Ui (F:A2):GT:=λO s k=>F O (FT s 0) (λa=>k (l1a a))
abbrev Vv (F:A2):WT:=WU f1z (Ui F)
theorem u0f (a8:dH)(dV:bT):KU [(79,ng a8),(107,DT dV)] a_ 224 Tryz.f224 f1z (Ui (Nr a8 dV )):=λ_ _ _=>by kernel_rfl
theorem a0p:aC D 224 (Vv qo):=aB Tryz.func224 (tc iC (tc zq tn)) (u0f a8 dV )
abbrev rl:Type 1:=(O:Type)->U20->(U20->Option O)->Option O
def NO (bR:jA)(bq:fv)(qo:A2):rl:=λO w k=>
 bR _ ⟨w.a,w.b,w.c,w.d⟩ λB=>
 bq _ ⟨w.e,w.f⟩ λC=>
 qo _ ⟨w.g,w.h,w.i,w.j,w.k,w.l,w.m,w.n,w.o,w.p,w.q,w.r,w.s,w.t,w.u,w.v,w.w,w.x,w.y,w.z,w.aa,w.ab,w.ac,w.ad,w.ae,w.af⟩ λA=>
 k ⟨B.a,B.b,B.c,B.d,C.a,C.b,A.a,A.b,A.c,A.d,A.e,A.f,A.g,A.h,A.i,A.j,A.k,A.l,A.m,A.n,A.o,A.p,A.q,A.r,A.s,A.t,A.u,A.v,A.w,A.x,A.y,A.z,w.ag⟩
def dm:rl:=NO bR bq qo
def UL (F:rl):GT:=λO s k=>F O (uU s 0) (λa=>k (b1e a))
abbrev Hv (F:rl):WT:=WU Sx (UL F)
theorem t0e (bR:jA)(bq:fv)(qo:A2):KU [(193,vR bR),(181,ro bq),(224,Vv qo)] a_ 187 Tryz.f187 Sx (UL (NO bR bq qo )):=λ_ _ _=>by kernel_rfl
theorem E8:aC D 187 (Hv dm):=aB Tryz.func187 (tc pX (tc s7 (tc a0p tn))) (t0e bR bq qo )
abbrev rn:Type 1:=(O:Type)->U17->(U8->Bool->Option O)->Option O
def Ns (aU:dK)(a8:dH):rn:=λO t k=>
 fB (c0 t.b <|
 jw t.a t.b.toNat λz=>
 a8 _ ⟨z.c,z.d,z.e,z.f,z.g,z.h,z.i,z.j,z.k,z.l,z.m,z.n,z.o,z.p,z.q,z.r,z.s,z.t,z.u,z.v,z.w,z.x⟩ λC=>
 k C true) λj6=>
 aU _ t.b 0 (wi ((nL t.a)-1)) λA=>
 br (!A) (
 k ⟨[],[],false,[],[],[],[],[],[],false,[],[],[],[],[],0,0,0,0,[],[],false⟩ false) (
 c0 t.b <|
 jw t.a t.b.toNat λB=>
 br (!B.y) (
 k ⟨[],[],false,[],[],[],[],[],[],false,[],[],[],[],[],0,0,0,0,[],[],false⟩ false) (
 j6))
def qp:rn:=Ns aU a8
def MM (F:rn):GT:=λO s k=>F O (iH s 0) (λb a=>k (.tup [GU b,.bool a]))
abbrev Hw (F:rn):WT:=WU xO (MM F)
theorem u0g (aU:dK)(a8:dH):KU [(65,ko aU),(79,ng a8)] a_ 225 Tryz.f225 xO (MM (Ns aU a8 )):=λ_ _ _=>by kernel_rfl
theorem a0q:aC D 225 (Hw qp):=aB Tryz.func225 (tc eI (tc iC tn)) (u0g aU a8 )
def NP (qp:rn)(jb:dq):rn:=λO t k=>
 qp _ t λa b=>
 br (!b) (
 k ⟨[],[],false,[],[],[],[],[],[],false,[],[],[],[],[],0,0,0,0,[],[],false⟩ false) (
 jb _ a λc=>
 br (!c) (
 k ⟨[],[],false,[],[],[],[],[],[],false,[],[],[],[],[],0,0,0,0,[],[],false⟩ false) (
 k a true))
def qc:rn:=NP qp jb
theorem t0f (qp:rn)(jb:dq):KU [(225,Hw qp),(220,mG jb)] a_ 188 Tryz.f188 xO (MM (NP qp jb )):=λ_ _ _=>by kernel_rfl
theorem Z8:aC D 188 (Hw qc):=aB Tryz.func188 (tc a0q (tc Ly tn)) (t0f qp jb )
abbrev vH:Type 1:=(O:Type)->U17->(U5->Bool->Option O)->Option O
def NQ (aU:dK):vH:=λO t k=>
 aU _ t.b 0 (wi ((nL t.a)-1)) λd=>
 br (!d) (
 k ⟨[],[]⟩ false) (
 c0 t.b <|
 jw t.a t.b.toNat λc=>
 k ⟨c.a,c.b⟩ true)
def jV:vH:=NQ aU
def UM (F:vH):GT:=λO s k=>F O (iH s 0) (λb a=>k (.tup [w2 b,.bool a]))
abbrev O_ (F:vH):WT:=WU xO (UM F)
theorem t0g (aU:dK):KU [(65,ko aU)] a_ 189 Tryz.f189 xO (UM (NQ aU )):=λ_ _ _=>by kernel_rfl
theorem Lq:aC D 189 (O_ jV):=aB Tryz.func189 (tc eI tn) (t0g aU )
abbrev A_:Type 1:=(O:Type)->LV->LV->(Bool->Option O)->Option O
def OB:A_:=λO a b k=>
 br ((nL a) != (nL b)) (
 k false) (
 bM vl (λd=>
 br (decide (d.2.2<(nL d.1))) (
 fB (bM Xu (λc=>
 c0 c.2.2.1 <|
 wM c.1 c.2.2.1.toNat λl=>
 br (decide (c.2.2.2<(nL l.b))) (
 c0 c.2.2.1 <|
 wM c.1 c.2.2.1.toNat λn=>
 c0 c.2.2.2 <|
 Ce n.b c.2.2.2.toNat λh=>
 c0 c.2.2.1 <|
 wM c.2.1 c.2.2.1.toNat λi=>
 c0 c.2.2.2 <|
 Ce i.b c.2.2.2.toNat λj=>
 br (!(q1 h j)) (
 some (.inr (1,Yn (c.1,c.2.1,false,c.2.2.1)))) (
 some (.inl (QU (c.1,c.2.1,c.2.2.1,wi (c.2.2.2+1)))))) (
 some (.inr (0,ld (c.1,c.2.1,c.2.2.1))))) (QU (d.1,d.2.1,d.2.2,0)) λr13=>
 if r13.1=0 then
 wx vl r13.2 λe=>
 some (.inl (ld (e.1,e.2.1,wi (e.2.2+1))))
 else
 wx p0b r13.2 λf=>
 some (.inr (1,lf f.2.2.1))) λLG=>
 c0 d.2.2 <|
 wM d.1 d.2.2.toNat λp=>
 c0 d.2.2 <|
 wM d.2.1 d.2.2.toNat λo=>
 br (!(p.a==o.a)) (
 some (.inr (1,lf false))) (
 c0 d.2.2 <|
 wM d.1 d.2.2.toNat λm=>
 c0 d.2.2 <|
 wM d.2.1 d.2.2.toNat λq=>
 br ((nL m.b) != (nL q.b)) (
 some (.inr (1,lf false))) (
 LG))) (
 some (.inr (0,[])))) (ld (a,b,0)) λr17=>
 if r17.1=0 then
 k true
 else
 wx Bc r17.2 λg=>
 k g)
def q_:A_:=OB
def n0f:aH:=λi=>aL i [] [(4,[(.exit 0,xk 71 [] []),(.ret,xk 71 [(4,.bool false)] [])]),(9,[(.exit 2,xk 71 [(0,.sl 2 false []),(1,.sl 2 false []),(5,.int .i64 0)] []),(.ret,xk 71 [(0,.sl 2 false []),(1,.sl 2 false []),(4,.bool false),(5,.int .i64 0)] [])])]
def Us (F:A_):GT:=λO s k=>F O (lL s 0) (lL s 1) (λa=>k (.bool a))
abbrev V9 (F:A_):WT:=WU g1a (Us F)
theorem u0t:KU [] n0f 244 Tryz.f244 g1a (Us (OB )):=λ_ _ _=>by kernel_rfl
theorem b0e:aC D 244 (V9 q_):=aB Tryz.func244 tn (u0t )
abbrev vN:Type 1:=(O:Type)->U19->U21->(Bool->Option O)->Option O
def Nu (q_:A_):vN:=λO n h k=>
 br (!h.a) (
 k true) (
 br (h.z != n.d) (
 k true) (
 q_ _ h.y n.a λb=>
 k (!b)))
def jc:vN:=Nu q_
def Uj (F:vN):GT:=λO s k=>F O (fy s 0) (FT s 4) (λa=>k (.bool a))
abbrev PF (F:vN):WT:=WU i0y (Uj F)
theorem u0h (q_:A_):KU [(244,V9 q_)] a_ 226 Tryz.f226 i0y (Uj (Nu q_ )):=λ_ _ _=>by kernel_rfl
theorem Lz:aC D 226 (PF jc):=aB Tryz.func226 (tc b0e tn) (u0h q_ )
abbrev A3:Type 1:=(O:Type)->U19->U21->(U19->U8->Bool->Option O)->Option O
def Nv (bR:jA)(jc:vN)(dM:oL)(fX:dH)(eT:bV)(bL:gr)(fY:nY):A3:=λO n h k=>
 bR _ n λK=>
 jc _ n h λN=>
 br N (
 k K ⟨[],[],false,[],[],[],[],[],[],false,[],[],[],[],[],0,0,0,0,[],[],false⟩ false) (
 bM Xv (λz=>
 br (decide (z.2.1<(nL z.2.2.1.x))) (
 c0 z.2.1 <|
 Em z.2.2.1.x z.2.1.toNat λJ=>
 c0 z.2.1 <|
 Em z.2.2.1.x z.2.1.toNat λC=>
 dM _ z.2.2.2.2.2.2.2.2.2.2.2.2.2.2.2 z.1 ⟨J.a,J.b⟩ ⟨C.c,C.d,C.e,C.f,C.g,C.h⟩ λM=>
 some (.inl (QV (z.1,wi (z.2.1+1),z.2.2.1,z.2.2.2.1,z.2.2.2.2.1,z.2.2.2.2.2.1,z.2.2.2.2.2.2.1,z.2.2.2.2.2.2.2.1,z.2.2.2.2.2.2.2.2.1,z.2.2.2.2.2.2.2.2.2.1,z.2.2.2.2.2.2.2.2.2.2.1,z.2.2.2.2.2.2.2.2.2.2.2.1,z.2.2.2.2.2.2.2.2.2.2.2.2.1,z.2.2.2.2.2.2.2.2.2.2.2.2.2.1,z.2.2.2.2.2.2.2.2.2.2.2.2.2.2.1,M)))) (
 some (.inr (0,Yo (z.1,z.2.2.1,z.2.2.2.1,z.2.2.2.2.1,z.2.2.2.2.2.1,z.2.2.2.2.2.2.1,z.2.2.2.2.2.2.2.1,z.2.2.2.2.2.2.2.2.1,z.2.2.2.2.2.2.2.2.2.1,z.2.2.2.2.2.2.2.2.2.2.1,z.2.2.2.2.2.2.2.2.2.2.2.1,z.2.2.2.2.2.2.2.2.2.2.2.2.1,z.2.2.2.2.2.2.2.2.2.2.2.2.2.1,z.2.2.2.2.2.2.2.2.2.2.2.2.2.2.1,z.2.2.2.2.2.2.2.2.2.2.2.2.2.2.2))))) (QV (h.b,0,h,0,[],[],false,[],[],false,0,0,0,0,false,K)) λr7=>
 wx p0c r7.2 λA=>
 fX _ ⟨A.2.1.b,A.2.1.c,A.2.1.d,A.2.1.e,A.2.1.f,A.2.1.g,A.2.1.h,A.2.1.i,A.2.1.j,A.2.1.k,A.2.1.l,A.2.1.m,A.2.1.n,A.2.1.o,A.2.1.p,A.2.1.q,A.2.1.r,A.2.1.s,A.2.1.t,A.2.1.u,A.2.1.v,A.2.1.w⟩ λL=>
 bM Ka (λy=>
 br (decide (y.2.1<200)) (
 eT _ y.2.2.2.2.2.2.2.2.2.2.2.2.2.2.2 λB=>
 br ((nL B)==0) (
 some (.inr (0,sZ (y.2.2.1,y.2.2.2.1,y.2.2.2.2.1,y.2.2.2.2.2.1,y.2.2.2.2.2.2.1,y.2.2.2.2.2.2.2.1,y.2.2.2.2.2.2.2.2.1,y.2.2.2.2.2.2.2.2.2.1,y.2.2.2.2.2.2.2.2.2.2.1,y.2.2.2.2.2.2.2.2.2.2.2.1,y.2.2.2.2.2.2.2.2.2.2.2.2.1,y.2.2.2.2.2.2.2.2.2.2.2.2.2.1,y.2.2.2.2.2.2.2.2.2.2.2.2.2.2.1,y.2.2.2.2.2.2.2.2.2.2.2.2.2.2.2)))) (
 ci 0 B <|
 oN B 0 1 λH=>
 bL _ y.2.2.2.2.2.2.2.2.2.2.2.2.2.2.1 y.1 H false λE I=>
 ci 0 B <|
 oN B 0 1 λF=>
 fY _ y.2.2.2.2.2.2.2.2.2.2.2.2.2.2.2 F I λG=>
 some (.inl (EA (y.1,wi (y.2.1+1),y.2.2.1,y.2.2.2.1,y.2.2.2.2.1,y.2.2.2.2.2.1,y.2.2.2.2.2.2.1,y.2.2.2.2.2.2.2.1,y.2.2.2.2.2.2.2.2.1,y.2.2.2.2.2.2.2.2.2.1,y.2.2.2.2.2.2.2.2.2.2.1,y.2.2.2.2.2.2.2.2.2.2.2.1,y.2.2.2.2.2.2.2.2.2.2.2.2.1,y.2.2.2.2.2.2.2.2.2.2.2.2.2.1,E,G))))) (
 some (.inr (0,sZ (y.2.2.1,y.2.2.2.1,y.2.2.2.2.1,y.2.2.2.2.2.1,y.2.2.2.2.2.2.1,y.2.2.2.2.2.2.2.1,y.2.2.2.2.2.2.2.2.1,y.2.2.2.2.2.2.2.2.2.1,y.2.2.2.2.2.2.2.2.2.2.1,y.2.2.2.2.2.2.2.2.2.2.2.1,y.2.2.2.2.2.2.2.2.2.2.2.2.1,y.2.2.2.2.2.2.2.2.2.2.2.2.2.1,y.2.2.2.2.2.2.2.2.2.2.2.2.2.2.1,y.2.2.2.2.2.2.2.2.2.2.2.2.2.2.2))))) (EA (A.1,0,A.2.2.1,A.2.2.2.1,A.2.2.2.2.1,A.2.2.2.2.2.1,A.2.2.2.2.2.2.1,A.2.2.2.2.2.2.2.1,A.2.2.2.2.2.2.2.2.1,A.2.2.2.2.2.2.2.2.2.1,A.2.2.2.2.2.2.2.2.2.2.1,A.2.2.2.2.2.2.2.2.2.2.2.1,A.2.2.2.2.2.2.2.2.2.2.2.2.1,A.2.2.2.2.2.2.2.2.2.2.2.2.2.1,A.2.2.2.2.2.2.2.2.2.2.2.2.2.2,L)) λr17=>
 wx KZ r17.2 λD=>
 k D.2.2.2.2.2.2.2.2.2.2.2.2.1 D.2.2.2.2.2.2.2.2.2.2.2.2.2 true)
def qq:A3:=Nv bR jc dM fX eT bL fY
def m0y:aH:=λi=>aL i [] [(6,[(.exit 0,xk 80 [(3,.ptr 3 0),(4,.ptr 4 0),(5,.ptr 5 0),(7,.ptr 7 0),(8,.str [])] [(3,.agg [.bool false,.str [],.str [],.bool false,.sl 1 true [],.sl 1 true [],.sl 1 true [],.str [],.str [],.sl 4 false [],.bool false,.sl 4 false [],.sl 1 true [],.sl 8 true [],.sl 5 true [],.sl 2 true [],.int .i64 0,.int .i64 0,.int .i64 0,.int .i64 0,.sl 2 true [],.sl 1 true [],.bool false,.sl 8 true [],.sl 2 false [],.int .i64 0]),(4,.agg [.nil,.nil,.nil,.int .i64 0]),(5,.agg [.str [],.str [],.bool false,.nil,.nil,.nil,.str [],.str [],.nil,.bool false,.nil,.nil,.nil,.nil,.nil,.int .i64 0,.int .i64 0,.int .i64 0,.int .i64 0,.nil,.nil,.bool false]),(7,.agg [.own 1000000 2 .clean [],.own 1000001 10 .flat [],.own 1000002 4 .flat [],.int .i64 0])])]),(11,[(.exit 2,xk 80 [(4,.ptr 4 0),(5,.ptr 5 0),(7,.ptr 7 0),(10,.ptr 10 0)] [(4,.agg [.nil,.nil,.nil,.int .i64 0]),(5,.agg [.str [],.str [],.bool false,.nil,.nil,.nil,.str [],.str [],.nil,.bool false,.nil,.nil,.nil,.nil,.nil,.int .i64 0,.int .i64 0,.int .i64 0,.int .i64 0,.nil,.nil,.bool false]),(7,.agg [.own 1000000 2 .clean [],.own 1000001 10 .flat [],.own 1000002 4 .flat [],.int .i64 0]),(10,.agg [.str [],.str [],.bool false,.own 1000003 1 .flat [],.own 1000004 1 .flat [],.own 1000005 1 .flat [],.str [],.str [],.view 1000006 4 .clean [],.bool false,.own 1000007 4 .clean [],.view 1000008 1 .flat [],.own 1000009 8 .flat [],.own 1000010 5 .flat [],.own 1000011 2 .flat [],.int .i64 0,.int .i64 0,.int .i64 0,.int .i64 0,.own 1000012 2 .flat [],.own 1000013 1 .flat [],.bool false])])])]
def Uk (F:A3):GT:=λO s k=>F O (fy s 0) (FT s 4) (λb a c=>k (.tup [Ci b,i0m a,.bool c]))
abbrev Vw (F:A3):WT:=WU i0y (Uk F)
theorem u0i (bR:jA)(jc:vN)(dM:oL)(fX:dH)(eT:bV)(bL:gr)(fY:nY):KU [(193,vR bR),(226,PF jc),(219,Do dM),(52,PL fX),(54,KN eT),(184,tY bL),(55,PM fY)] m0y 227 Tryz.f227 i0y (Uk (Nv bR jc dM fX eT bL fY )):=λ_ _ _=>by kernel_rfl
theorem a0r:aC D 227 (Vw qq):=aB Tryz.func227 (tc pX (tc Lz (tc AE (tc B_ (tc yZ (tc nq (tc CA tn))))))) (u0i bR jc dM fX eT bL fY )
abbrev BC:Type 1:=(O:Type)->LU->LV->(LV->Option O)->Option O
def OF (e_:fw):BC:=λO s e k=>
 e_ _ (nL e) 7 λh=>
 bM Kc (λd=>
 br (decide (d.2.2.2.2.2<(nS d.1))) (
 bM Kb (λc=>
 br (decide (c.2.2.2.2.2.2.2<c.2.2.2.2.1)) (
 mq (λ(g:Bool)=>
 some (.inl (EB (c.1,c.2.1,c.2.2.1,c.2.2.2.1,c.2.2.2.2.1,c.2.2.2.2.2.1,g,wi (c.2.2.2.2.2.2.2+1))))) λj7=>
 br c.2.2.2.2.2.2.1 (
 j7 true) (
 c0 c.2.2.2.2.2.2.2 <|
 Iy c.2.1 c.2.2.2.2.2.2.2.toNat λf=>
 j7 (f==c.2.2.2.2.2.1))) (
 some (.inr (0,K1 (c.1,c.2.1,c.2.2.1,c.2.2.2.1,c.2.2.2.2.1,c.2.2.2.2.2.1,c.2.2.2.2.2.2.1))))) (EB (d.1,d.2.1,d.2.2.1,d.2.2.2.1,d.2.2.2.2.1,d.2.2.2.2.2,false,0)) λr8=>
 wx XF r8.2 λa=>
 br a.2.2.2.2.2.2 (
 cc a.2.2.2.1 a.2.2.2.2.2.1 (nS a.1) <|
 ca a.2.2.1 ([.str ((a.1.take a.2.2.2.2.2.1.toNat).drop a.2.2.2.1.toNat)]:LV) 16 <|
 some (.inl (zM (a.1,a.2.1,a.2.2.1++([.str ((a.1.take a.2.2.2.2.2.1.toNat).drop a.2.2.2.1.toNat)]:LV),a.2.2.2.2.2.1,a.2.2.2.2.1,wi (a.2.2.2.2.2.1+1))))) (
 some (.inl (zM (a.1,a.2.1,a.2.2.1,a.2.2.2.1,a.2.2.2.2.1,wi (a.2.2.2.2.2.1+1)))))) (
 some (.inr (0,EC (d.1,d.2.2.1,d.2.2.2.1))))) (zM (s,e,[],0,h,1)) λr14=>
 wx Pk r14.2 λb=>
 cc b.2.2 (nS b.1) (nS b.1) <|
 ca b.2.1 ([.str ((b.1.take ((nS b.1).toNat)).drop b.2.2.toNat)]:LV) 16 <|
 k (b.2.1++([.str ((b.1.take ((nS b.1).toNat)).drop b.2.2.toNat)]:LV))
def rD:BC:=OF e_
def n0h:aH:=λi=>aL i [] [(5,[(.exit 0,xk 50 [(0,.str []),(5,.own 1000000 1 .flat []),(6,.int .i64 0)] [])]),(9,[(.exit 2,xk 50 [(0,.str []),(1,.sl 1 true []),(5,.own 1000000 1 .flat []),(6,.int .i64 0),(7,.int .i64 0),(8,.int .i64 0),(9,.bool false)] [])])]
def Uv (F:BC):GT:=λO s k=>F O (lS s 0) (lL s 1) (λa=>k (.own 0 1 .flat a))
abbrev WB (F:BC):WT:=WU i0p (Uv F)
theorem u0x (e_:fw):KU [(183,rp e_)] n0h 250 Tryz.f250 i0p (Uv (OF e_ )):=λ_ _ _=>by kernel_rfl
theorem b0i:aC D 250 (WB rD):=aB Tryz.func250 (tc E6 tn) (u0x e_ )
abbrev BA:Type 1:=(O:Type)->U19->U5->LV->(U23->Bool->Option O)->Option O
def OC (bL:gr)(dW:oC)(rD:BC):BA:=λO n a y k=>
 bL _ n a.a a false λx z=>
 dW _ a z λw A=>
 br (!A) (
 k ⟨x.a,x.b,x.c,x.d,[],[],false,[],[],[],[],[],[],false,[],[],[],[],[],0,0,0,0,[],[],false,[],[],[]⟩ false) (
 rD _ z.c y λB=>
 k ⟨x.a,x.b,x.c,x.d,w.a,w.b,w.c,w.d,w.e,w.f,w.g,w.h,w.i,w.j,w.k,w.l,w.m,w.n,w.o,w.p,w.q,w.r,w.s,w.t,w.u,w.v,B,[],[]⟩ true)
def rA:BA:=OC bL dW rD
def Ut (F:BA):GT:=λO s k=>F O (fy s 0) (fQ s 4) (lL s 6) (λb a=>k (.tup [l1b b,.bool a]))
abbrev V_ (F:BA):WT:=WU g1b (Ut F)
theorem u0u (bL:gr)(dW:oC)(rD:BC):KU [(184,tY bL),(110,DU dW),(250,WB rD)] a_ 245 Tryz.f245 g1b (Ut (OC bL dW rD )):=λ_ _ _=>by kernel_rfl
theorem b0f:aC D 245 (V_ rA):=aB Tryz.func245 (tc nq (tc zt (tc b0i tn))) (u0u bL dW rD )
abbrev ki:Type 1:=(O:Type)->U23->(U23->Option O)->Option O
def OG (bR:jA)(a8:dH):ki:=λO l k=>
 bR _ ⟨l.a,l.b,l.c,l.d⟩ λB=>
 a8 _ ⟨l.e,l.f,l.g,l.h,l.i,l.j,l.k,l.l,l.m,l.n,l.o,l.p,l.q,l.r,l.s,l.t,l.u,l.v,l.w,l.x,l.y,l.z⟩ λA=>
 ca ([]:LV) l.aa 16 <|
 ca ([]:LV) l.ab 112 <|
 ca ([]:LV) l.ac 104 <|
 k ⟨B.a,B.b,B.c,B.d,A.a,A.b,A.c,A.d,A.e,A.f,A.g,A.h,A.i,A.j,A.k,A.l,A.m,A.n,A.o,A.p,A.q,A.r,A.s,A.t,A.u,A.v,([]:LV)++l.aa,([]:LV)++l.ab,([]:LV)++l.ac⟩
def bt:ki:=OG bR a8
def Uw (F:ki):GT:=λO s k=>F O (et s 0) (λa=>k (e1f a))
abbrev xu (F:ki):WT:=WU HG (Uw F)
theorem u0y (bR:jA)(a8:dH):KU [(193,vR bR),(79,ng a8)] a_ 251 Tryz.f251 HG (Uw (OG bR a8 )):=λ_ _ _=>by kernel_rfl
theorem s9:aC D 251 (xu bt):=aB Tryz.func251 (tc pX (tc iC tn)) (u0y bR a8 )
abbrev jB:Type 1:=(O:Type)->U23->(U23->Bool->Option O)->Option O
def OK (bt:ki)(kv:oc)(kx:dH)(fX:dH):jB:=λO l k=>
 bt _ l λC=>
 br ((nL l.aa)==0) (
 k C false) (
 B1 l.aa 0 λF=>
 kv _ ⟨l.e,l.f,l.g,l.h,l.i,l.j,l.k,l.l,l.m,l.n,l.o,l.p,l.q,l.r,l.s,l.t,l.u,l.v,l.w,l.x,l.y,l.z⟩ F λD=>
 cc 1 (nL C.aa) (nL C.aa) <|
 br ((nL ((C.aa.take ((nL C.aa).toNat)).drop 1))==0) (
 kx _ D λE=>
 fX _ E λB=>
 k ⟨C.a,C.b,C.c,C.d,B.a,B.b,B.c,B.d,B.e,B.f,B.g,B.h,B.i,B.j,B.k,B.l,B.m,B.n,B.o,B.p,B.q,B.r,B.s,B.t,B.u,B.v,(C.aa.take ((nL C.aa).toNat)).drop 1,C.ab,C.ac⟩ true) (
 fX _ D λA=>
 k ⟨C.a,C.b,C.c,C.d,A.a,A.b,A.c,A.d,A.e,A.f,A.g,A.h,A.i,A.j,A.k,A.l,A.m,A.n,A.o,A.p,A.q,A.r,A.s,A.t,A.u,A.v,(C.aa.take ((nL C.aa).toNat)).drop 1,C.ab,C.ac⟩ true))
def rH:jB:=OK bt kv kx fX
def Uy (F:jB):GT:=λO s k=>F O (et s 0) (λb a=>k (.tup [b1f b,.bool a]))
abbrev WD (F:jB):WT:=WU HG (Uy F)
theorem v0c (bt:ki)(kv:oc)(kx:dH)(fX:dH):KU [(251,xu bt),(75,PN kv),(78,ng kx),(52,PL fX)] a_ 255 Tryz.f255 HG (Uy (OK bt kv kx fX )):=λ_ _ _=>by kernel_rfl
theorem b0m:aC D 255 (WD rH):=aB Tryz.func255 (tc s9 (tc JQ (tc JR (tc B_ tn)))) (v0c bt kv kx fX )
def OP:bT:=λO l k=>
 bM vl (λc=>
 br (decide (c.2.2<(nL c.1))) (
 c0 c.2.2 <|
 wL c.1 c.2.2.toNat λd=>
 ca c.2.1 ([w2 ⟨d.a,d.b⟩]:LV) 32 <|
 some (.inl (ld (c.1,c.2.1++([w2 ⟨d.a,d.b⟩]:LV),wi (c.2.2+1))))) (
 some (.inr (0,fo c.2.1)))) (ld (l,[],0)) λr3=>
 wx ru r3.2 λe=>
 k e
def rM:bT:=OP
def n0m:aH:=λi=>aL i [] [(3,[(.exit 0,xk 21 [(3,.own 1000000 2 .flat [])] [])])]
abbrev WI (F:bT):WT:=WU g0n (HZ F)
theorem v0h:KU [] n0m 260 Tryz.f260 g0n (HZ (OP )):=λ_ _ _=>by kernel_rfl
theorem b0r:aC D 260 (WI rM):=aB Tryz.func260 tn (v0h )
abbrev BE:Type 1:=(O:Type)->LV->LV->(LV->Option O)->Option O
def OO (dL:oF):BE:=λO l done k=>
 bM Ke (λa=>
 br (decide (a.2.2.2<(nL a.1))) (
 c0 a.2.2.2 <|
 yO a.1 a.2.2.2.toNat λe=>
 dL _ a.2.1 ⟨e.b,e.c⟩ λg=>
 br (!g) (
 c0 a.2.2.2 <|
 yO a.1 a.2.2.2.toNat λd=>
 ca a.2.2.1 ([w7 d]:LV) 72 <|
 some (.inl (zN (a.1,a.2.1,a.2.2.1++([w7 d]:LV),wi (a.2.2.2+1))))) (
 some (.inl (zN (a.1,a.2.1,a.2.2.1,wi (a.2.2.2+1)))))) (
 some (.inr (0,fo a.2.2.1)))) (zN (l,done,[],0)) λr7=>
 wx ru r7.2 λf=>
 k f
def rL:BE:=OO dL
def n0l:aH:=λi=>aL i [] [(3,[(.exit 0,xk 30 [(5,.own 1000000 5 .flat [])] [])])]
def VB (F:BE):GT:=λO s k=>F O (lL s 0) (lL s 1) (λa=>k (.own 0 5 .flat a))
abbrev WH (F:BE):WT:=WU g1c (VB F)
theorem v0g (dL:oF):KU [(172,Dh dL)] n0l 259 Tryz.f259 g1c (VB (OO dL )):=λ_ _ _=>by kernel_rfl
theorem b0q:aC D 259 (WH rL):=aB Tryz.func259 (tc z_ tn) (v0g dL )
abbrev BK:Type 1:=(O:Type)->U8->(U5->Bool->Option O)->Option O
def Og (aU:dK):BK:=λO p k=>
 aU _ p.p 1 (nL p.m) λd=>
 br (!d) (
 k ⟨[],[]⟩ false) (
 c0 (wi (p.p-1)) <|
 pM p.m ((wi (p.p-1)).toNat) λa=>
 k ⟨a.b,a.c⟩ true)
def rc:BK:=Og aU
def VL (F:BK):GT:=λO s k=>F O (dr s 0) (λb a=>k (.tup [w2 b,.bool a]))
abbrev WR (F:BK):WT:=WU kq (VL F)
theorem v0y (aU:dK):KU [(65,ko aU)] a_ 279 Tryz.f279 kq (VL (Og aU )):=λ_ _ _=>by kernel_rfl
theorem c0f:aC D 279 (WR rc):=aB Tryz.func279 (tc eI tn) (v0y aU )
abbrev BH:Type 1:=(O:Type)->U8->U13->(Int->Option O)->Option O
def Oa (rc:BK):BH:=λO p r k=>
 fB (br (r.a==3) (
 k 1) (
 br (r.a==2) (
 k 2) (
 br (r.a==5) (
 k 3) (
 br (r.a==4) (
 k 4) (
 k 5))))) λj4=>
 rc _ p λe d=>
 br d (
 br (q0 e ⟨r.b,r.c⟩) (
 k 0) (
 j4)) (
 j4)
def ou:BH:=Oa rc
def VH (F:BH):GT:=λO s k=>F O (dr s 0) (Fz9 s 22) (λa=>k (.int .i64 a))
abbrev WN (F:BH):WT:=WU g1d (VH F)
theorem v0s (rc:BK):KU [(279,WR rc)] a_ 272 Tryz.f272 g1d (VH (Oa rc )):=λ_ _ _=>by kernel_rfl
theorem b0y:aC D 272 (WN ou):=aB Tryz.func272 (tc c0f tn) (v0s rc )
abbrev BF:Type 1:=(O:Type)->U8->LV->(Int->Option O)->Option O
def OQ (ou:BH):BF:=λO p l k=>
 bM Kf (λa=>
 br (decide (a.2.2.1<(nL a.1))) (
 br (decide (a.2.1<0)) (
 some (.inl (vq (a.1,a.2.2.1,wi (a.2.2.1+1),a.2.2.2)))) (
 c0 a.2.2.1 <|
 yO a.1 a.2.2.1.toNat λe=>
 c0 a.2.1 <|
 yO a.1 a.2.1.toNat λd=>
 ou _ a.2.2.2 e λc=>
 ou _ a.2.2.2 d λf=>
 br (decide (c<f)) (
 some (.inl (vq (a.1,a.2.2.1,wi (a.2.2.1+1),a.2.2.2)))) (
 some (.inl (vq (a.1,a.2.1,wi (a.2.2.1+1),a.2.2.2)))))) (
 some (.inr (0,cY a.2.1)))) (vq (l,(-1),0,p)) λr9=>
 wx iX r9.2 λb=>
 k b
def rO:BF:=OQ ou
def n0n:aH:=λi=>aL i [] [(3,[(.exit 0,xk 32 [(5,.int .i64 0)] [])])]
def VC (F:BF):GT:=λO s k=>F O (dr s 0) (lL s 22) (λa=>k (.int .i64 a))
abbrev WJ (F:BF):WT:=WU g1e (VC F)
theorem v0i (ou:BH):KU [(272,WN ou)] n0n 261 Tryz.f261 g1e (VC (OQ ou )):=λ_ _ _=>by kernel_rfl
theorem b0s:aC D 261 (WJ rO):=aB Tryz.func261 (tc b0y tn) (v0i ou )
end
end Go.Am

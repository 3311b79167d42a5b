/-
  Proved: lemmas for Rows.FnFormatsCardSaid.
-/
import Derived.Test.YtmkhgngckgcpeaaGreatDooruUp5
set_option linter.all false
set_option maxRecDepth 10000
namespace Go.Am
open Go Go.Proofs
noncomputable section
abbrev ji:Type 1:=(O:Type)->LV->U5->(Int->Option O)->Option O
def OW:ji:=λO l a k=>
 bM IK (λc=>
 br (decide (c.2.1<(nL c.1))) (
 c0 c.2.1 <|
 B3 c.1 c.2.1.toNat λd=>
 br (q0 ⟨d.a,d.b⟩ c.2.2) (
 some (.inr (1,cY c.2.1))) (
 some (.inl (yC (c.1,wi (c.2.1+1),c.2.2))))) (
 some (.inr (0,[])))) (yC (l,0,a)) λr3=>
 if r3.1=0 then
 k (-1)
 else
 wx iX r3.2 λe=>
 k e
def fK:ji:=OW
def Hb (F:ji):GT:=λO s k=>F O (lL s 0) (fQ s 1) (λa=>k (.int .i64 a))
abbrev H0 (F:ji):WT:=WU Jx (Hb F)
theorem v0o:KU [] n0v 267 Tryz.f267 Jx (Hb (OW )):=λ_ _ _=>by kernel_rfl
theorem E_:aC D 267 (H0 fK):=aB Tryz.func267 tn (v0o )
abbrev BG:Type 1:=(O:Type)->LV->U5->(LV->U2->Bool->Option O)->Option O
def OR (fK:ji)(kK:Cc):BG:=λO l a k=>
 ca ([]:LV) l 104 <|
 fK _ l a λi=>
 br (decide (i<0)) (
 kK _  λm=>
 k (([]:LV)++l) m false) (
 ci i (([]:LV)++l) <|
 bU (([]:LV)++l) i.toNat 8 [.bool true] λj=>
 c0 i <|
 B3 l i.toNat λb=>
 k j ⟨b.c,b.d,b.e,b.f,b.g,b.h⟩ true)
def rP:BG:=OR fK kK
def VD (F:BG):GT:=λO s k=>F O (lL s 0) (fQ s 1) (λb a c=>k (.tup [.own 0 9 .flat b,MF a,.bool c]))
abbrev WK (F:BG):WT:=WU Jx (VD F)
theorem v0j (fK:ji)(kK:Cc):KU [(267,H0 fK),(90,WV kK)] a_ 262 Tryz.f262 Jx (VD (OR fK kK )):=λ_ _ _=>by kernel_rfl
theorem b0t:aC D 262 (WK rP):=aB Tryz.func262 (tc E_ (tc JS tn)) (v0j fK kK )
def OX:ji:=λO l a k=>
 bM IK (λc=>
 br (decide (c.2.1<(nL c.1))) (
 c0 c.2.1 <|
 wL c.1 c.2.1.toNat λd=>
 br (q0 ⟨d.a,d.b⟩ c.2.2) (
 some (.inr (1,cY c.2.1))) (
 some (.inl (yC (c.1,wi (c.2.1+1),c.2.2))))) (
 some (.inr (0,[])))) (yC (l,0,a)) λr3=>
 if r3.1=0 then
 k (-1)
 else
 wx iX r3.2 λe=>
 k e
def jf:ji:=OX
abbrev PK (F:ji):WT:=WU f0r (Hb F)
theorem v0p:KU [] n0v 268 Tryz.f268 f0r (Hb (OX )):=λ_ _ _=>by kernel_rfl
theorem L2:aC D 268 (PK jf):=aB Tryz.func268 tn (v0p )
abbrev BI:Type 1:=(O:Type)->U2->(Int->Option O)->Option O
def Ob:BI:=λO x k=>
 k (wi ((nS x.c)+20))
def tO:BI:=Ob
def VI (F:BI):GT:=λO s k=>F O (sE s 0) (λa=>k (.int .i64 a))
abbrev WO (F:BI):WT:=WU Ss (VI F)
theorem v0t:KU [] a_ 273 Tryz.f273 Ss (VI (Ob )):=λ_ _ _=>by kernel_rfl
theorem b0z:aC D 273 (WO tO):=aB Tryz.func273 tn (v0t )
abbrev vO:Type 1:=(O:Type)->LV->U5->U2->Bool->(LV->Bool->Option O)->Option O
def OS (jf:ji)(tO:BI):vO:=λO l a x g k=>
 ca ([]:LV) l 112 <|
 fB (tO _ x λh=>
 ca (([]:LV)++l) ([tJ ⟨a.a,a.b,h,g,x.a,x.b,x.c,x.d,x.e,x.f⟩]:LV) 112 <|
 k ((([]:LV)++l)++([tJ ⟨a.a,a.b,h,g,x.a,x.b,x.c,x.d,x.e,x.f⟩]:LV)) true) λj4=>
 br (decide ((nL l) >= 3)) (
 k (([]:LV)++l) false) (
 jf _ l a λi=>
 br (decide (i >= 0)) (
 k (([]:LV)++l) false) (
 j4))
def jd:vO:=OS jf tO
def VE (F:vO):GT:=λO s k=>F O (lL s 0) (fQ s 1) (sE s 3) (lB s 9) (λb a=>k (.tup [.own 0 10 .flat b,.bool a]))
abbrev PH (F:vO):WT:=WU f0s (VE F)
theorem v0k (jf:ji)(tO:BI):KU [(268,PK jf),(273,WO tO)] a_ 263 Tryz.f263 f0s (VE (OS jf tO )):=λ_ _ _=>by kernel_rfl
theorem L0:aC D 263 (PH jd):=aB Tryz.func263 (tc L2 (tc b0z tn)) (v0k jf tO )
def OL (bt:ki)(eT:bV)(rM:bT)(rL:BE)(rO:BF)(rP:BG)(dM:oL)(fY:nY)(bL:gr)(jd:vO):jB:=λO l k=>
 bt _ l λD=>
 eT _ ⟨l.e,l.f,l.g,l.h,l.i,l.j,l.k,l.l,l.m,l.n,l.o,l.p,l.q,l.r,l.s,l.t,l.u,l.v,l.w,l.x,l.y,l.z⟩ λl2=>
 rM _ l.ab λK=>
 rL _ l2 K λI=>
 rO _ ⟨l.e,l.f,l.g,l.h,l.i,l.j,l.k,l.l,l.m,l.n,l.o,l.p,l.q,l.r,l.s,l.t,l.u,l.v,l.w,l.x,l.y,l.z⟩ I λF=>
 br (decide (F<0)) (
 k D false) (
 ci F I <|
 oN I F.toNat 1 λE=>
 rP _ l.ac E λM J N=>
 br N (
 dM _ ⟨l.a,l.b,l.c,l.d⟩ l.e E J λB=>
 fY _ ⟨l.e,l.f,l.g,l.h,l.i,l.j,l.k,l.l,l.m,l.n,l.o,l.p,l.q,l.r,l.s,l.t,l.u,l.v,l.w,l.x,l.y,l.z⟩ E J λA=>
 k ⟨B.a,B.b,B.c,B.d,A.a,A.b,A.c,A.d,A.e,A.f,A.g,A.h,A.i,A.j,A.k,A.l,A.m,A.n,A.o,A.p,A.q,A.r,A.s,A.t,A.u,A.v,D.aa,D.ab,M⟩ true) (
 br (decide ((nL l.ab) >= 3)) (
 k D false) (
 bL _ ⟨l.a,l.b,l.c,l.d⟩ l.e E false λC G=>
 jd _ l.ab E G false λH L=>
 k {D with a:=C.a,b:=C.b,c:=C.c,d:=C.d,ab:=H} true)))
def rJ:jB:=OL bt eT rM rL rO rP dM fY bL jd
def Uz (F:jB):GT:=λO s k=>F O (et s 0) (λb a=>k (.tup [b1g b,.bool a]))
abbrev WE (F:jB):WT:=WU HG (Uz F)
theorem v0d (bt:ki)(eT:bV)(rM:bT)(rL:BE)(rO:BF)(rP:BG)(dM:oL)(fY:nY)(bL:gr)(jd:vO):KU [(251,xu bt),(54,KN eT),(260,WI rM),(259,WH rL),(261,WJ rO),(262,WK rP),(219,Do dM),(55,PM fY),(184,tY bL),(263,PH jd)] a_ 256 Tryz.f256 HG (Uz (OL bt eT rM rL rO rP dM fY bL jd )):=λ_ _ _=>by kernel_rfl
theorem b0n:aC D 256 (WE rJ):=aB Tryz.func256 (tc s9 (tc yZ (tc b0r (tc b0q (tc b0s (tc b0t (tc AE (tc CA (tc nq (tc L0 tn)))))))))) (v0d bt eT rM rL rO rP dM fY bL jd )
def OT:eP:=λO l k=>
 bM XD (λa=>
 br (decide (a.2.2<(nL a.1))) (
 c0 a.2.2 <|
 B3 a.1 a.2.2.toNat λc=>
 br (!c.i) (
 some (.inl (D9 (a.1,wi (a.2.1+1),wi (a.2.2+1))))) (
 some (.inl (D9 (a.1,a.2.1,wi (a.2.2+1)))))) (
 some (.inr (0,cY a.2.1)))) (D9 (l,0,0)) λr5=>
 wx iX r5.2 λb=>
 k b
def je:eP:=OT
def n0o:aH:=λi=>aL i [] [(3,[(.exit 0,xk 20 [(3,.int .i64 0)] [])])]
abbrev PI (F:eP):WT:=WU f0t (tS F)
theorem v0l:KU [] n0o 264 Tryz.f264 f0t (tS (OT )):=λ_ _ _=>by kernel_rfl
theorem L1:aC D 264 (PI je):=aB Tryz.func264 tn (v0l )
def OU:eP:=λO l k=>
 bM XD (λa=>
 br (decide (a.2.2<(nL a.1))) (
 c0 a.2.2 <|
 wL a.1 a.2.2.toNat λc=>
 br c.d (
 some (.inl (D9 (a.1,wi (a.2.1+1),wi (a.2.2+1))))) (
 some (.inl (D9 (a.1,a.2.1,wi (a.2.2+1)))))) (
 some (.inr (0,cY a.2.1)))) (D9 (l,0,0)) λr5=>
 wx iX r5.2 λb=>
 k b
def rQ:eP:=OU
def n0p:aH:=λi=>aL i [] [(3,[(.exit 0,xk 19 [(3,.int .i64 0)] [])])]
abbrev Hz (F:eP):WT:=WU g0n (tS F)
theorem v0m:KU [] n0p 265 Tryz.f265 g0n (tS (OU )):=λ_ _ _=>by kernel_rfl
theorem b0u:aC D 265 (Hz rQ):=aB Tryz.func265 tn (v0m )
abbrev BL:Type 1:=(O:Type)->U9->LU->(U13->Bool->Option O)->Option O
def Oh (cH:oI)(dZ:oJ):BL:=λO t base k=>
 q0v (λ(i:LU) (f:U13)=>
 cH _ t.c i λj o=>
 dZ _ j base λd g=>
 br (!g) (
 k ⟨0,[],[],[],[]⟩ false) (
 br (f.a != 5) (
 cH _ t.c [100,105,103,101,115,116] λh l=>
 k {f with b:=d.a,c:=d.b,e:=h} true) (
 k {f with b:=d.a,c:=d.b} true))) λIz=>
 br (t.a != 1) (
 k ⟨0,[],[],[],[]⟩ false) (
 br (t.b==[115,99,114,105,112,116]) (
 cH _ t.c [107,105,110,100] λm n=>
 br (m==[109,111,100,117,108,101]) (
 Iz [115,114,99] ⟨5,[],[],base,[]⟩) (
 Iz [115,114,99] ⟨2,[],[],base,[]⟩)) (
 br (t.b==[108,105,110,107]) (
 Iz [104,114,101,102] ⟨3,[],[],base,[]⟩) (
 br (t.b==[105,109,103]) (
 Iz [115,114,99] ⟨4,[],[],base,[]⟩) (
 k ⟨0,[],[],[],[]⟩ false))))
def re:BL:=Oh cH dZ
def VM (F:BL):GT:=λO s k=>F O (TE s 0) (lS s 4) (λb a=>k (.tup [w7 b,.bool a]))
abbrev WS (F:BL):WT:=WU f0u (VM F)
theorem v0z (cH:oI)(dZ:oJ):KU [(204,Dk cH),(214,Dm dZ)] a_ 280 Tryz.f280 f0u (VM (Oh cH dZ )):=λ_ _ _=>by kernel_rfl
theorem c0g:aC D 280 (WS re):=aB Tryz.func280 (tc AC (tc AD tn)) (v0z cH dZ )
abbrev BJ:Type 1:=(O:Type)->LV->LU->(LV->Option O)->Option O
def Oc (re:BL):BJ:=λO l base k=>
 bM Kg (λa=>
 br (decide (a.2.2.2<(nL a.1))) (
 c0 a.2.2.2 <|
 S_ a.1 a.2.2.2.toNat λe=>
 re _ e a.2.1 λb d=>
 br d (
 ca a.2.2.1 ([w7 b]:LV) 72 <|
 some (.inl (zO (a.1,a.2.1,a.2.2.1++([w7 b]:LV),wi (a.2.2.2+1))))) (
 some (.inl (zO (a.1,a.2.1,a.2.2.1,wi (a.2.2.2+1)))))) (
 some (.inr (0,fo a.2.2.1)))) (zO (l,base,[],0)) λr7=>
 wx ru r7.2 λc=>
 k c
def rW:BJ:=Oc re
def n0t:aH:=λi=>aL i [] [(3,[(.exit 0,xk 31 [(5,.own 1000000 5 .flat [])] [])])]
def VJ (F:BJ):GT:=λO s k=>F O (lL s 0) (lS s 1) (λa=>k (.own 0 5 .flat a))
abbrev WP (F:BJ):WT:=WU f0v (VJ F)
theorem v0u (re:BL):KU [(280,WS re)] n0t 274 Tryz.f274 f0v (VJ (Oc re )):=λ_ _ _=>by kernel_rfl
theorem c0a:aC D 274 (WP rW):=aB Tryz.func274 (tc c0g tn) (v0u re )
def Od (jZ:oK):oK:=λO r k=>
 jZ _ r λc=>
 br c (
 br (r.a != 1) (
 k (r.b==r.d)) (
 k false)) (
 k false)
def rX:oK:=Od jZ
theorem v0v (jZ:oK):KU [(215,Dn jZ)] a_ 275 Tryz.f275 b1q (ML (Od jZ )):=λ_ _ _=>by kernel_rfl
theorem c0b:aC D 275 (Dn rX):=aB Tryz.func275 (tc Lw tn) (v0v jZ )
def Oe (cV:mE):mD:=λO p a k=>
 bM Pu (λd=>
 br (decide (d.1<(nL d.2.1.m))) (
 c0 d.1 <|
 pM d.2.1.m d.1.toNat λe=>
 br (q0 ⟨e.b,e.c⟩ d.2.2) (
 some (.inr (1,K_ (true,d.2.1,d.2.2)))) (
 some (.inl (EW (wi (d.1+1),d.2.1,d.2.2))))) (
 some (.inr (0,K9 (d.2.1,d.2.2))))) (EW (0,p,a)) λr3=>
 if r3.1=0 then
 wx XH r3.2 λf=>
 cV _ f.1 f.2 λh=>
 k (decide (h >= 0))
 else
 wx XI r3.2 λg=>
 k g.1
def rY:mD:=Oe cV
def n0u:aH:=λi=>aL i [] [(2,[(.exit 0,xk 25 [(2,.ptr 2 0),(3,.ptr 3 0)] [(2,.agg [.str [],.str [],.bool false,.sl 1 true [],.sl 1 true [],.sl 1 true [],.str [],.str [],.sl 4 false [],.bool false,.sl 4 false [],.sl 1 true [],.sl 8 true [],.sl 5 true [],.sl 2 true [],.int .i64 0,.int .i64 0,.int .i64 0,.int .i64 0,.sl 2 true [],.sl 1 true [],.bool false]),(3,.agg [.str [],.str []])]),(.ret,xk 25 [(2,.ptr 2 0),(3,.ptr 3 0),(4,.bool false)] [(2,.agg [.str [],.str [],.bool false,.sl 1 true [],.sl 1 true [],.sl 1 true [],.str [],.str [],.sl 4 false [],.bool false,.sl 4 false [],.sl 1 true [],.sl 8 true [],.sl 5 true [],.sl 2 true [],.int .i64 0,.int .i64 0,.int .i64 0,.int .i64 0,.sl 2 true [],.sl 1 true [],.bool false]),(3,.agg [.str [],.str []])])])]
theorem v0w (cV:mE):KU [(126,BQ cV)] n0u 276 Tryz.f276 CY (HV (Oe cV )):=λ_ _ _=>by kernel_rfl
theorem c0c:aC D 276 (BP rY):=aB Tryz.func276 (tc wY tn) (v0w cV )
def OV (rW:BJ)(rX:oK)(dY:oG)(rY:mD)(dL:oF):bV:=λO p k=>
 rW _ p.i p.a λl1=>
 bM IM (λb=>
 br (decide (b.2.2.1<(nL b.2.1))) (
 ci b.2.2.1 b.2.1 <|
 oN b.2.1 b.2.2.1.toNat 1 λh=>
 ci b.2.2.1 b.2.1 <|
 S8 b.2.1 b.2.2.1.toNat 0 λn=>
 rX _ n λm=>
 br m (
 ci b.2.2.1 b.2.1 <|
 S8 b.2.1 b.2.2.1.toNat 0 λo=>
 dY _ ⟨b.2.2.2.c,b.2.2.2.d,b.2.2.2.e,b.2.2.2.f,b.2.2.2.g⟩ o λl=>
 br (l==1) (
 rY _ b.2.2.2 h λr=>
 br (!r) (
 dL _ b.1 h λq=>
 br (!q) (
 ca b.1 ([w2 h]:LV) 32 <|
 some (.inl (pD (b.1++([w2 h]:LV),b.2.1,wi (b.2.2.1+1),b.2.2.2)))) (
 some (.inl (pD (b.1,b.2.1,wi (b.2.2.1+1),b.2.2.2))))) (
 some (.inl (pD (b.1,b.2.1,wi (b.2.2.1+1),b.2.2.2))))) (
 some (.inl (pD (b.1,b.2.1,wi (b.2.2.1+1),b.2.2.2))))) (
 some (.inl (pD (b.1,b.2.1,wi (b.2.2.1+1),b.2.2.2))))) (
 some (.inr (0,fo b.1)))) (pD ([],l1,0,p)) λr13=>
 wx ru r13.2 λj=>
 k j
def rR:bV:=OV rW rX dY rY dL
def n0q:aH:=λi=>aL i [] [(4,[(.exit 0,xk 57 [(3,.own 1000000 2 .flat [])] [])])]
def VF (F:bV):GT:=λO s k=>F O (dr s 0) (λa=>k (.own 0 2 .flat a))
abbrev WM (F:bV):WT:=WU kq (VF F)
theorem v0n (rW:BJ)(rX:oK)(dY:oG)(rY:mD)(dL:oF):KU [(274,WP rW),(275,Dn rX),(174,Di dY),(276,BP rY),(172,Dh dL)] n0q 266 Tryz.f266 kq (VF (OV rW rX dY rY dL )):=λ_ _ _=>by kernel_rfl
theorem b0v:aC D 266 (WM rR):=aB Tryz.func266 (tc c0a (tc c0b (tc AA (tc c0c (tc z_ tn))))) (v0n rW rX dY rY dL )
def OM (bt:ki)(je:eP)(rQ:eP)(rR:bV)(fK:ji)(jf:ji)(bL:gr)(jd:vO):jB:=λO l k=>
 bt _ l λF=>
 fB (rR _ ⟨l.e,l.f,l.g,l.h,l.i,l.j,l.k,l.l,l.m,l.n,l.o,l.p,l.q,l.r,l.s,l.t,l.u,l.v,l.w,l.x,l.y,l.z⟩ λN=>
 bM Ki (λA=>
 br (decide (A.2.1<(nL A.1))) (
 fB (some (.inl (ED (A.1,wi (A.2.1+1),A.2.2.1,A.2.2.2.1,A.2.2.2.2.1,A.2.2.2.2.2.1,A.2.2.2.2.2.2.1,A.2.2.2.2.2.2.2.1,A.2.2.2.2.2.2.2.2.1,A.2.2.2.2.2.2.2.2.2.1,A.2.2.2.2.2.2.2.2.2.2.1,A.2.2.2.2.2.2.2.2.2.2.2.1,A.2.2.2.2.2.2.2.2.2.2.2.2.1,A.2.2.2.2.2.2.2.2.2.2.2.2.2.1,A.2.2.2.2.2.2.2.2.2.2.2.2.2.2.1,A.2.2.2.2.2.2.2.2.2.2.2.2.2.2.2)))) λLG=>
 ci A.2.1 A.1 <|
 oN A.1 A.2.1.toNat 0 λE=>
 fB (bL _ ⟨A.2.2.1.a,A.2.2.1.b,A.2.2.1.c,A.2.2.1.d⟩ A.2.2.1.e E true λB H=>
 jd _ A.2.2.1.ab E H true λD L=>
 some (.inr (1,zP (true,{A.2.2.2.2.2.2.2.2.2.2.2.2.2.2.2 with a:=B.a,b:=B.b,c:=B.c,d:=B.d,ab:=D},{A.2.2.2.2.2.2.2.2.2.2.2.2.2.2.2 with a:=B.a,b:=B.b,c:=B.c,d:=B.d,ab:=D})))) λLF=>
 fK _ A.2.2.1.ac E λM=>
 br (decide (M >= 0)) (
 LG) (
 jf _ A.2.2.1.ab E λJ=>
 br (decide (J >= 0)) (
 LG) (
 LF))) (
 some (.inr (0,ju (A.2.2.2.1,A.2.2.2.2.1,A.2.2.2.2.2.1,A.2.2.2.2.2.2.1,A.2.2.2.2.2.2.2.1,A.2.2.2.2.2.2.2.2.1,A.2.2.2.2.2.2.2.2.2.1,A.2.2.2.2.2.2.2.2.2.2.1,A.2.2.2.2.2.2.2.2.2.2.2.1,A.2.2.2.2.2.2.2.2.2.2.2.2.1,A.2.2.2.2.2.2.2.2.2.2.2.2.2.1,A.2.2.2.2.2.2.2.2.2.2.2.2.2.2.1,A.2.2.2.2.2.2.2.2.2.2.2.2.2.2.2))))) (ED (N,0,l,0,[],[],false,[],[],false,0,0,0,0,false,F)) λr17=>
 if r17.1=0 then
 wx zL r17.2 λG=>
 k G.2.2.2.2.2.2.2.2.2.2.2.2 false
 else
 wx Kh r17.2 λC=>
 k C.2.1 C.1) λY3=>
 br (decide ((nL l.ab) >= 3)) (
 k F false) (
 je _ l.ac λI=>
 rQ _ l.ab λK=>
 br (decide (wi (I+K) >= 6)) (
 k F false) (
 Y3))
def rK:jB:=OM bt je rQ rR fK jf bL jd
def n0j:aH:=λi=>aL i [] [(6,[(.exit 0,xk 76 [(2,.ptr 2 0),(4,.ptr 4 0)] [(2,.agg [.nil,.nil,.nil,.int .i64 0,.str [],.str [],.bool false,.nil,.nil,.nil,.str [],.str [],.nil,.bool false,.nil,.nil,.nil,.nil,.nil,.int .i64 0,.int .i64 0,.int .i64 0,.int .i64 0,.nil,.nil,.bool false,.nil,.nil,.nil]),(4,.agg [.own 1000000 2 .clean [],.own 1000001 10 .flat [],.own 1000002 4 .flat [],.int .i64 0,.str [],.str [],.bool false,.own 1000003 1 .flat [],.own 1000004 1 .flat [],.own 1000005 1 .flat [],.str [],.str [],.own 1000006 4 .clean [],.bool false,.own 1000007 4 .clean [],.own 1000008 1 .flat [],.own 1000009 8 .flat [],.own 1000010 5 .flat [],.own 1000011 2 .flat [],.int .i64 0,.int .i64 0,.int .i64 0,.int .i64 0,.own 1000012 2 .flat [],.own 1000013 1 .flat [],.bool false,.own 1000014 1 .flat [],.own 1000015 10 .flat [],.own 1000016 9 .flat []])]),(.ret,xk 76 [(2,.ptr 2 0),(3,.bool false),(4,.ptr 4 0)] [(2,.agg [.own 1000000 2 .clean [],.own 1000001 10 .flat [],.own 1000002 4 .flat [],.int .i64 0,.str [],.str [],.bool false,.own 1000003 1 .flat [],.own 1000004 1 .flat [],.own 1000005 1 .flat [],.str [],.str [],.own 1000006 4 .clean [],.bool false,.own 1000007 4 .clean [],.own 1000008 1 .flat [],.own 1000009 8 .flat [],.own 1000010 5 .flat [],.own 1000011 2 .flat [],.int .i64 0,.int .i64 0,.int .i64 0,.int .i64 0,.own 1000012 2 .flat [],.own 1000013 1 .flat [],.bool false,.own 1000014 1 .flat [],.own 1000015 10 .flat [],.own 1000016 9 .flat []]),(4,.agg [.own 1000000 2 .clean [],.own 1000001 10 .flat [],.own 1000002 4 .flat [],.int .i64 0,.str [],.str [],.bool false,.own 1000003 1 .flat [],.own 1000004 1 .flat [],.own 1000005 1 .flat [],.str [],.str [],.own 1000006 4 .clean [],.bool false,.own 1000007 4 .clean [],.own 1000008 1 .flat [],.own 1000009 8 .flat [],.own 1000010 5 .flat [],.own 1000011 2 .flat [],.int .i64 0,.int .i64 0,.int .i64 0,.int .i64 0,.own 1000012 2 .flat [],.own 1000013 1 .flat [],.bool false,.own 1000014 1 .flat [],.own 1000015 10 .flat [],.own 1000016 9 .flat []])])])]
def U_ (F:jB):GT:=λO s k=>F O (et s 0) (λb a=>k (.tup [e1f b,.bool a]))
abbrev WF (F:jB):WT:=WU HG (U_ F)
theorem v0e (bt:ki)(je:eP)(rQ:eP)(rR:bV)(fK:ji)(jf:ji)(bL:gr)(jd:vO):KU [(251,xu bt),(264,PI je),(265,Hz rQ),(266,WM rR),(267,H0 fK),(268,PK jf),(184,tY bL),(263,PH jd)] n0j 257 Tryz.f257 HG (U_ (OM bt je rQ rR fK jf bL jd )):=λ_ _ _=>by kernel_rfl
theorem b0o:aC D 257 (WF rK):=aB Tryz.func257 (tc s9 (tc L1 (tc b0u (tc b0v (tc E_ (tc L2 (tc nq (tc L0 tn)))))))) (v0e bt je rQ rR fK jf bL jd )
abbrev tW:Type 1:=(O:Type)->LV->Int->(LV->Option O)->Option O
def OY (aU:dK)(fI:fw):tW:=λO l b k=>
 ca ([]:LV) l 112 <|
 bM Kj (λa=>
 fB (c0 a.2.2.2 <|
 wL a.1 a.2.2.2.toNat λd=>
 fI _ 0 (wi (d.c-a.2.1)) λh=>
 ci a.2.2.2 a.2.2.1 <|
 bU a.2.2.1 a.2.2.2.toNat 2 [.int .i64 h] λe=>
 some (.inl (EE (a.1,a.2.1,e,wi (a.2.2.2+1))))) λj7=>
 br (decide (a.2.2.2<(nL a.1))) (
 aU _ a.2.1 0 1000 λg=>
 br g (
 j7) (
 some (.inr (0,fo a.2.2.1)))) (
 some (.inr (0,fo a.2.2.1)))) (EE (l,b,([]:LV)++l,0)) λr8=>
 wx ru r8.2 λf=>
 k f
def rT:tW:=OY aU fI
def n0r:aH:=λi=>aL i [] [(3,[(.exit 0,xk 33 [(5,.own 1000000 10 .flat [])] [])])]
def VG (F:tW):GT:=λO s k=>F O (lL s 0) (lI s 1) (λa=>k (.own 0 10 .flat a))
abbrev H2 (F:tW):WT:=WU f0w (VG F)
theorem v0q (aU:dK)(fI:fw):KU [(65,ko aU),(182,rp fI)] n0r 269 Tryz.f269 f0w (VG (OY aU fI )):=λ_ _ _=>by kernel_rfl
theorem b0w:aC D 269 (H2 rT):=aB Tryz.func269 (tc eI (tc E5 tn)) (v0q aU fI )
def OZ:eP:=λO l k=>
 bM XC (λa=>
 br (decide (a.2<(nL a.1))) (
 c0 a.2 <|
 wL a.1 a.2.toNat λb=>
 br (decide (b.c<=0)) (
 some (.inr (1,cY a.2))) (
 some (.inl (HC (a.1,wi (a.2+1)))))) (
 some (.inr (0,[])))) (HC (l,0)) λr3=>
 if r3.1=0 then
 k (-1)
 else
 wx iX r3.2 λd=>
 k d
def rV:eP:=OZ
def n0s:aH:=λi=>aL i [] [(2,[(.exit 0,xk 17 [] []),(.ret,xk 17 [(2,.int .i64 0)] [])])]
theorem v0r:KU [] n0s 270 Tryz.f270 g0n (tS (OZ )):=λ_ _ _=>by kernel_rfl
theorem b0x:aC D 270 (Hz rV):=aB Tryz.func270 tn (v0r )
def tP:tW:=λO a b k=>Wn O a b k
theorem c0d:aC D 277 (H2 tP):=mQ (λ_ _ _=>by kernel_rfl) (RG (λ_=>rfl))
def Of (fK:ji)(je:eP):xm:=λO l a x k=>
 ca ([]:LV) l 104 <|
 fB (ca (([]:LV)++l) ([AR ⟨a.a,a.b,x.a,x.b,x.c,x.d,x.e,x.f,false⟩]:LV) 104 <|
 k ((([]:LV)++l)++([AR ⟨a.a,a.b,x.a,x.b,x.c,x.d,x.e,x.f,false⟩]:LV)) true) λj4=>
 fK _ l a λh=>
 br (decide (h >= 0)) (
 k (([]:LV)++l) false) (
 je _ l λg=>
 br (decide (g >= 6)) (
 k (([]:LV)++l) false) (
 j4))
def rZ:xm:=Of fK je
def VK (F:xm):GT:=λO s k=>F O (lL s 0) (fQ s 1) (sE s 3) (λb a=>k (.tup [.own 0 9 .flat b,.bool a]))
abbrev WQ (F:xm):WT:=WU f0x (VK F)
theorem v0x (fK:ji)(je:eP):KU [(267,H0 fK),(264,PI je)] a_ 278 Tryz.f278 f0x (VK (Of fK je )):=λ_ _ _=>by kernel_rfl
theorem c0e:aC D 278 (WQ rZ):=aB Tryz.func278 (tc E_ (tc L1 tn)) (v0x fK je )
abbrev kL:Type 1:=(O:Type)->U23->Int->(U23->Option O)->Option O
def tU (tP:tW)(eT:bV)(dM:oL)(fY:nY)(rZ:xm):kL:=λO l i k=>
 ci i l.ab <|
 Y0 l.ab i.toNat 0 λI=>
 tP _ l.ab i λl2=>
 eT _ ⟨l.e,l.f,l.g,l.h,l.i,l.j,l.k,l.l,l.m,l.n,l.o,l.p,l.q,l.r,l.s,l.t,l.u,l.v,l.w,l.x,l.y,l.z⟩ λH=>
 bM Kk (λA=>
 br (decide (A.2.1<(nL A.1))) (
 ci A.2.1 A.1 <|
 oN A.1 A.2.1.toNat 1 λK=>
 br (q0 K ⟨A.2.2.2.2.2.2.2.2.2.2.2.2.2.2.2.a,A.2.2.2.2.2.2.2.2.2.2.2.2.2.2.2.b⟩) (
 br A.2.2.2.2.2.2.2.2.2.2.2.2.2.2.2.d (
 dM _ ⟨A.2.2.1.a,A.2.2.1.b,A.2.2.1.c,A.2.2.1.d⟩ A.2.2.1.e ⟨A.2.2.2.2.2.2.2.2.2.2.2.2.2.2.2.a,A.2.2.2.2.2.2.2.2.2.2.2.2.2.2.2.b⟩ ⟨A.2.2.2.2.2.2.2.2.2.2.2.2.2.2.2.e,A.2.2.2.2.2.2.2.2.2.2.2.2.2.2.2.f,A.2.2.2.2.2.2.2.2.2.2.2.2.2.2.2.g,A.2.2.2.2.2.2.2.2.2.2.2.2.2.2.2.h,A.2.2.2.2.2.2.2.2.2.2.2.2.2.2.2.i,A.2.2.2.2.2.2.2.2.2.2.2.2.2.2.2.j⟩ λE=>
 fY _ ⟨A.2.2.1.e,A.2.2.1.f,A.2.2.1.g,A.2.2.1.h,A.2.2.1.i,A.2.2.1.j,A.2.2.1.k,A.2.2.1.l,A.2.2.1.m,A.2.2.1.n,A.2.2.1.o,A.2.2.1.p,A.2.2.1.q,A.2.2.1.r,A.2.2.1.s,A.2.2.1.t,A.2.2.1.u,A.2.2.1.v,A.2.2.1.w,A.2.2.1.x,A.2.2.1.y,A.2.2.1.z⟩ ⟨A.2.2.2.2.2.2.2.2.2.2.2.2.2.2.2.a,A.2.2.2.2.2.2.2.2.2.2.2.2.2.2.2.b⟩ ⟨A.2.2.2.2.2.2.2.2.2.2.2.2.2.2.2.e,A.2.2.2.2.2.2.2.2.2.2.2.2.2.2.2.f,A.2.2.2.2.2.2.2.2.2.2.2.2.2.2.2.g,A.2.2.2.2.2.2.2.2.2.2.2.2.2.2.2.h,A.2.2.2.2.2.2.2.2.2.2.2.2.2.2.2.i,A.2.2.2.2.2.2.2.2.2.2.2.2.2.2.2.j⟩ λB=>
 some (.inr (1,EF (⟨E.a,E.b,E.c,E.d,B.a,B.b,B.c,B.d,B.e,B.f,B.g,B.h,B.i,B.j,B.k,B.l,B.m,B.n,B.o,B.p,B.q,B.r,B.s,B.t,B.u,B.v,A.2.2.1.aa,A.2.2.1.ab,A.2.2.1.ac⟩,⟨E.a,E.b,E.c,E.d,B.a,B.b,B.c,B.d,B.e,B.f,B.g,B.h,B.i,B.j,B.k,B.l,B.m,B.n,B.o,B.p,B.q,B.r,B.s,B.t,B.u,B.v,A.2.2.1.aa,A.2.2.1.ab,A.2.2.1.ac⟩,A.2.2.2.2.2.2.2.2.2.2.2.2.2.2.2)))) (
 fY _ ⟨A.2.2.1.e,A.2.2.1.f,A.2.2.1.g,A.2.2.1.h,A.2.2.1.i,A.2.2.1.j,A.2.2.1.k,A.2.2.1.l,A.2.2.1.m,A.2.2.1.n,A.2.2.1.o,A.2.2.1.p,A.2.2.1.q,A.2.2.1.r,A.2.2.1.s,A.2.2.1.t,A.2.2.1.u,A.2.2.1.v,A.2.2.1.w,A.2.2.1.x,A.2.2.1.y,A.2.2.1.z⟩ ⟨A.2.2.2.2.2.2.2.2.2.2.2.2.2.2.2.a,A.2.2.2.2.2.2.2.2.2.2.2.2.2.2.2.b⟩ ⟨A.2.2.2.2.2.2.2.2.2.2.2.2.2.2.2.e,A.2.2.2.2.2.2.2.2.2.2.2.2.2.2.2.f,A.2.2.2.2.2.2.2.2.2.2.2.2.2.2.2.g,A.2.2.2.2.2.2.2.2.2.2.2.2.2.2.2.h,A.2.2.2.2.2.2.2.2.2.2.2.2.2.2.2.i,A.2.2.2.2.2.2.2.2.2.2.2.2.2.2.2.j⟩ λC=>
 some (.inr (1,EF (⟨A.2.2.1.a,A.2.2.1.b,A.2.2.1.c,A.2.2.1.d,C.a,C.b,C.c,C.d,C.e,C.f,C.g,C.h,C.i,C.j,C.k,C.l,C.m,C.n,C.o,C.p,C.q,C.r,C.s,C.t,C.u,C.v,A.2.2.1.aa,A.2.2.1.ab,A.2.2.1.ac⟩,⟨A.2.2.1.a,A.2.2.1.b,A.2.2.1.c,A.2.2.1.d,C.a,C.b,C.c,C.d,C.e,C.f,C.g,C.h,C.i,C.j,C.k,C.l,C.m,C.n,C.o,C.p,C.q,C.r,C.s,C.t,C.u,C.v,A.2.2.1.aa,A.2.2.1.ab,A.2.2.1.ac⟩,A.2.2.2.2.2.2.2.2.2.2.2.2.2.2.2))))) (
 some (.inl (EG (A.1,wi (A.2.1+1),A.2.2.1,A.2.2.2.1,A.2.2.2.2.1,A.2.2.2.2.2.1,A.2.2.2.2.2.2.1,A.2.2.2.2.2.2.2.1,A.2.2.2.2.2.2.2.2.1,A.2.2.2.2.2.2.2.2.2.1,A.2.2.2.2.2.2.2.2.2.2.1,A.2.2.2.2.2.2.2.2.2.2.2.1,A.2.2.2.2.2.2.2.2.2.2.2.2.1,A.2.2.2.2.2.2.2.2.2.2.2.2.2.1,A.2.2.2.2.2.2.2.2.2.2.2.2.2.2.1,A.2.2.2.2.2.2.2.2.2.2.2.2.2.2.2))))) (
 some (.inr (0,LA (A.2.2.1,A.2.2.2.1,A.2.2.2.2.1,A.2.2.2.2.2.1,A.2.2.2.2.2.2.1,A.2.2.2.2.2.2.2.1,A.2.2.2.2.2.2.2.2.1,A.2.2.2.2.2.2.2.2.2.1,A.2.2.2.2.2.2.2.2.2.2.1,A.2.2.2.2.2.2.2.2.2.2.2.1,A.2.2.2.2.2.2.2.2.2.2.2.2.1,A.2.2.2.2.2.2.2.2.2.2.2.2.2.1,A.2.2.2.2.2.2.2.2.2.2.2.2.2.2.1,A.2.2.2.2.2.2.2.2.2.2.2.2.2.2.2))))) (EG (H,0,{l with ab:=l2},0,[],[],false,[],[],false,0,0,0,0,false,I)) λr9=>
 if r9.1=0 then
 wx XJ r9.2 λD=>
 br D.2.2.2.2.2.2.2.2.2.2.2.2.2.d (
 rZ _ D.1.ac ⟨D.2.2.2.2.2.2.2.2.2.2.2.2.2.a,D.2.2.2.2.2.2.2.2.2.2.2.2.2.b⟩ ⟨D.2.2.2.2.2.2.2.2.2.2.2.2.2.e,D.2.2.2.2.2.2.2.2.2.2.2.2.2.f,D.2.2.2.2.2.2.2.2.2.2.2.2.2.g,D.2.2.2.2.2.2.2.2.2.2.2.2.2.h,D.2.2.2.2.2.2.2.2.2.2.2.2.2.i,D.2.2.2.2.2.2.2.2.2.2.2.2.2.j⟩ λG J=>
 k {D.1 with ac:=G}) (
 k D.1)
 else
 wx XK r9.2 λF=>
 k F.2.1
def eR:kL:=tU tP eT dM fY rZ
def H4:aH:=λi=>aL i [] [(5,[(.exit 0,xk 72 [(2,.ptr 2 0),(4,.ptr 4 0),(5,.ptr 5 0)] [(2,.agg [.own 1000000 2 .clean [],.own 1000001 10 .flat [],.own 1000002 4 .flat [],.int .i64 0,.str [],.str [],.bool false,.own 1000003 1 .flat [],.own 1000004 1 .flat [],.own 1000005 1 .flat [],.str [],.str [],.view 1000006 4 .clean [],.bool false,.own 1000007 4 .clean [],.view 1000008 1 .flat [],.own 1000009 8 .flat [],.own 1000010 5 .flat [],.own 1000011 2 .flat [],.int .i64 0,.int .i64 0,.int .i64 0,.int .i64 0,.own 1000012 2 .flat [],.own 1000013 1 .flat [],.bool false,.own 1000014 1 .flat [],.own 1000015 10 .flat [],.own 1000016 9 .flat []]),(4,.agg [.nil,.nil,.nil,.int .i64 0,.str [],.str [],.bool false,.nil,.nil,.nil,.str [],.str [],.nil,.bool false,.nil,.nil,.nil,.nil,.nil,.int .i64 0,.int .i64 0,.int .i64 0,.int .i64 0,.nil,.nil,.bool false,.nil,.nil,.nil]),(5,.agg [.str [],.str [],.int .i64 0,.bool false,.int .i64 0,.int .i64 0,.str [],.int .i64 0,.bool false,.str []])]),(.ret,xk 72 [(2,.ptr 2 0),(4,.ptr 4 0),(5,.ptr 5 0)] [(2,.agg [.own 1000000 2 .clean [],.own 1000001 10 .flat [],.own 1000002 4 .flat [],.int .i64 0,.str [],.str [],.bool false,.own 1000003 1 .flat [],.own 1000004 1 .flat [],.own 1000005 1 .flat [],.str [],.str [],.view 1000006 4 .clean [],.bool false,.own 1000007 4 .clean [],.view 1000008 1 .flat [],.own 1000009 8 .flat [],.own 1000010 5 .flat [],.own 1000011 2 .flat [],.int .i64 0,.int .i64 0,.int .i64 0,.int .i64 0,.own 1000012 2 .flat [],.own 1000013 1 .flat [],.bool false,.own 1000014 1 .flat [],.own 1000015 10 .flat [],.own 1000016 9 .flat []]),(4,.agg [.own 1000000 2 .clean [],.own 1000001 10 .flat [],.own 1000002 4 .flat [],.int .i64 0,.str [],.str [],.bool false,.own 1000003 1 .flat [],.own 1000004 1 .flat [],.own 1000005 1 .flat [],.str [],.str [],.view 1000006 4 .clean [],.bool false,.own 1000007 4 .clean [],.view 1000008 1 .flat [],.own 1000009 8 .flat [],.own 1000010 5 .flat [],.own 1000011 2 .flat [],.int .i64 0,.int .i64 0,.int .i64 0,.int .i64 0,.own 1000012 2 .flat [],.own 1000013 1 .flat [],.bool false,.own 1000014 1 .flat [],.own 1000015 10 .flat [],.own 1000016 9 .flat []]),(5,.agg [.str [],.str [],.int .i64 0,.bool false,.int .i64 0,.int .i64 0,.str [],.int .i64 0,.bool false,.str []])])])]
def zD (F:kL):GT:=λO s k=>F O (et s 0) (lI s 29) (λa=>k (.tup [b1g a]))
abbrev zH (F:kL):WT:=WU f0y (zD F)
theorem I3 (tP:tW)(eT:bV)(dM:oL)(fY:nY)(rZ:xm):KI [(277,H2 tP),(54,KN eT),(219,Do dM),(55,PM fY),(278,WQ rZ)] H4 271 ⟨[.mv,.data],72,0,false⟩ Tryz.f271 f0y (zD (tU tP eT dM fY rZ )):=λ_ _ _=>by kernel_rfl
theorem FA:aC D 271 (ah (zH eR)):=aO Tryz.func271 (tc c0d (tc yZ (tc AE (tc CA (tc c0e tn))))) (I3 tP eT dM fY rZ )
abbrev kj:Type 1:=(O:Type)->U23->Int->(U23->Bool->Option O)->Option O
def ON (bt:ki)(aU:dK)(rT:tW)(rV:eP)(eR:kL):kj:=λO l b k=>
 bt _ l λc=>
 fB (rT _ l.ab b λg=>
 bM Kl (λa=>
 br (decide (a.1<(nL a.2.1.ab))) (
 rV _ a.2.2.2.2.2.2.2.2.2.2.2.2.2.2.ab λd=>
 br (decide (d<0)) (
 some (.inr (0,ju (a.2.2.1,a.2.2.2.1,a.2.2.2.2.1,a.2.2.2.2.2.1,a.2.2.2.2.2.2.1,a.2.2.2.2.2.2.2.1,a.2.2.2.2.2.2.2.2.1,a.2.2.2.2.2.2.2.2.2.1,a.2.2.2.2.2.2.2.2.2.2.1,a.2.2.2.2.2.2.2.2.2.2.2.1,a.2.2.2.2.2.2.2.2.2.2.2.2.1,a.2.2.2.2.2.2.2.2.2.2.2.2.2.1,a.2.2.2.2.2.2.2.2.2.2.2.2.2.2)))) (
 eR _ a.2.2.2.2.2.2.2.2.2.2.2.2.2.2 d λe=>
 some (.inl (EH (wi (a.1+1),a.2.1,a.2.2.1,a.2.2.2.1,a.2.2.2.2.1,a.2.2.2.2.2.1,a.2.2.2.2.2.2.1,a.2.2.2.2.2.2.2.1,a.2.2.2.2.2.2.2.2.1,a.2.2.2.2.2.2.2.2.2.1,a.2.2.2.2.2.2.2.2.2.2.1,a.2.2.2.2.2.2.2.2.2.2.2.1,a.2.2.2.2.2.2.2.2.2.2.2.2.1,a.2.2.2.2.2.2.2.2.2.2.2.2.2.1,e))))) (
 some (.inr (0,ju (a.2.2.1,a.2.2.2.1,a.2.2.2.2.1,a.2.2.2.2.2.1,a.2.2.2.2.2.2.1,a.2.2.2.2.2.2.2.1,a.2.2.2.2.2.2.2.2.1,a.2.2.2.2.2.2.2.2.2.1,a.2.2.2.2.2.2.2.2.2.2.1,a.2.2.2.2.2.2.2.2.2.2.2.1,a.2.2.2.2.2.2.2.2.2.2.2.2.1,a.2.2.2.2.2.2.2.2.2.2.2.2.2.1,a.2.2.2.2.2.2.2.2.2.2.2.2.2.2))))) (EH (0,l,0,[],[],false,[],[],false,0,0,0,0,false,{c with ab:=g})) λr8=>
 wx zL r8.2 λf=>
 k f.2.2.2.2.2.2.2.2.2.2.2.2 true) λCf=>
 br ((nL l.ab)==0) (
 k c false) (
 aU _ b 1 1000 λh=>
 br (!h) (
 k c false) (
 Cf))
def oq:kj:=ON bt aU rT rV eR
def n0k:aH:=λi=>aL i [] [(6,[(.exit 0,xk 42 [(4,.ptr 4 0),(6,.ptr 6 0)] [(4,.agg [.nil,.nil,.nil,.int .i64 0,.str [],.str [],.bool false,.nil,.nil,.nil,.str [],.str [],.nil,.bool false,.nil,.nil,.nil,.nil,.nil,.int .i64 0,.int .i64 0,.int .i64 0,.int .i64 0,.nil,.nil,.bool false,.nil,.nil,.nil]),(6,.agg [.own 1000000 2 .clean [],.own 1000001 10 .flat [],.own 1000002 4 .flat [],.int .i64 0,.str [],.str [],.bool false,.own 1000003 1 .flat [],.own 1000004 1 .flat [],.own 1000005 1 .flat [],.str [],.str [],.view 1000006 4 .clean [],.bool false,.own 1000007 4 .clean [],.view 1000008 1 .flat [],.own 1000009 8 .flat [],.own 1000010 5 .flat [],.own 1000011 2 .flat [],.int .i64 0,.int .i64 0,.int .i64 0,.int .i64 0,.own 1000012 2 .flat [],.own 1000013 1 .flat [],.bool false,.own 1000014 1 .flat [],.own 1000015 10 .flat [],.own 1000016 9 .flat []])])])]
def VA (F:kj):GT:=λO s k=>F O (et s 0) (lI s 29) (λb a=>k (.tup [b1g b,.bool a]))
abbrev WG (F:kj):WT:=WU GX (VA F)
theorem v0f (bt:ki)(aU:dK)(rT:tW)(rV:eP)(eR:kL):KU [(251,xu bt),(65,ko aU),(269,H2 rT),(270,Hz rV),(271,ah (zH eR))] n0k 258 Tryz.f258 GX (VA (ON bt aU rT rV eR )):=λ_ _ _=>by kernel_rfl
theorem b0p:aC D 258 (WG oq):=aB Tryz.func258 (tc s9 (tc eI (tc b0w (tc b0x (tc FA tn))))) (v0f bt aU rT rV eR )
def OJ (rH:jB)(rJ:jB)(rK:jB)(oq:kj):kj:=λO l n k=>
 br (n==0) (
 rH _ l λf d=>
 k f d) (
 br (n==1) (
 rJ _ l λh c=>
 k h c) (
 br (n==2) (
 rK _ l λi g=>
 k i g) (
 br (n==3) (
 oq _ l 20 λb j=>
 k b j) (
 oq _ l 200 λe a=>
 k e a))))
def rG:kj:=OJ rH rJ rK oq
def MO (F:kj):GT:=λO s k=>F O (et s 0) (lI s 29) (λb a=>k (.tup [b1f b,.bool a]))
abbrev Hy (F:kj):WT:=WU GX (MO F)
theorem v0b (rH:jB)(rJ:jB)(rK:jB)(oq:kj):KU [(255,WD rH),(256,WE rJ),(257,WF rK),(258,WG oq)] a_ 254 Tryz.f254 GX (MO (OJ rH rJ rK oq )):=λ_ _ _=>by kernel_rfl
theorem b0l:aC D 254 (Hy rG):=aB Tryz.func254 (tc b0m (tc b0n (tc b0o (tc b0p tn)))) (v0b rH rJ rK oq )
def OH (fI:fw)(rG:kj)(bt:ki):kj:=λO l b k=>
 fI _ 0 b λg=>
 bM Km (λa=>
 br (decide (a.2.1<5)) (
 rG _ a.2.2.1 (Int.tmod (wi (a.1+a.2.1)) 5) λh e=>
 br e (
 some (.inr (1,zP (true,a.2.2.1,h)))) (
 some (.inl (EI (a.1,wi (a.2.1+1),a.2.2.1,a.2.2.2.1,a.2.2.2.2.1,a.2.2.2.2.2.1,a.2.2.2.2.2.2.1,a.2.2.2.2.2.2.2.1,a.2.2.2.2.2.2.2.2.1,a.2.2.2.2.2.2.2.2.2.1,a.2.2.2.2.2.2.2.2.2.2.1,a.2.2.2.2.2.2.2.2.2.2.2.1,a.2.2.2.2.2.2.2.2.2.2.2.2.1,a.2.2.2.2.2.2.2.2.2.2.2.2.2.1,a.2.2.2.2.2.2.2.2.2.2.2.2.2.2))))) (
 some (.inr (0,K7 (a.2.2.1,a.2.2.2.1,a.2.2.2.2.1,a.2.2.2.2.2.1,a.2.2.2.2.2.2.1,a.2.2.2.2.2.2.2.1,a.2.2.2.2.2.2.2.2.1,a.2.2.2.2.2.2.2.2.2.1,a.2.2.2.2.2.2.2.2.2.2.1,a.2.2.2.2.2.2.2.2.2.2.2.1,a.2.2.2.2.2.2.2.2.2.2.2.2.1,a.2.2.2.2.2.2.2.2.2.2.2.2.2.1,a.2.2.2.2.2.2.2.2.2.2.2.2.2.2))))) (EI (Int.tmod g 5,0,l,0,[],[],false,[],[],false,0,0,0,0,false)) λr5=>
 if r5.1=0 then
 wx XG r5.2 λf=>
 bt _ f.1 λd=>
 k d false
 else
 wx Kh r5.2 λc=>
 k c.2.2 c.1
def oo:kj:=OH fI rG bt
def n0i:aH:=λi=>aL i [] [(3,[(.exit 0,xk 30 [(2,.ptr 2 0),(4,.ptr 4 0)] [(2,.agg [.sl 2 false [],.sl 10 true [],.sl 4 true [],.int .i64 0,.str [],.str [],.bool false,.sl 1 true [],.sl 1 true [],.sl 1 true [],.str [],.str [],.sl 4 false [],.bool false,.sl 4 false [],.sl 1 true [],.sl 8 true [],.sl 5 true [],.sl 2 true [],.int .i64 0,.int .i64 0,.int .i64 0,.int .i64 0,.sl 2 true [],.sl 1 true [],.bool false,.sl 1 true [],.sl 10 true [],.sl 9 true []]),(4,.agg [.nil,.nil,.nil,.int .i64 0,.str [],.str [],.bool false,.nil,.nil,.nil,.str [],.str [],.nil,.bool false,.nil,.nil,.nil,.nil,.nil,.int .i64 0,.int .i64 0,.int .i64 0,.int .i64 0,.nil,.nil,.bool false,.nil,.nil,.nil])]),(.ret,xk 30 [(2,.ptr 2 0),(4,.ptr 4 0),(5,.bool false)] [(2,.agg [.sl 2 false [],.sl 10 true [],.sl 4 true [],.int .i64 0,.str [],.str [],.bool false,.sl 1 true [],.sl 1 true [],.sl 1 true [],.str [],.str [],.sl 4 false [],.bool false,.sl 4 false [],.sl 1 true [],.sl 8 true [],.sl 5 true [],.sl 2 true [],.int .i64 0,.int .i64 0,.int .i64 0,.int .i64 0,.sl 2 true [],.sl 1 true [],.bool false,.sl 1 true [],.sl 10 true [],.sl 9 true []]),(4,.agg [.own 1000000 2 .clean [],.own 1000001 10 .flat [],.own 1000002 4 .flat [],.int .i64 0,.str [],.str [],.bool false,.own 1000003 1 .flat [],.own 1000004 1 .flat [],.own 1000005 1 .flat [],.str [],.str [],.view 1000006 4 .clean [],.bool false,.own 1000007 4 .clean [],.view 1000008 1 .flat [],.own 1000009 8 .flat [],.own 1000010 5 .flat [],.own 1000011 2 .flat [],.int .i64 0,.int .i64 0,.int .i64 0,.int .i64 0,.own 1000012 2 .flat [],.own 1000013 1 .flat [],.bool false,.view 1000014 1 .flat [],.own 1000015 10 .flat [],.own 1000016 9 .flat []])])])]
theorem u0z (fI:fw)(rG:kj)(bt:ki):KU [(182,rp fI),(254,Hy rG),(251,xu bt)] n0i 252 Tryz.f252 GX (MO (OH fI rG bt )):=λ_ _ _=>by kernel_rfl
theorem b0j:aC D 252 (Hy oo):=aB Tryz.func252 (tc E5 (tc b0l (tc s9 tn))) (u0z fI rG bt )
abbrev BD:Type 1:=(O:Type)->U23->(Bool->Option O)->Option O
def OI (nW:dq):BD:=λO l k=>
 nW _ ⟨l.e,l.f,l.g,l.h,l.i,l.j,l.k,l.l,l.m,l.n,l.o,l.p,l.q,l.r,l.s,l.t,l.u,l.v,l.w,l.x,l.y,l.z⟩ λa=>
 br a (
 k ((nL l.aa)==0)) (
 k false)
def rE:BD:=OI nW
def Ux (F:BD):GT:=λO s k=>F O (et s 0) (λa=>k (.bool a))
abbrev WC (F:BD):WT:=WU HG (Ux F)
theorem v0a (nW:dq):KU [(41,mG nW)] a_ 253 Tryz.f253 HG (Ux (OI nW )):=λ_ _ _=>by kernel_rfl
theorem b0k:aC D 253 (WC rE):=aB Tryz.func253 (tc Q4 tn) (v0a nW )
abbrev BB:Type 1:=(O:Type)->U23->LV->(U23->Option O)->Option O
def OD (bt:ki)(oo:kj)(rE:BD):BB:=λO l d k=>
 bt _ l λm=>
 bM Kn (λb=>
 fB (c0 b.2.1 <|
 Iy b.1 b.2.1.toNat λj=>
 oo _ b.2.2.2.2.2.2.2.2.2.2.2.2.2.2 j λn o=>
 some (.inl (EK (b.1,wi (b.2.1+1),b.2.2.1,b.2.2.2.1,b.2.2.2.2.1,b.2.2.2.2.2.1,b.2.2.2.2.2.2.1,b.2.2.2.2.2.2.2.1,b.2.2.2.2.2.2.2.2.1,b.2.2.2.2.2.2.2.2.2.1,b.2.2.2.2.2.2.2.2.2.2.1,b.2.2.2.2.2.2.2.2.2.2.2.1,b.2.2.2.2.2.2.2.2.2.2.2.2.1,b.2.2.2.2.2.2.2.2.2.2.2.2.2.1,n)))) λj7=>
 br (decide (b.2.1<(nL b.1))) (
 br (decide (b.2.1<100)) (
 j7) (
 some (.inr (0,ju (b.2.2.1,b.2.2.2.1,b.2.2.2.2.1,b.2.2.2.2.2.1,b.2.2.2.2.2.2.1,b.2.2.2.2.2.2.2.1,b.2.2.2.2.2.2.2.2.1,b.2.2.2.2.2.2.2.2.2.1,b.2.2.2.2.2.2.2.2.2.2.1,b.2.2.2.2.2.2.2.2.2.2.2.1,b.2.2.2.2.2.2.2.2.2.2.2.2.1,b.2.2.2.2.2.2.2.2.2.2.2.2.2.1,b.2.2.2.2.2.2.2.2.2.2.2.2.2.2))))) (
 some (.inr (0,ju (b.2.2.1,b.2.2.2.1,b.2.2.2.2.1,b.2.2.2.2.2.1,b.2.2.2.2.2.2.1,b.2.2.2.2.2.2.2.1,b.2.2.2.2.2.2.2.2.1,b.2.2.2.2.2.2.2.2.2.1,b.2.2.2.2.2.2.2.2.2.2.1,b.2.2.2.2.2.2.2.2.2.2.2.1,b.2.2.2.2.2.2.2.2.2.2.2.2.1,b.2.2.2.2.2.2.2.2.2.2.2.2.2.1,b.2.2.2.2.2.2.2.2.2.2.2.2.2.2))))) (EK (d,0,0,[],[],false,[],[],false,0,0,0,0,false,m)) λr8=>
 wx zL r8.2 λc=>
 bM Ko (λa=>
 fB (oo _ a.2.2.2.2.2.2.2.2.2.2.2.2.2 0 λf i=>
 br (!i) (
 some (.inr (1,LB (a.2.2.2.2.2.2.2.2.2.2.2.2.2,a.2.2.2.2.2.2.2.2.2.2.2.2.2)))) (
 some (.inl (EL (wi (a.1+1),a.2.1,a.2.2.1,a.2.2.2.1,a.2.2.2.2.1,a.2.2.2.2.2.1,a.2.2.2.2.2.2.1,a.2.2.2.2.2.2.2.1,a.2.2.2.2.2.2.2.2.1,a.2.2.2.2.2.2.2.2.2.1,a.2.2.2.2.2.2.2.2.2.2.1,a.2.2.2.2.2.2.2.2.2.2.2.1,a.2.2.2.2.2.2.2.2.2.2.2.2.1,f))))) λLF=>
 br (decide (a.1<1000)) (
 rE _ a.2.2.2.2.2.2.2.2.2.2.2.2.2 λh=>
 br (!h) (
 LF) (
 some (.inr (0,ju (a.2.1,a.2.2.1,a.2.2.2.1,a.2.2.2.2.1,a.2.2.2.2.2.1,a.2.2.2.2.2.2.1,a.2.2.2.2.2.2.2.1,a.2.2.2.2.2.2.2.2.1,a.2.2.2.2.2.2.2.2.2.1,a.2.2.2.2.2.2.2.2.2.2.1,a.2.2.2.2.2.2.2.2.2.2.2.1,a.2.2.2.2.2.2.2.2.2.2.2.2.1,a.2.2.2.2.2.2.2.2.2.2.2.2.2))))) (
 some (.inr (0,ju (a.2.1,a.2.2.1,a.2.2.2.1,a.2.2.2.2.1,a.2.2.2.2.2.1,a.2.2.2.2.2.2.1,a.2.2.2.2.2.2.2.1,a.2.2.2.2.2.2.2.2.1,a.2.2.2.2.2.2.2.2.2.1,a.2.2.2.2.2.2.2.2.2.2.1,a.2.2.2.2.2.2.2.2.2.2.2.1,a.2.2.2.2.2.2.2.2.2.2.2.2.1,a.2.2.2.2.2.2.2.2.2.2.2.2.2))))) (EL (0,c.1,c.2.1,c.2.2.1,c.2.2.2.1,c.2.2.2.2.1,c.2.2.2.2.2.1,c.2.2.2.2.2.2.1,c.2.2.2.2.2.2.2.1,c.2.2.2.2.2.2.2.2.1,c.2.2.2.2.2.2.2.2.2.1,c.2.2.2.2.2.2.2.2.2.2.1,c.2.2.2.2.2.2.2.2.2.2.2.1,c.2.2.2.2.2.2.2.2.2.2.2.2)) λr16=>
 if r16.1=0 then
 wx zL r16.2 λg=>
 k g.2.2.2.2.2.2.2.2.2.2.2.2
 else
 wx XL r16.2 λe=>
 k e.1
def rB:BB:=OD bt oo rE
def n0g:aH:=λi=>aL i [] [(3,[(.exit 0,xk 53 [(4,.ptr 4 0),(5,.ptr 5 0)] [(4,.agg [.nil,.nil,.nil,.int .i64 0,.str [],.str [],.bool false,.nil,.nil,.nil,.str [],.str [],.nil,.bool false,.nil,.nil,.nil,.nil,.nil,.int .i64 0,.int .i64 0,.int .i64 0,.int .i64 0,.nil,.nil,.bool false,.nil,.nil,.nil]),(5,.agg [.own 1000000 2 .clean [],.own 1000001 10 .flat [],.own 1000002 4 .flat [],.int .i64 0,.str [],.str [],.bool false,.own 1000003 1 .flat [],.own 1000004 1 .flat [],.own 1000005 1 .flat [],.str [],.str [],.view 1000006 4 .clean [],.bool false,.own 1000007 4 .clean [],.view 1000008 1 .flat [],.own 1000009 8 .flat [],.own 1000010 5 .flat [],.own 1000011 2 .flat [],.int .i64 0,.int .i64 0,.int .i64 0,.int .i64 0,.own 1000012 2 .flat [],.own 1000013 1 .flat [],.bool false,.view 1000014 1 .flat [],.own 1000015 10 .flat [],.own 1000016 9 .flat []])])]),(8,[(.exit 2,xk 53 [(4,.ptr 4 0),(5,.ptr 5 0)] [(4,.agg [.nil,.nil,.nil,.int .i64 0,.str [],.str [],.bool false,.nil,.nil,.nil,.str [],.str [],.nil,.bool false,.nil,.nil,.nil,.nil,.nil,.int .i64 0,.int .i64 0,.int .i64 0,.int .i64 0,.nil,.nil,.bool false,.nil,.nil,.nil]),(5,.agg [.own 1000000 2 .clean [],.own 1000001 10 .flat [],.own 1000002 4 .flat [],.int .i64 0,.str [],.str [],.bool false,.own 1000003 1 .flat [],.own 1000004 1 .flat [],.own 1000005 1 .flat [],.str [],.str [],.view 1000006 4 .clean [],.bool false,.own 1000007 4 .clean [],.view 1000008 1 .flat [],.own 1000009 8 .flat [],.own 1000010 5 .flat [],.own 1000011 2 .flat [],.int .i64 0,.int .i64 0,.int .i64 0,.int .i64 0,.own 1000012 2 .flat [],.own 1000013 1 .flat [],.bool false,.view 1000014 1 .flat [],.own 1000015 10 .flat [],.own 1000016 9 .flat []])]),(.ret,xk 53 [(4,.ptr 4 0),(5,.ptr 5 0)] [(4,.agg [.own 1000000 2 .clean [],.own 1000001 10 .flat [],.own 1000002 4 .flat [],.int .i64 0,.str [],.str [],.bool false,.own 1000003 1 .flat [],.own 1000004 1 .flat [],.own 1000005 1 .flat [],.str [],.str [],.view 1000006 4 .clean [],.bool false,.own 1000007 4 .clean [],.view 1000008 1 .flat [],.own 1000009 8 .flat [],.own 1000010 5 .flat [],.own 1000011 2 .flat [],.int .i64 0,.int .i64 0,.int .i64 0,.int .i64 0,.own 1000012 2 .flat [],.own 1000013 1 .flat [],.bool false,.view 1000014 1 .flat [],.own 1000015 10 .flat [],.own 1000016 9 .flat []]),(5,.agg [.own 1000000 2 .clean [],.own 1000001 10 .flat [],.own 1000002 4 .flat [],.int .i64 0,.str [],.str [],.bool false,.own 1000003 1 .flat [],.own 1000004 1 .flat [],.own 1000005 1 .flat [],.str [],.str [],.view 1000006 4 .clean [],.bool false,.own 1000007 4 .clean [],.view 1000008 1 .flat [],.own 1000009 8 .flat [],.own 1000010 5 .flat [],.own 1000011 2 .flat [],.int .i64 0,.int .i64 0,.int .i64 0,.int .i64 0,.own 1000012 2 .flat [],.own 1000013 1 .flat [],.bool false,.view 1000014 1 .flat [],.own 1000015 10 .flat [],.own 1000016 9 .flat []])])])]
def Uu (F:BB):GT:=λO s k=>F O (et s 0) (lL s 29) (λa=>k (b1f a))
abbrev WA (F:BB):WT:=WU f0z (Uu F)
theorem u0v (bt:ki)(oo:kj)(rE:BD):KU [(251,xu bt),(252,Hy oo),(253,WC rE)] n0g 246 Tryz.f246 f0z (Uu (OD bt oo rE )):=λ_ _ _=>by kernel_rfl
theorem b0g:aC D 246 (WA rB):=aB Tryz.func246 (tc s9 (tc b0j (tc b0k tn))) (u0v bt oo rE )
abbrev A4:Type 1:=(O:Type)->U19->U5->LV->LV->(U19->U8->Bool->Option O)->Option O
def Nw (rA:BA)(rB:BB):A4:=λO n a D B k=>
 rA _ n a D λC E=>
 br (!E) (
 k ⟨C.a,C.b,C.c,C.d⟩ ⟨[],[],false,[],[],[],[],[],[],false,[],[],[],[],[],0,0,0,0,[],[],false⟩ false) (
 rB _ C B λA=>
 k ⟨A.a,A.b,A.c,A.d⟩ ⟨A.e,A.f,A.g,A.h,A.i,A.j,A.k,A.l,A.m,A.n,A.o,A.p,A.q,A.r,A.s,A.t,A.u,A.v,A.w,A.x,A.y,A.z⟩ true)
def qr:A4:=Nw rA rB
def Ul (F:A4):GT:=λO s k=>F O (fy s 0) (fQ s 4) (lL s 6) (lL s 7) (λb a c=>k (.tup [Ci b,i0m a,.bool c]))
abbrev Vx (F:A4):WT:=WU g0a (Ul F)
theorem u0j (rA:BA)(rB:BB):KU [(245,V_ rA),(246,WA rB)] a_ 228 Tryz.f228 g0a (Ul (Nw rA rB )):=λ_ _ _=>by kernel_rfl
theorem a0s:aC D 228 (Vx qr):=aB Tryz.func228 (tc b0f (tc b0g tn)) (u0j rA rB )
abbrev A5:Type 1:=(O:Type)->U19->U5->(U19->U8->Bool->Option O)->Option O
def Nx (bL:gr)(dW:oC)(kv:oc)(kx:dH)(fX:dH)(eT:bV)(fY:nY):A5:=λO n a k=>
 bL _ n a.a a false λl m=>
 dW _ a m λp r=>
 br (!r) (
 k l ⟨[],[],false,[],[],[],[],[],[],false,[],[],[],[],[],0,0,0,0,[],[],false⟩ false) (
 kv _ p m.c λs=>
 kx _ s λq=>
 fX _ q λo=>
 bM Kq (λb=>
 br (decide (b.1<200)) (
 eT _ b.2.2.2.2.2.2.2.2.2.2.2.2.2.2.2 λd=>
 br ((nL d)==0) (
 some (.inr (0,sZ (b.2.2.1,b.2.2.2.1,b.2.2.2.2.1,b.2.2.2.2.2.1,b.2.2.2.2.2.2.1,b.2.2.2.2.2.2.2.1,b.2.2.2.2.2.2.2.2.1,b.2.2.2.2.2.2.2.2.2.1,b.2.2.2.2.2.2.2.2.2.2.1,b.2.2.2.2.2.2.2.2.2.2.2.1,b.2.2.2.2.2.2.2.2.2.2.2.2.1,b.2.2.2.2.2.2.2.2.2.2.2.2.2.1,b.2.2.2.2.2.2.2.2.2.2.2.2.2.2.1,b.2.2.2.2.2.2.2.2.2.2.2.2.2.2.2)))) (
 ci 0 d <|
 oN d 0 1 λg=>
 bL _ b.2.2.2.2.2.2.2.2.2.2.2.2.2.2.1 b.2.1.a g false λh i=>
 ci 0 d <|
 oN d 0 1 λf=>
 fY _ b.2.2.2.2.2.2.2.2.2.2.2.2.2.2.2 f i λj=>
 some (.inl (EM (wi (b.1+1),b.2.1,b.2.2.1,b.2.2.2.1,b.2.2.2.2.1,b.2.2.2.2.2.1,b.2.2.2.2.2.2.1,b.2.2.2.2.2.2.2.1,b.2.2.2.2.2.2.2.2.1,b.2.2.2.2.2.2.2.2.2.1,b.2.2.2.2.2.2.2.2.2.2.1,b.2.2.2.2.2.2.2.2.2.2.2.1,b.2.2.2.2.2.2.2.2.2.2.2.2.1,b.2.2.2.2.2.2.2.2.2.2.2.2.2.1,h,j))))) (
 some (.inr (0,sZ (b.2.2.1,b.2.2.2.1,b.2.2.2.2.1,b.2.2.2.2.2.1,b.2.2.2.2.2.2.1,b.2.2.2.2.2.2.2.1,b.2.2.2.2.2.2.2.2.1,b.2.2.2.2.2.2.2.2.2.1,b.2.2.2.2.2.2.2.2.2.2.1,b.2.2.2.2.2.2.2.2.2.2.2.1,b.2.2.2.2.2.2.2.2.2.2.2.2.1,b.2.2.2.2.2.2.2.2.2.2.2.2.2.1,b.2.2.2.2.2.2.2.2.2.2.2.2.2.2.1,b.2.2.2.2.2.2.2.2.2.2.2.2.2.2.2))))) (EM (0,a,0,[],[],false,[],[],false,0,0,0,0,false,l,o)) λr15=>
 wx KZ r15.2 λe=>
 k e.2.2.2.2.2.2.2.2.2.2.2.2.1 e.2.2.2.2.2.2.2.2.2.2.2.2.2 true)
def qs:A5:=Nx bL dW kv kx fX eT fY
def m0z:aH:=λi=>aL i [] [(7,[(.exit 0,xk 69 [(4,.ptr 4 0),(5,.ptr 5 0),(7,.ptr 7 0),(9,.ptr 9 0)] [(4,.agg [.nil,.nil,.nil,.int .i64 0]),(5,.agg [.str [],.str [],.bool false,.nil,.nil,.nil,.str [],.str [],.nil,.bool false,.nil,.nil,.nil,.nil,.nil,.int .i64 0,.int .i64 0,.int .i64 0,.int .i64 0,.nil,.nil,.bool false]),(7,.agg [.own 1000000 2 .clean [],.own 1000001 10 .flat [],.own 1000002 4 .flat [],.int .i64 0]),(9,.agg [.str [],.str [],.bool false,.own 1000003 1 .flat [],.own 1000004 1 .flat [],.own 1000005 1 .flat [],.str [],.str [],.view 1000006 4 .clean [],.bool false,.own 1000007 4 .clean [],.view 1000008 1 .flat [],.own 1000009 8 .flat [],.own 1000010 5 .flat [],.own 1000011 2 .flat [],.int .i64 0,.int .i64 0,.int .i64 0,.int .i64 0,.own 1000012 2 .flat [],.own 1000013 1 .flat [],.bool false])])])]
def Um (F:A5):GT:=λO s k=>F O (fy s 0) (fQ s 4) (λb a c=>k (.tup [Ci b,i0m a,.bool c]))
abbrev Vy (F:A5):WT:=WU g0b (Um F)
theorem u0k (bL:gr)(dW:oC)(kv:oc)(kx:dH)(fX:dH)(eT:bV)(fY:nY):KU [(184,tY bL),(110,DU dW),(75,PN kv),(78,ng kx),(52,PL fX),(54,KN eT),(55,PM fY)] m0z 229 Tryz.f229 g0b (Um (Nx bL dW kv kx fX eT fY )):=λ_ _ _=>by kernel_rfl
theorem a0t:aC D 229 (Vy qs):=aB Tryz.func229 (tc nq (tc zt (tc JQ (tc JR (tc B_ (tc yZ (tc CA tn))))))) (u0k bL dW kv kx fX eT fY )
abbrev vI:Type 1:=(O:Type)->U20->U5->LV->LV->(U19->U8->Bool->Option O)->Option O
def NR (jc:vN)(qq:A3)(qr:A4)(qs:A5):vI:=λO w a f e k=>
 mq (λ(K:Bool)=>
 br K (
 qq _ ⟨w.a,w.b,w.c,w.d⟩ ⟨w.g,w.h,w.i,w.j,w.k,w.l,w.m,w.n,w.o,w.p,w.q,w.r,w.s,w.t,w.u,w.v,w.w,w.x,w.y,w.z,w.aa,w.ab,w.ac,w.ad,w.ae,w.af⟩ λH G F=>
 k H G F) (
 br w.ag (
 qr _ ⟨w.a,w.b,w.c,w.d⟩ a f e λD E I=>
 k D E I) (
 qs _ ⟨w.a,w.b,w.c,w.d⟩ a λB C A=>
 k B C A))) λj6=>
 br w.ag (
 br (q0 ⟨w.h,w.i⟩ a) (
 jc _ ⟨w.a,w.b,w.c,w.d⟩ ⟨w.g,w.h,w.i,w.j,w.k,w.l,w.m,w.n,w.o,w.p,w.q,w.r,w.s,w.t,w.u,w.v,w.w,w.x,w.y,w.z,w.aa,w.ab,w.ac,w.ad,w.ae,w.af⟩ λJ=>
 j6 (!J)) (
 j6 false)) (
 j6 false)
def jW:vI:=NR jc qq qr qs
def UN (F:vI):GT:=λO s k=>F O (uU s 0) (fQ s 33) (lL s 35) (lL s 36) (λb a c=>k (.tup [Ci b,i0m a,.bool c]))
abbrev PA (F:vI):WT:=WU Jy (UN F)
theorem t0h (jc:vN)(qq:A3)(qr:A4)(qs:A5):KU [(226,PF jc),(227,Vw qq),(228,Vx qr),(229,Vy qs)] a_ 190 Tryz.f190 Jy (UN (NR jc qq qr qs )):=λ_ _ _=>by kernel_rfl
theorem Lr:aC D 190 (PA jW):=aB Tryz.func190 (tc Lz (tc a0r (tc a0s (tc a0t tn)))) (t0h jc qq qr qs )
def NT (bq:fv)(aU:dK)(a8:dH):mF:=λO t p k=>
 bq _ t λx=>
 aU _ t.b 0 (wi ((nL t.a)-1)) λz=>
 br (!z) (
 k x) (
 a8 _ p λw=>
 ci t.b x.a <|
 bU x.a t.b.toNat 0 (w9 ⟨p.a,p.b,w.a,w.b,w.c,w.d,w.e,w.f,w.g,w.h,w.i,w.j,w.k,w.l,w.m,w.n,w.o,w.p,w.q,w.r,w.s,w.t,w.u,w.v,true⟩).cells λy=>
 k {x with a:=y})
def qd:mF:=NT bq aU a8
def UO (F:mF):GT:=λO s k=>F O (iH s 0) (dr s 2) (λa=>k (f0o a))
abbrev Vk (F:mF):WT:=WU i0v (UO F)
theorem t0i (bq:fv)(aU:dK)(a8:dH):KU [(181,ro bq),(65,ko aU),(79,ng a8)] a_ 191 Tryz.f191 i0v (UO (NT bq aU a8 )):=λ_ _ _=>by kernel_rfl
theorem Z9:aC D 191 (Vk qd):=aB Tryz.func191 (tc s7 (tc eI (tc iC tn))) (t0i bq aU a8 )
abbrev Ab:Type 1:=(O:Type)->U20->Int->LV->LV->(U20->Bool->Option O)->Option O
def Mt (jU:fv)(jN:u_)(fJ:rk)(dm:rl)(qc:rn)(jV:vH)(jW:vI)(qd:mF):Ab:=λO w q m g k=>
 jU _ ⟨w.e,w.f⟩ λu=>
 jN _ u q λn z=>
 fB (dm _ w λj=>
 qc _ n λy p=>
 br p (
 k ⟨j.a,j.b,j.c,j.d,n.a,n.b,false,[],[],false,[],[],[],[],[],[],false,[],[],[],[],[],0,0,0,0,[],[],false,[],[],0,j.ag⟩ true) (
 jV _ n λi v=>
 jW _ w i m g λh o t=>
 qd _ n {o with a:=i.a,b:=i.b} λl=>
 k ⟨h.a,h.b,h.c,h.d,l.a,l.b,false,[],[],false,[],[],[],[],[],[],false,[],[],[],[],[],0,0,0,0,[],[],false,[],[],0,j.ag⟩ true)) λY2=>
 fJ _ w λx=>
 br (!x) (
 dm _ w λr=>
 k r false) (
 br (!z) (
 dm _ w λs=>
 k s false) (
 Y2))
def qP:Ab:=Mt jU jN fJ dm qc jV jW qd
def Tm (F:Ab):GT:=λO s k=>F O (uU s 0) (lI s 33) (lL s 34) (lL s 35) (λb a=>k (.tup [b1e b,.bool a]))
abbrev VY (F:Ab):WT:=WU g0c (Tm F)
theorem r0z (jU:fv)(jN:u_)(fJ:rk)(dm:rl)(qc:rn)(jV:vH)(jW:vI)(qd:mF):KU [(185,ro jU),(136,Ow jN),(186,Hu fJ),(187,Hv dm),(188,Hw qc),(189,O_ jV),(190,PA jW),(191,Vk qd)] a_ 139 Tryz.f139 g0c (Tm (Mt jU jN fJ dm qc jV jW qd )):=λ_ _ _=>by kernel_rfl
theorem Zs:aC D 139 (VY qP):=aB Tryz.func139 (tc Lp (tc Lb (tc E7 (tc E8 (tc Z8 (tc Lq (tc Lr (tc Z9 tn)))))))) (r0z jU jN fJ dm qc jV jW qd )
def xZ (aG:be):bc:=λO c k=>
 aG _ [.str [105,110,100,101,120],.str [105,110,100,101,120],.str [110,101,120,116]] c λb a=>
 k ⟨[104,111,109,101],b⟩ a
def cg:bc:=xZ aG
abbrev xt (F:bc):WT:=WU g0d (sL F)
theorem Qn (aG:be):KI [(73,ah (fZ aG))] a_ 143 ⟨[.pt],7,1,false⟩ Tryz.f143 g0d (sL (xZ aG )):=λ_ _ _=>by kernel_rfl
theorem zy:aC D 143 (ah (xt cg)):=aO Tryz.func143 (tc eA tn) (Qn aG )
abbrev vJ:Type 1:=(O:Type)->LU->U5->(Bool->Option O)->Option O
def NU (dw:oa):vJ:=λO b a k=>
 dw _ a λc=>
 br c (
 k (a.a==b)) (
 k false)
def jX:vJ:=NU dw
def UP (F:vJ):GT:=λO s k=>F O (lS s 0) (fQ s 1) (λa=>k (.bool a))
abbrev PB (F:vJ):WT:=WU g0e (UP F)
theorem t0j (dw:oa):KU [(67,Dr dw)] a_ 192 Tryz.f192 g0e (UP (NU dw )):=λ_ _ _=>by kernel_rfl
theorem Lt:aC D 192 (PB jX):=aB Tryz.func192 (tc wZ tn) (t0j dw )
abbrev Ar:Type 1:=(O:Type)->U8->(Int->Option O)->Option O
def NW (eT:bV):Ar:=λO p k=>
 eT _ p λl1=>
 bM vm (λb=>
 br (decide (b.2.1<(nL b.1))) (
 ci b.2.1 b.1 <|
 fO b.1 b.2.1.toNat 1 λt3=>
 br (t3==b.2.2.a) (
 some (.inr (1,cY b.2.1))) (
 some (.inl (ga (b.1,wi (b.2.1+1),b.2.2))))) (
 some (.inr (0,[])))) (ga (l1,0,p)) λr4=>
 if r4.1=0 then
 k (-1)
 else
 wx iX r4.2 λc=>
 k c
def qe:Ar:=NW eT
def m0o:aH:=λi=>aL i [] [(3,[(.exit 0,xk 24 [] []),(.ret,xk 24 [(2,.int .i64 0)] [])])]
def UR (F:Ar):GT:=λO s k=>F O (dr s 0) (λa=>k (.int .i64 a))
abbrev Vl (F:Ar):WT:=WU kq (UR F)
theorem t0l (eT:bV):KU [(54,KN eT)] m0o 194 Tryz.f194 kq (UR (NW eT )):=λ_ _ _=>by kernel_rfl
theorem Z_:aC D 194 (Vl qe):=aB Tryz.func194 (tc yZ tn) (t0l eT )
end
end Go.Am

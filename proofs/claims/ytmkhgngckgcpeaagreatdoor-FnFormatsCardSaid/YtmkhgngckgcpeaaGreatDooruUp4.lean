/-
  Proved: lemmas for Rows.FnFormatsCardSaid.
-/
import Derived.Test.YtmkhgngckgcpeaaGreatDooruUp3
set_option linter.all false
set_option maxRecDepth 10000
namespace Go.Am
open Go Go.Proofs
noncomputable section
abbrev iR:Type 1:=(O:Type)->U8->U5->LV->LV->(LV->LV->Option O)->Option O
def tT (dL:oF)(eu:ri)(dv:iR):iR:=λO p a b d k=>
 dL _ b a λh=>
 br h (
 k b d) (
 ca ([]:LV) b 32 <|
 ca (([]:LV)++b) ([w2 a]:LV) 32 <|
 eu _ p a λl2 j=>
 bM Xi (λc=>
 br (decide (c.2.2.2.1<(nL c.2.2.1))) (
 ci c.2.2.2.1 c.2.2.1 <|
 oN c.2.2.1 c.2.2.2.1.toNat 0 λi=>
 dv _ c.2.2.2.2.1 i c.1 c.2.1 λf g=>
 some (.inl (QN (f,g,c.2.2.1,wi (c.2.2.2.1+1),c.2.2.2.2.1,c.2.2.2.2.2)))) (
 some (.inr (0,Ye (c.1,c.2.1,c.2.2.2.2.2))))) (QN ((([]:LV)++b)++([w2 a]:LV),d,l2,0,p,a)) λr8=>
 wx o0q r8.2 λe=>
 ca ([]:LV) e.2.1 32 <|
 ca (([]:LV)++e.2.1) ([w2 e.2.2]:LV) 32 <|
 k e.1 ((([]:LV)++e.2.1)++([w2 e.2.2]:LV)))
def lW:Nat->iR
 |0=>λ_ _ _ _ _ _=>none
 |n+1=>tT dL eu (lW n)
def dv:iR:=lW 1099511627776
def PZ:aH:=λi=>aL i [] [(6,[(.exit 0,xk 54 [(2,.own 1000000 2 .flat []),(3,.own 1000001 2 .flat []),(5,.ptr 5 0)] [(5,.agg [.str [],.str []])])])]
def Cy (F:iR):GT:=λO s k=>F O (dr s 0) (fQ s 22) (lL s 24) (lL s 25) (λb a=>k (.tup [.own 0 2 .flat b,.own 1 2 .flat a]))
abbrev tZ (F:iR):WT:=WU f1i (Cy F)
theorem Qx (dL:oF)(eu:ri)(dv:iR):KI [(172,Dh dL),(129,Hp eu),(213,ah (tZ dv))] PZ 213 ⟨[.data,.data,.mv,.mv],54,0,false⟩ Tryz.f213 f1i (Cy (tT dL eu dv)):=λ_ _ _=>by kernel_rfl
theorem wa:∀n,aC D 213 (ah (tZ (lW n)))
 |0=>Ef (λO args k=>by
 show(if _ then _ else none)=none
 split<;>rfl)
 |n+1=>aO Tryz.func213 (tc z_ (tc E2 (tc (wa n) tn))) (Qx dL eu (lW n))
theorem JN:aC D 213 (ah (tZ dv)):=wa _
abbrev rj:Type 1:=(O:Type)->U8->U5->(LV->Option O)->Option O
def M7 (dv:iR):rj:=λO p a k=>
 dv _ p a [] [] λl1 l2=>
 k l2
def eX:rj:=M7 dv
def UA (F:rj):GT:=λO s k=>F O (dr s 0) (fQ s 22) (λa=>k (.own 0 2 .flat a))
abbrev Ht (F:rj):WT:=WU CY (UA F)
theorem s0n (dv:iR):KU [(213,ah (tZ dv))] a_ 170 Tryz.f170 CY (UA (M7 dv )):=λ_ _ _=>by kernel_rfl
theorem E4:aC D 170 (Ht eX):=aB Tryz.func170 (tc JN tn) (s0n dv )
abbrev mD:Type 1:=(O:Type)->U8->U5->(Bool->Option O)->Option O
def Mf (eX:rj)(cV:mE):mD:=λO p a k=>
 eX _ p a λl1=>
 bM vm (λb=>
 br (decide (b.2.1<(nL b.1))) (
 ci b.2.1 b.1 <|
 oN b.1 b.2.1.toNat 0 λf=>
 cV _ b.2.2 f λd=>
 br (decide (d<0)) (
 some (.inr (1,lf false))) (
 c0 d <|
 ie b.2.2.n d.toNat λg=>
 br (!g.c) (
 some (.inr (1,lf false))) (
 some (.inl (ga (b.1,wi (b.2.1+1),b.2.2)))))) (
 some (.inr (0,[])))) (ga (l1,0,p)) λr7=>
 if r7.1=0 then
 k true
 else
 wx Bc r7.2 λe=>
 k e
def qL:mD:=Mf eX cV
def l0y:aH:=λi=>aL i [] [(3,[(.exit 0,xk 34 [] []),(.ret,xk 34 [(4,.bool false)] [])])]
def HV (F:mD):GT:=λO s k=>F O (dr s 0) (fQ s 22) (λa=>k (.bool a))
abbrev BP (F:mD):WT:=WU CY (HV F)
theorem r0l (eX:rj)(cV:mE):KU [(170,Ht eX),(126,BQ cV)] l0y 122 Tryz.f122 CY (HV (Mf eX cV )):=λ_ _ _=>by kernel_rfl
theorem Zo:aC D 122 (BP qL):=aB Tryz.func122 (tc E4 (tc wY tn)) (r0l eX cV )
def M8 (eX:rj)(eu:ri):mD:=λO p a k=>
 eX _ p a λl1=>
 bM vm (λb=>
 br (decide (b.2.1<(nL b.1))) (
 ci b.2.1 b.1 <|
 oN b.1 b.2.1.toNat 0 λe=>
 eu _ b.2.2 e λf d=>
 br (!d) (
 some (.inr (1,lf true))) (
 some (.inl (ga (b.1,wi (b.2.1+1),b.2.2))))) (
 some (.inr (0,[])))) (ga (l1,0,p)) λr6=>
 if r6.1=0 then
 k false
 else
 wx Bc r6.2 λc=>
 k c
def qX:mD:=M8 eX eu
def m0i:aH:=λi=>aL i [] [(3,[(.exit 0,xk 29 [] []),(.ret,xk 29 [(4,.bool false)] [])])]
theorem s0o (eX:rj)(eu:ri):KU [(170,Ht eX),(129,Hp eu)] m0i 171 Tryz.f171 CY (HV (M8 eX eu )):=λ_ _ _=>by kernel_rfl
theorem Z3:aC D 171 (BP qX):=aB Tryz.func171 (tc E4 (tc E2 tn)) (s0o eX eu )
abbrev sM:Type 1:=(O:Type)->U5->(LU->Option O)->Option O
def k0o (dw:oa):sM:=λO a k=>
 dw _ a λc=>
 br (!c) (
 k []) (
 cs a.a ([47]:LU) <|
 cs (a.a++[47]) a.b <|
 k ((a.a++[47])++a.b))
def jg:sM:=k0o dw
def j0n (F:sM):GT:=λO s k=>F O (fQ s 0) (λa=>k (.str a))
abbrev H3 (F:sM):WT:=WU TL (j0n F)
theorem i1l (dw:oa):KU [(67,Dr dw)] a_ 40 Tryz.f40 TL (j0n (k0o dw )):=λ_ _ _=>by kernel_rfl
theorem JP:aC D 40 (H3 jg):=aB Tryz.func40 (tc wZ tn) (i1l dw )
def xU:oc:=λO p s k=>
 br (decide ((nL p.u)<40)) (
 ca p.u ([.str s]:LV) 16 <|
 k {p with u:=p.u++([.str s]:LV)}) (
 k p)
def cd:oc:=xU
def Cp (F:oc):GT:=λO s k=>F O (dr s 0) (lS s 22) (λa=>k (.tup [GU a]))
abbrev xq (F:oc):WT:=WU f1j (Cp F)
theorem Qi:KI [] a_ 124 ⟨[.mv,.data],16,0,false⟩ Tryz.f124 f1j (Cp (xU )):=λ_ _ _=>by kernel_rfl
theorem zw:aC D 124 (ah (xq cd)):=aO Tryz.func124 tn (Qi )
def Mg (a8:dH)(qX:mD)(jg:sM)(cd:oc)(eX:rj)(dL:oF)(cV:mE)(jS:vF)(jR:bV)(jQ:vE):oE:=λO p a k=>
 a8 _ p λy=>
 qX _ p a λF=>
 br F (
 jg _ a λt3=>
 cs ([102,97,105,108,32]:LU) t3 <|
 cd _ y ([102,97,105,108,32]++t3) λB=>
 k B) (
 eX _ p a λG=>
 bM IL (λd=>
 br (decide (d.2.1<(nL d.1))) (
 ci d.2.1 d.1 <|
 oN d.1 d.2.1.toNat 0 λA=>
 dL _ d.2.2.2.2.2.2.2.2.2.2.2.2.2.t A λC=>
 br C (
 some (.inl (vx (d.1,wi (d.2.1+1),d.2.2.1,d.2.2.2.1,d.2.2.2.2.1,d.2.2.2.2.2.1,d.2.2.2.2.2.2.1,d.2.2.2.2.2.2.2.1,d.2.2.2.2.2.2.2.2.1,d.2.2.2.2.2.2.2.2.2.1,d.2.2.2.2.2.2.2.2.2.2.1,d.2.2.2.2.2.2.2.2.2.2.2.1,d.2.2.2.2.2.2.2.2.2.2.2.2.1,d.2.2.2.2.2.2.2.2.2.2.2.2.2)))) (
 ci d.2.1 d.1 <|
 oN d.1 d.2.1.toNat 0 λh=>
 ca d.2.2.2.2.2.2.2.2.2.2.2.2.2.t ([w2 h]:LV) 32 <|
 ci d.2.1 d.1 <|
 oN d.1 d.2.1.toNat 0 λo=>
 ci d.2.1 d.1 <|
 fO d.1 d.2.1.toNat 0 λq=>
 cV _ {d.2.2.2.2.2.2.2.2.2.2.2.2.2 with t:=d.2.2.2.2.2.2.2.2.2.2.2.2.2.t++([w2 h]:LV)} o λg=>
 ci g d.2.2.2.2.2.2.2.2.2.2.2.2.2.n <|
 fO d.2.2.2.2.2.2.2.2.2.2.2.2.2.n g.toNat 4 λm=>
 jS _ m q λE i D=>
 jR _ {d.2.2.2.2.2.2.2.2.2.2.2.2.2 with t:=d.2.2.2.2.2.2.2.2.2.2.2.2.2.t++([w2 h]:LV)} λv=>
 jQ _ ⟨d.2.2.2.2.2.2.2.2.2.2.2.2.2.k,d.2.2.2.2.2.2.2.2.2.2.2.2.2.l⟩ v i λf z s=>
 bM Xj (λc=>
 br (decide (c.2.2.2.1<(nL c.2.2.1))) (
 ci c.2.2.2.1 c.2.2.1 <|
 fO c.2.2.1 c.2.2.2.1.toNat 0 λw=>
 cd _ c.2.2.2.2.2.2.2.2.2.2.2.2.2.2.2 w λx=>
 some (.inl (QO (c.1,c.2.1,c.2.2.1,wi (c.2.2.2.1+1),c.2.2.2.2.1,c.2.2.2.2.2.1,c.2.2.2.2.2.2.1,c.2.2.2.2.2.2.2.1,c.2.2.2.2.2.2.2.2.1,c.2.2.2.2.2.2.2.2.2.1,c.2.2.2.2.2.2.2.2.2.2.1,c.2.2.2.2.2.2.2.2.2.2.2.1,c.2.2.2.2.2.2.2.2.2.2.2.2.1,c.2.2.2.2.2.2.2.2.2.2.2.2.2.1,c.2.2.2.2.2.2.2.2.2.2.2.2.2.2.1,x)))) (
 some (.inr (0,vx (c.1,c.2.1,c.2.2.2.2.1,c.2.2.2.2.2.1,c.2.2.2.2.2.2.1,c.2.2.2.2.2.2.2.1,c.2.2.2.2.2.2.2.2.1,c.2.2.2.2.2.2.2.2.2.1,c.2.2.2.2.2.2.2.2.2.2.1,c.2.2.2.2.2.2.2.2.2.2.2.1,c.2.2.2.2.2.2.2.2.2.2.2.2.1,c.2.2.2.2.2.2.2.2.2.2.2.2.2.1,c.2.2.2.2.2.2.2.2.2.2.2.2.2.2.1,c.2.2.2.2.2.2.2.2.2.2.2.2.2.2.2))))) (QO (d.1,d.2.1,s,0,d.2.2.1,d.2.2.2.1,d.2.2.2.2.1,d.2.2.2.2.2.1,d.2.2.2.2.2.2.1,d.2.2.2.2.2.2.2.1,d.2.2.2.2.2.2.2.2.1,d.2.2.2.2.2.2.2.2.2.1,d.2.2.2.2.2.2.2.2.2.2.1,d.2.2.2.2.2.2.2.2.2.2.2.1,d.2.2.2.2.2.2.2.2.2.2.2.2.1,{d.2.2.2.2.2.2.2.2.2.2.2.2.2 with k:=f.a,l:=f.b,t:=d.2.2.2.2.2.2.2.2.2.2.2.2.2.t++([w2 h]:LV)})) λj=>
 wx IL j.2 λe=>
 some (.inl (vx (e.1,wi (e.2.1+1),e.2.2.1,e.2.2.2.1,e.2.2.2.2.1,e.2.2.2.2.2.1,e.2.2.2.2.2.2.1,e.2.2.2.2.2.2.2.1,e.2.2.2.2.2.2.2.2.1,e.2.2.2.2.2.2.2.2.2.1,e.2.2.2.2.2.2.2.2.2.2.1,e.2.2.2.2.2.2.2.2.2.2.2.1,e.2.2.2.2.2.2.2.2.2.2.2.2.1,e.2.2.2.2.2.2.2.2.2.2.2.2.2))))) (
 some (.inr (0,vu (d.2.2.1,d.2.2.2.1,d.2.2.2.2.1,d.2.2.2.2.2.1,d.2.2.2.2.2.2.1,d.2.2.2.2.2.2.2.1,d.2.2.2.2.2.2.2.2.1,d.2.2.2.2.2.2.2.2.2.1,d.2.2.2.2.2.2.2.2.2.2.1,d.2.2.2.2.2.2.2.2.2.2.2.1,d.2.2.2.2.2.2.2.2.2.2.2.2.1,d.2.2.2.2.2.2.2.2.2.2.2.2.2))))) (vx (G,0,[],[],false,[],[],false,0,0,0,0,false,y)) λu=>
 wx IJ u.2 λr=>
 k r.2.2.2.2.2.2.2.2.2.2.2)
def qM:oE:=Mg a8 qX jg cd eX dL cV jS jR jQ
def l0z:aH:=λi=>aL i [] [(6,[(.exit 0,xk 96 [(4,.ptr 4 0),(5,.ptr 5 0)] [(4,.agg [.str [],.str [],.bool false,.nil,.nil,.nil,.str [],.str [],.nil,.bool false,.nil,.nil,.nil,.nil,.nil,.int .i64 0,.int .i64 0,.int .i64 0,.int .i64 0,.nil,.nil,.bool false]),(5,.agg [.str [],.str [],.bool false,.own 1000000 1 .flat [],.own 1000001 1 .flat [],.own 1000002 1 .flat [],.str [],.str [],.own 1000003 4 .clean [],.bool false,.own 1000004 4 .clean [],.own 1000005 1 .flat [],.own 1000006 8 .flat [],.own 1000007 5 .flat [],.own 1000008 2 .flat [],.int .i64 0,.int .i64 0,.int .i64 0,.int .i64 0,.own 1000009 2 .flat [],.own 1000010 1 .flat [],.bool false])])]),(14,[(.exit 2,xk 96 [(4,.ptr 4 0),(5,.ptr 5 0),(6,.own 1000011 2 .flat []),(7,.int .i64 0)] [(4,.agg [.str [],.str [],.bool false,.nil,.nil,.nil,.str [],.str [],.nil,.bool false,.nil,.nil,.nil,.nil,.nil,.int .i64 0,.int .i64 0,.int .i64 0,.int .i64 0,.nil,.nil,.bool false]),(5,.agg [.str [],.str [],.bool false,.own 1000000 1 .flat [],.own 1000001 1 .flat [],.own 1000002 1 .flat [],.str [],.str [],.own 1000003 4 .clean [],.bool false,.own 1000004 4 .clean [],.own 1000005 1 .flat [],.own 1000006 8 .flat [],.own 1000007 5 .flat [],.own 1000008 2 .flat [],.int .i64 0,.int .i64 0,.int .i64 0,.int .i64 0,.own 1000009 2 .flat [],.own 1000010 1 .flat [],.bool false])])])]
theorem r0m (a8:dH)(qX:mD)(jg:sM)(cd:oc)(eX:rj)(dL:oF)(cV:mE)(jS:vF)(jR:bV)(jQ:vE):KU [(79,ng a8),(171,BP qX),(40,H3 jg),(124,ah (xq cd)),(170,Ht eX),(172,Dh dL),(126,BQ cV),(173,O6 jS),(165,O5 jR),(164,O4 jQ)] l0z 123 Tryz.f123 CY (MJ (Mg a8 qX jg cd eX dL cV jS jR jQ )):=λ_ _ _=>by kernel_rfl
theorem Zp:aC D 123 (DW qM):=aB Tryz.func123 (tc iC (tc Z3 (tc JP (tc zw (tc E4 (tc z_ (tc wY (tc Lk (tc Lj (tc Li tn)))))))))) (r0m a8 qX jg cd eX dL cV jS jR jQ )
def l0f:bV:=λO p k=>
 bM vm (λa=>
 br (decide (a.2.1<(nL a.2.2.m))) (
 c0 a.2.1 <|
 pM a.2.2.m a.2.1.toNat λc=>
 br (!c.f) (
 ca a.1 ([.int .i64 a.2.1]:LV) 8 <|
 some (.inl (ga (a.1++([.int .i64 a.2.1]:LV),wi (a.2.1+1),a.2.2)))) (
 some (.inl (ga (a.1,wi (a.2.1+1),a.2.2))))) (
 some (.inr (0,fo a.1)))) (ga ([],0,p)) λr5=>
 wx ru r5.2 λb=>
 k b
def um:bV:=l0f
theorem j1f:KU [] PQ 83 Tryz.f83 kq (HU (l0f )):=λ_ _ _=>by kernel_rfl
theorem c0l:aC D 83 (vP um):=aB Tryz.func83 tn (j1f )
def l0h:bV:=λO p k=>
 bM vm (λa=>
 br (decide (a.2.1<(nL a.2.2.n))) (
 c0 a.2.1 <|
 ie a.2.2.n a.2.1.toNat λd=>
 br (!d.c) (
 ca a.1 ([.int .i64 a.2.1]:LV) 8 <|
 some (.inl (ga (a.1++([.int .i64 a.2.1]:LV),wi (a.2.1+1),a.2.2)))) (
 some (.inl (ga (a.1,wi (a.2.1+1),a.2.2))))) (
 some (.inr (0,fo a.1)))) (ga ([],0,p)) λr5=>
 wx ru r5.2 λb=>
 k b
def ur:bV:=l0h
theorem j1h:KU [] PQ 85 Tryz.f85 kq (HU (l0h )):=λ_ _ _=>by kernel_rfl
theorem c0m:aC D 85 (vP ur):=aB Tryz.func85 tn (j1h )
def l0e (a8:dH)(qJ:dq)(qK:bV)(gj:dq)(iN:uy)(qL:mD)(qM:oE)(um:bV)(ur:bV)(cd:oc):kg:=λO p k=>
 a8 _ p λa=>
 fB (qK _ p λe=>
 br (decide (p.r<(nL e))) (
 ci p.r e <|
 Is e p.r.toNat 0 λb=>
 fB (c0 b <|
 pM p.m b.toNat λx=>
 br (x.g==1) (
 c0 b <|
 pM p.m b.toNat λi=>
 iN _ p i.h false λl=>
 k {l with r:=wi (p.r+1)} true) (
 k {a with r:=wi (p.r+1)} true)) λyP=>
 c0 b <|
 pM p.m b.toNat λy=>
 br (!y.f) (
 k a false) (
 gj _ p λw=>
 br (!w) (
 k a false) (
 yP))) (
 br (decide (p.s<(nL p.o))) (
 c0 p.s <|
 Qd p.o p.s.toNat λc=>
 qL _ p c λj=>
 br (!j) (
 k a false) (
 gj _ p λd=>
 br (!d) (
 k a false) (
 qM _ p c λq=>
 k {q with s:=wi (p.s+1)} true))) (
 fB (cd _ a [108,111,97,100] λu=>
 k {u with v:=true} true) λq0u=>
 um _ p λn=>
 br (decide ((nL n)>0)) (
 k a false) (
 ur _ p λt=>
 br (decide ((nL t)>0)) (
 k a false) (
 q0u))))) λLH=>
 qJ _ p λz=>
 br (!z) (
 k a false) (
 br p.v (
 k a false) (
 br (decide (p.r<0)) (
 k a false) (
 br (decide (p.s<0)) (
 k a false) (
 LH))))
def Gn:kg:=l0e a8 qJ qK gj iN qL qM um ur cd
def c1c (F:kg):GT:=λO s k=>F O (dr s 0) (λb a=>k (.tup [GU b,.bool a]))
abbrev c1o (F:kg):WT:=WU kq (c1c F)
theorem j1e (a8:dH)(qJ:dq)(qK:bV)(gj:dq)(iN:uy)(qL:mD)(qM:oE)(um:bV)(ur:bV)(cd:oc):KU [(79,ng a8),(120,mG qJ),(121,vP qK),(116,mG gj),(117,On iN),(122,BP qL),(123,DW qM),(83,vP um),(85,vP ur),(124,ah (xq cd))] a_ 81 Tryz.f81 kq (c1c (l0e a8 qJ qK gj iN qL qM um ur cd )):=λ_ _ _=>by kernel_rfl
theorem x0i:aC D 81 (c1o Gn):=aB Tryz.func81 (tc iC (tc Zm (tc Zn (tc LQ (tc LS (tc Zo (tc Zp (tc c0l (tc c0m (tc zw tn)))))))))) (j1e a8 qJ qK gj iN qL qM um ur cd )
def k0u (a8:dH)(Gm:kg)(Gn:kg):dH:=λO p k=>
 a8 _ p λe=>
 bM Xk (λa=>
 br (decide (a.1<2000)) (
 Gm _ a.2.2.2.2.2.2.2.2.2.2.2.2 λg b=>
 br (!b) (
 Gn _ a.2.2.2.2.2.2.2.2.2.2.2.2 λh f=>
 br (!f) (
 some (.inr (1,QP (a.2.2.2.2.2.2.2.2.2.2.2.2,a.2.2.2.2.2.2.2.2.2.2.2.2)))) (
 some (.inl (Ie (wi (a.1+1),a.2.1,a.2.2.1,a.2.2.2.1,a.2.2.2.2.1,a.2.2.2.2.2.1,a.2.2.2.2.2.2.1,a.2.2.2.2.2.2.2.1,a.2.2.2.2.2.2.2.2.1,a.2.2.2.2.2.2.2.2.2.1,a.2.2.2.2.2.2.2.2.2.2.1,a.2.2.2.2.2.2.2.2.2.2.2.1,h))))) (
 br (!b) (
 some (.inr (1,QP (a.2.2.2.2.2.2.2.2.2.2.2.2,a.2.2.2.2.2.2.2.2.2.2.2.2)))) (
 some (.inl (Ie (wi (a.1+1),a.2.1,a.2.2.1,a.2.2.2.1,a.2.2.2.2.1,a.2.2.2.2.2.1,a.2.2.2.2.2.2.1,a.2.2.2.2.2.2.2.1,a.2.2.2.2.2.2.2.2.1,a.2.2.2.2.2.2.2.2.2.1,a.2.2.2.2.2.2.2.2.2.2.1,a.2.2.2.2.2.2.2.2.2.2.2.1,g)))))) (
 some (.inr (0,vu (a.2.1,a.2.2.1,a.2.2.2.1,a.2.2.2.2.1,a.2.2.2.2.2.1,a.2.2.2.2.2.2.1,a.2.2.2.2.2.2.2.1,a.2.2.2.2.2.2.2.2.1,a.2.2.2.2.2.2.2.2.2.1,a.2.2.2.2.2.2.2.2.2.2.1,a.2.2.2.2.2.2.2.2.2.2.2.1,a.2.2.2.2.2.2.2.2.2.2.2.2))))) (Ie (0,[],[],false,[],[],false,0,0,0,0,false,e)) λr7=>
 if r7.1=0 then
 wx IJ r7.2 λc=>
 k c.2.2.2.2.2.2.2.2.2.2.2
 else
 wx o0r r7.2 λd=>
 k d.1
def fX:dH:=k0u a8 Gm Gn
def g1l:aH:=λi=>aL i [] [(3,[(.exit 0,xk 30 [(2,.ptr 2 0),(3,.ptr 3 0)] [(2,.agg [.str [],.str [],.bool false,.nil,.nil,.nil,.str [],.str [],.nil,.bool false,.nil,.nil,.nil,.nil,.nil,.int .i64 0,.int .i64 0,.int .i64 0,.int .i64 0,.nil,.nil,.bool false]),(3,.agg [.str [],.str [],.bool false,.own 1000000 1 .flat [],.own 1000001 1 .flat [],.own 1000002 1 .flat [],.str [],.str [],.view 1000003 4 .clean [],.bool false,.own 1000004 4 .clean [],.view 1000005 1 .flat [],.own 1000006 8 .flat [],.own 1000007 5 .flat [],.own 1000008 2 .flat [],.int .i64 0,.int .i64 0,.int .i64 0,.int .i64 0,.own 1000009 2 .flat [],.own 1000010 1 .flat [],.bool false])]),(.ret,xk 30 [(2,.ptr 2 0),(3,.ptr 3 0)] [(2,.agg [.str [],.str [],.bool false,.own 1000000 1 .flat [],.own 1000001 1 .flat [],.own 1000002 1 .flat [],.str [],.str [],.view 1000003 4 .clean [],.bool false,.own 1000004 4 .clean [],.view 1000005 1 .flat [],.own 1000006 8 .flat [],.own 1000007 5 .flat [],.own 1000008 2 .flat [],.int .i64 0,.int .i64 0,.int .i64 0,.int .i64 0,.own 1000009 2 .flat [],.own 1000010 1 .flat [],.bool false]),(3,.agg [.str [],.str [],.bool false,.own 1000000 1 .flat [],.own 1000001 1 .flat [],.own 1000002 1 .flat [],.str [],.str [],.view 1000003 4 .clean [],.bool false,.own 1000004 4 .clean [],.view 1000005 1 .flat [],.own 1000006 8 .flat [],.own 1000007 5 .flat [],.own 1000008 2 .flat [],.int .i64 0,.int .i64 0,.int .i64 0,.int .i64 0,.own 1000009 2 .flat [],.own 1000010 1 .flat [],.bool false])])])]
def b1y (F:dH):GT:=λO s k=>F O (dr s 0) (λa=>k (MG a))
abbrev PL (F:dH):WT:=WU kq (b1y F)
theorem i1s (a8:dH)(Gm:kg)(Gn:kg):KU [(79,ng a8),(80,Hn Gm),(81,c1o Gn)] g1l 52 Tryz.f52 kq (b1y (k0u a8 Gm Gn )):=λ_ _ _=>by kernel_rfl
theorem B_:aC D 52 (PL fX):=aB Tryz.func52 (tc iC (tc x0h (tc x0i tn))) (i1s a8 Gm Gn )
def l0i (aU:dK):xM:=λO p xk k=>
 aU _ xk 0 (wi ((nL p.n)-1)) λd=>
 br (!d) (
 k ⟨0,[],[],[],[]⟩) (
 c0 xk <|
 ie p.n xk.toNat λc=>
 k ⟨5,c.a,c.b,p.a,[]⟩)
def uv:xM:=l0i aU
theorem j1i (aU:dK):KU [(65,ko aU)] a_ 86 Tryz.f86 b1p (j0u (l0i aU )):=λ_ _ _=>by kernel_rfl
theorem c0n:aC D 86 (PO uv):=aB Tryz.func86 (tc eI tn) (j1i aU )
def k0v (um:bV)(oX:xM)(ur:bV)(uv:xM):bV:=λO p k=>
 um _ p λl1=>
 bM IM (λa=>
 br (decide (a.2.2.1<(nL a.2.1))) (
 ci a.2.2.1 a.2.1 <|
 Is a.2.1 a.2.2.1.toNat 0 λi=>
 oX _ a.2.2.2 i λf=>
 ca a.1 ([w7 f]:LV) 72 <|
 some (.inl (pD (a.1++([w7 f]:LV),a.2.1,wi (a.2.2.1+1),a.2.2.2)))) (
 some (.inr (0,Yf (a.1,a.2.2.2))))) (pD ([],l1,0,p)) λr5=>
 wx o0s r5.2 λe=>
 ur _ e.2 λh=>
 bM IM (λb=>
 br (decide (b.2.2.1<(nL b.2.1))) (
 ci b.2.2.1 b.2.1 <|
 Is b.2.1 b.2.2.1.toNat 0 λg=>
 uv _ b.2.2.2 g λc=>
 ca b.1 ([w7 c]:LV) 72 <|
 some (.inl (pD (b.1++([w7 c]:LV),b.2.1,wi (b.2.2.1+1),b.2.2.2)))) (
 some (.inr (0,fo b.1)))) (pD (e.1,h,0,e.2)) λr11=>
 wx ru r11.2 λd=>
 k d
def eT:bV:=k0v um oX ur uv
def g1m:aH:=λi=>aL i [] [(4,[(.exit 0,xk 44 [(1,.ptr 1 0),(3,.own 1000000 5 .flat [])] [(1,.agg [.str [],.str [],.bool false,.sl 1 true [],.sl 1 true [],.sl 1 true [],.str [],.str [],.sl 4 false [],.bool false,.sl 4 false [],.sl 1 true [],.sl 8 true [],.sl 5 true [],.sl 2 true [],.int .i64 0,.int .i64 0,.int .i64 0,.int .i64 0,.sl 2 true [],.sl 1 true [],.bool false])])]),(9,[(.exit 2,xk 44 [(3,.own 1000000 5 .flat [])] [])])]
def b1z (F:bV):GT:=λO s k=>F O (dr s 0) (λa=>k (.own 0 5 .flat a))
abbrev KN (F:bV):WT:=WU kq (b1z F)
theorem i1t (um:bV)(oX:xM)(ur:bV)(uv:xM):KU [(83,vP um),(84,PO oX),(85,vP ur),(86,PO uv)] g1m 54 Tryz.f54 kq (b1z (k0v um oX ur uv )):=λ_ _ _=>by kernel_rfl
theorem yZ:aC D 54 (KN eT):=aB Tryz.func54 (tc c0l (tc Q_ (tc c0m (tc c0n tn)))) (i1t um oX ur uv )
abbrev Cc:Type 1:=(O:Type)->(U2->Option O)->Option O
def Sy:Cc:=λO  k=>
 k ⟨404,1,[],0,false,[]⟩
def kK:Cc:=Sy
def c1d (F:Cc):GT:=λO s k=>F O  (λa=>k (MF a))
abbrev WV (F:Cc):WT:=WU MH (c1d F)
theorem j1l:KU [] a_ 90 Tryz.f90 MH (c1d (Sy )):=λ_ _ _=>by kernel_rfl
theorem JS:aC D 90 (WV kK):=aB Tryz.func90 tn (j1l )
abbrev KL:Type 1:=(O:Type)->LV->U5->(U2->Option O)->Option O
def k0x (sK:BN)(kK:Cc)(AU:Sz):KL:=λO l a k=>
 sK _ l a.a λi=>
 br (decide (i<0)) (
 kK _  λn=>
 k n) (
 c0 i <|
 wM l i.toNat λo=>
 AU _ o a.b λj=>
 br (decide (j<0)) (
 kK _  λp=>
 k p) (
 c0 i <|
 wM l i.toNat λm=>
 c0 j <|
 Ce m.b j.toNat λh=>
 k ⟨h.b,h.c,h.d,h.e,h.f,h.g⟩))
def uh:KL:=k0x sK kK AU
def c1b (F:KL):GT:=λO s k=>F O (lL s 0) (fQ s 1) (λa=>k (MF a))
abbrev l0n (F:KL):WT:=WU f1k (c1b F)
theorem i1v (sK:BN)(kK:Cc)(AU:Sz):KU [(89,h0o sK),(90,WV kK),(91,l0o AU)] a_ 56 Tryz.f56 f1k (c1b (k0x sK kK AU )):=λ_ _ _=>by kernel_rfl
theorem c0j:aC D 56 (l0n uh):=aB Tryz.func56 (tc c0o (tc JS (tc x0l tn))) (i1v sK kK AU )
abbrev Ao:Type 1:=(O:Type)->U2->Int->(Bool->Option O)->Option O
def NB:Ao:=λO x a k=>
 br (x.b==a) (
 k true) (
 br (a==5) (
 k (x.b==2)) (
 k false))
def qY:Ao:=NB
def UE (F:Ao):GT:=λO s k=>F O (sE s 0) (lI s 6) (λa=>k (.bool a))
abbrev Vg (F:Ao):WT:=WU f1l (UE F)
theorem s0s:KU [] a_ 175 Tryz.f175 f1l (UE (NB )):=λ_ _ _=>by kernel_rfl
theorem Z5:aC D 175 (Vg qY):=aB Tryz.func175 tn (s0s )
def OA:bT:=λO b k=>
 bM vl (λa=>
 br (decide (a.2.2<(nL a.1))) (
 c0 a.2.2 <|
 S9 a.1 a.2.2.toNat λc=>
 ca a.2.1 ([.int .i64 (IntKind.wrap .i64 c)]:LV) 8 <|
 some (.inl (ld (a.1,a.2.1++([.int .i64 (IntKind.wrap .i64 c)]:LV),wi (a.2.2+1))))) (
 some (.inr (0,fo a.2.1)))) (ld (b,[.int .i64 (nL b)],0)) λr3=>
 wx ru r3.2 λd=>
 k d
def q9:bT:=OA
def n0e:aH:=λi=>aL i [] [(3,[(.exit 0,xk 23 [(3,.own 1000000 1 .flat [])] [])])]
def MN (F:bT):GT:=λO s k=>F O (lL s 0) (λa=>k (.own 0 1 .flat a))
abbrev Hx (F:bT):WT:=WU z0 (MN F)
theorem u0s:KU [] n0e 243 Tryz.f243 z0 (MN (OA )):=λ_ _ _=>by kernel_rfl
theorem b0d:aC D 243 (Hx q9):=aB Tryz.func243 tn (u0s )
def OE (aU:dK):fw:=λO n m k=>
 aU _ m 1 1000000000000 λa=>
 br (!a) (
 k 0) (
 chk (m≠0) <|
 chk (m≠0) <|
 k (Int.tmod (wi ((Int.tmod n m)+m)) m))
def rC:fw:=OE aU
theorem u0w (aU:dK):KU [(65,ko aU)] a_ 249 Tryz.f249 i0s (Ha (OE aU )):=λ_ _ _=>by kernel_rfl
theorem b0h:aC D 249 (rp rC):=aB Tryz.func249 (tc eI tn) (u0w aU )
abbrev eP:Type 1:=(O:Type)->LV->(Int->Option O)->Option O
def N_ (rC:fw):eP:=λO l k=>
 bM XD (λa=>
 br (decide (a.2.2<(nL a.1))) (
 c0 a.2.2 <|
 Iy a.1 a.2.2.toNat λb=>
 rC _ b 2147483647 λc=>
 some (.inl (D9 (a.1,Int.tmod (wi ((wi ((wi (a.2.1*1000003))+c))+13)) 2147483647,wi (a.2.2+1))))) (
 some (.inr (0,cY a.2.1)))) (D9 (l,11,0)) λr4=>
 wx iX r4.2 λd=>
 k d
def q8:eP:=N_ rC
def n0d:aH:=λi=>aL i [] [(3,[(.exit 0,xk 22 [(3,.int .i64 0)] [])])]
def tS (F:eP):GT:=λO s k=>F O (lL s 0) (λa=>k (.int .i64 a))
abbrev V8 (F:eP):WT:=WU z0 (tS F)
theorem u0r (rC:fw):KU [(249,rp rC)] n0d 242 Tryz.f242 z0 (tS (N_ rC )):=λ_ _ _=>by kernel_rfl
theorem b0c:aC D 242 (V8 q8):=aB Tryz.func242 (tc b0h tn) (u0r rC )
abbrev Ax:Type 1:=(O:Type)->LU->(Int->Option O)->Option O
def Nl (q9:bT)(q8:eP):Ax:=λO a k=>
 q9 _ (iU a) λl1=>
 ca ([.int .i64 151]:LV) l1 8 <|
 q8 _ (([.int .i64 151]:LV)++l1) λb=>
 k b
def qm:Ax:=Nl q9 q8
def Uc (F:Ax):GT:=λO s k=>F O (lS s 0) (λa=>k (.int .i64 a))
abbrev Vr (F:Ax):WT:=WU qE (Uc F)
theorem t0y (q9:bT)(q8:eP):KU [(243,Hx q9),(242,V8 q8)] a_ 217 Tryz.f217 qE (Uc (Nl q9 q8 )):=λ_ _ _=>by kernel_rfl
theorem a0k:aC D 217 (Vr qm):=aB Tryz.func217 (tc b0d (tc b0c tn)) (t0y q9 q8 )
abbrev Ap:Type 1:=(O:Type)->LU->LU->(Bool->Option O)->Option O
def NC (qm:Ax)(dp:iT):Ap:=λO b a k=>
 br (a==[]) (
 k true) (
 qm _ b λc=>
 dp _ c λd=>
 k (a==d))
def qZ:Ap:=NC qm dp
def UF (F:Ap):GT:=λO s k=>F O (lS s 0) (lS s 1) (λa=>k (.bool a))
abbrev Vh (F:Ap):WT:=WU TN (UF F)
theorem s0t (qm:Ax)(dp:iT):KU [(217,Vr qm),(37,ta dp)] a_ 176 Tryz.f176 TN (UF (NC qm dp )):=λ_ _ _=>by kernel_rfl
theorem Z6:aC D 176 (Vh qZ):=aB Tryz.func176 (tc a0k (tc yY tn)) (s0t qm dp )
abbrev rh:Type 1:=(O:Type)->U1->U13->U2->(Int->Option O)->Option O
def Mj (dY:oG)(bY:kh)(qY:Ao)(qZ:Ap):rh:=λO p r x k=>
 dY _ p r λi=>
 br (i != 1) (
 k 2) (
 mq (λ(j:Bool)=>
 br j (
 k 3) (
 qY _ x r.a λf=>
 br (!f) (
 k 4) (
 mq (λ(g:Bool)=>
 br g (
 k 5) (
 qZ _ x.c r.e λl=>
 br (!l) (
 k 6) (
 k 1))) λj7=>
 br (!(r.d==r.b)) (
 br (!x.e) (
 br (r.a==5) (
 j7 true) (
 j7 (!(r.e==[])))) (
 j7 false)) (
 j7 false)))) λj8=>
 bY _ x λh=>
 br (!h) (
 j8 true) (
 j8 (x.a != 200)))
def fG:rh:=Mj dY bY qY qZ
def Ta (F:rh):GT:=λO s k=>F O (L3 s 0) (Fz9 s 5) (sE s 10) (λa=>k (.int .i64 a))
abbrev Ho (F:rh):WT:=WU i0t (Ta F)
theorem r0p (dY:oG)(bY:kh)(qY:Ao)(qZ:Ap):KU [(174,Di dY),(157,vQ bY),(175,Vg qY),(176,Vh qZ)] a_ 127 Tryz.f127 i0t (Ta (Mj dY bY qY qZ )):=λ_ _ _=>by kernel_rfl
theorem E1:aC D 127 (Ho fG):=aB Tryz.func127 (tc AA (tc sy (tc Z5 (tc Z6 tn)))) (r0p dY bY qY qZ )
abbrev u6:Type 1:=(O:Type)->U1->U13->U2->(LU->Bool->Option O)->Option O
def Mk (fG:rh):u6:=λO p r x k=>
 fG _ p r x λa=>
 br (a != 1) (
 k [] false) (
 k x.c true)
def jI:u6:=Mk fG
def Tc (F:u6):GT:=λO s k=>F O (L3 s 0) (Fz9 s 5) (sE s 10) (λb a=>k (.tup [.str b,.bool a]))
abbrev Oq (F:u6):WT:=WU i0t (Tc F)
theorem r0q (fG:rh):KU [(127,Ho fG)] a_ 128 Tryz.f128 i0t (Tc (Mk fG )):=λ_ _ _=>by kernel_rfl
theorem LW:aC D 128 (Oq jI):=aB Tryz.func128 (tc E1 tn) (r0q fG )
abbrev AZ:Type 1:=(O:Type)->U8->Int->U2->(U8->Option O)->Option O
def Mn (a8:dH)(aU:dK)(oX:xM)(fG:rh)(jI:u6):AZ:=λO p xk x k=>
 a8 _ p λa=>
 fB (oX _ p xk λj=>
 ci xk a.m <|
 bU a.m xk.toNat 5 [.bool true] λi=>
 fG _ ⟨p.c,p.d,p.e,p.f,p.g⟩ j x λr=>
 ci xk i <|
 bU i xk.toNat 6 [.int .i64 r] λh=>
 jI _ ⟨p.c,p.d,p.e,p.f,p.g⟩ j x λn q=>
 ci xk h <|
 bU h xk.toNat 7 [.str n] λb=>
 k {a with m:=b}) λyP=>
 aU _ xk 0 (wi ((nL p.m)-1)) λo=>
 br (!o) (
 k a) (
 c0 xk <|
 pM p.m xk.toNat λl=>
 br l.f (
 k a) (
 yP))
def qN:AZ:=Mn a8 aU oX fG jI
def Te (F:AZ):GT:=λO s k=>F O (dr s 0) (lI s 22) (sE s 23) (λa=>k (GU a))
abbrev VW (F:AZ):WT:=WU f1m (Te F)
theorem r0t (a8:dH)(aU:dK)(oX:xM)(fG:rh)(jI:u6):KU [(79,ng a8),(65,ko aU),(84,PO oX),(127,Ho fG),(128,Oq jI)] a_ 131 Tryz.f131 f1m (Te (Mn a8 aU oX fG jI )):=λ_ _ _=>by kernel_rfl
theorem Zq:aC D 131 (VW qN):=aB Tryz.func131 (tc iC (tc eI (tc Q_ (tc E1 (tc LW tn))))) (r0t a8 aU oX fG jI )
abbrev nY:Type 1:=(O:Type)->U8->U5->U2->(U8->Option O)->Option O
def l0k (a8:dH)(qN:AZ):nY:=λO p a x k=>
 a8 _ p λj=>
 bM Xm (λd=>
 br (decide (d.1<(nL d.2.1.m))) (
 mq (λ(i:U8)=>
 some (.inl (If (wi (d.1+1),d.2.1,d.2.2.1,d.2.2.2.1,d.2.2.2.2.1,d.2.2.2.2.2.1,d.2.2.2.2.2.2.1,d.2.2.2.2.2.2.2.1,d.2.2.2.2.2.2.2.2.1,d.2.2.2.2.2.2.2.2.2.1,d.2.2.2.2.2.2.2.2.2.2.1,d.2.2.2.2.2.2.2.2.2.2.2.1,d.2.2.2.2.2.2.2.2.2.2.2.2.1,d.2.2.2.2.2.2.2.2.2.2.2.2.2.1,d.2.2.2.2.2.2.2.2.2.2.2.2.2.2.1,i)))) λCf=>
 fB (some (.inl (If (wi (d.1+1),d.2.1,d.2.2.1,d.2.2.2.1,d.2.2.2.2.1,d.2.2.2.2.2.1,d.2.2.2.2.2.2.1,d.2.2.2.2.2.2.2.1,d.2.2.2.2.2.2.2.2.1,d.2.2.2.2.2.2.2.2.2.1,d.2.2.2.2.2.2.2.2.2.2.1,d.2.2.2.2.2.2.2.2.2.2.2.1,d.2.2.2.2.2.2.2.2.2.2.2.2.1,d.2.2.2.2.2.2.2.2.2.2.2.2.2.1,d.2.2.2.2.2.2.2.2.2.2.2.2.2.2.1,d.2.2.2.2.2.2.2.2.2.2.2.2.2.2.2)))) λCg=>
 c0 d.1 <|
 pM d.2.1.m d.1.toNat λl=>
 br (!l.f) (
 c0 d.1 <|
 pM d.2.1.m d.1.toNat λg=>
 br (q0 ⟨g.b,g.c⟩ d.2.2.1) (
 qN _ d.2.2.2.2.2.2.2.2.2.2.2.2.2.2.2 d.1 d.2.2.2.1 λh=>
 Cf h) (
 Cg)) (
 Cg)) (
 some (.inr (0,vu (d.2.2.2.2.1,d.2.2.2.2.2.1,d.2.2.2.2.2.2.1,d.2.2.2.2.2.2.2.1,d.2.2.2.2.2.2.2.2.1,d.2.2.2.2.2.2.2.2.2.1,d.2.2.2.2.2.2.2.2.2.2.1,d.2.2.2.2.2.2.2.2.2.2.2.1,d.2.2.2.2.2.2.2.2.2.2.2.2.1,d.2.2.2.2.2.2.2.2.2.2.2.2.2.1,d.2.2.2.2.2.2.2.2.2.2.2.2.2.2.1,d.2.2.2.2.2.2.2.2.2.2.2.2.2.2.2))))) (If (0,p,a,x,[],[],false,[],[],false,0,0,0,0,false,j)) λr12=>
 wx IJ r12.2 λe=>
 k e.2.2.2.2.2.2.2.2.2.2.2
def Gt:nY:=l0k a8 qN
def g1p:aH:=λi=>aL i [] [(3,[(.exit 0,xk 40 [(6,.ptr 6 0),(7,.ptr 7 0)] [(6,.agg [.str [],.str [],.bool false,.nil,.nil,.nil,.str [],.str [],.nil,.bool false,.nil,.nil,.nil,.nil,.nil,.int .i64 0,.int .i64 0,.int .i64 0,.int .i64 0,.nil,.nil,.bool false]),(7,.agg [.str [],.str [],.bool false,.own 1000000 1 .flat [],.own 1000001 1 .flat [],.own 1000002 1 .flat [],.str [],.str [],.own 1000003 4 .clean [],.bool false,.own 1000004 4 .clean [],.own 1000005 1 .flat [],.own 1000006 8 .flat [],.own 1000007 5 .flat [],.own 1000008 2 .flat [],.int .i64 0,.int .i64 0,.int .i64 0,.int .i64 0,.own 1000009 2 .flat [],.own 1000010 1 .flat [],.bool false])])])]
def j0v (F:nY):GT:=λO s k=>F O (dr s 0) (fQ s 22) (sE s 24) (λa=>k (GU a))
abbrev h0n (F:nY):WT:=WU g0m (j0v F)
theorem j1k (a8:dH)(qN:AZ):KU [(79,ng a8),(131,VW qN)] g1p 88 Tryz.f88 g0m (j0v (l0k a8 qN )):=λ_ _ _=>by kernel_rfl
theorem x0k:aC D 88 (h0n Gt):=aB Tryz.func88 (tc iC (tc Zq tn)) (j1k a8 qN )
def l0j (a8:dH)(cV:mE)(uv:xM)(fG:rh)(jI:u6)(eu:ri)(jJ:oE):nY:=λO p a x k=>
 a8 _ p λi=>
 cV _ p a λh=>
 fB (uv _ p h λt=>
 ci h i.n <|
 bU i.n h.toNat 2 [.bool true] λs=>
 fG _ ⟨p.c,p.d,p.e,p.f,p.g⟩ t x λz=>
 ci h s <|
 bU s h.toNat 3 [.int .i64 z] λr=>
 jI _ ⟨p.c,p.d,p.e,p.f,p.g⟩ t x λw y=>
 ci h r <|
 bU r h.toNat 4 [.str w] λj=>
 eu _ {i with n:=j} a λo v=>
 bM IL (λb=>
 br (decide (b.2.1<(nL b.1))) (
 ci b.2.1 b.1 <|
 oN b.1 b.2.1.toNat 0 λm=>
 jJ _ b.2.2.2.2.2.2.2.2.2.2.2.2.2 m λq=>
 some (.inl (vx (b.1,wi (b.2.1+1),b.2.2.1,b.2.2.2.1,b.2.2.2.2.1,b.2.2.2.2.2.1,b.2.2.2.2.2.2.1,b.2.2.2.2.2.2.2.1,b.2.2.2.2.2.2.2.2.1,b.2.2.2.2.2.2.2.2.2.1,b.2.2.2.2.2.2.2.2.2.2.1,b.2.2.2.2.2.2.2.2.2.2.2.1,b.2.2.2.2.2.2.2.2.2.2.2.2.1,q)))) (
 some (.inr (0,vu (b.2.2.1,b.2.2.2.1,b.2.2.2.2.1,b.2.2.2.2.2.1,b.2.2.2.2.2.2.1,b.2.2.2.2.2.2.2.1,b.2.2.2.2.2.2.2.2.1,b.2.2.2.2.2.2.2.2.2.1,b.2.2.2.2.2.2.2.2.2.2.1,b.2.2.2.2.2.2.2.2.2.2.2.1,b.2.2.2.2.2.2.2.2.2.2.2.2.1,b.2.2.2.2.2.2.2.2.2.2.2.2.2))))) (vx (o,0,[],[],false,[],[],false,0,0,0,0,false,{i with n:=j})) λr17=>
 wx IJ r17.2 λl=>
 k l.2.2.2.2.2.2.2.2.2.2.2) λI1=>
 br (decide (h<0)) (
 k i) (
 c0 h <|
 ie p.n h.toNat λu=>
 br u.c (
 k i) (
 I1))
def Gq:nY:=l0j a8 cV uv fG jI eu jJ
def g1o:aH:=λi=>aL i [] [(11,[(.exit 0,xk 79 [(6,.ptr 6 0),(7,.ptr 7 0)] [(6,.agg [.str [],.str [],.bool false,.nil,.nil,.nil,.str [],.str [],.nil,.bool false,.nil,.nil,.nil,.nil,.nil,.int .i64 0,.int .i64 0,.int .i64 0,.int .i64 0,.nil,.nil,.bool false]),(7,.agg [.str [],.str [],.bool false,.own 1000000 1 .flat [],.own 1000001 1 .flat [],.own 1000002 1 .flat [],.str [],.str [],.own 1000003 4 .clean [],.bool false,.own 1000004 4 .clean [],.own 1000005 1 .flat [],.own 1000006 8 .flat [],.own 1000007 5 .flat [],.own 1000008 2 .flat [],.int .i64 0,.int .i64 0,.int .i64 0,.int .i64 0,.own 1000009 2 .flat [],.own 1000010 1 .flat [],.bool false])])])]
theorem j1j (a8:dH)(cV:mE)(uv:xM)(fG:rh)(jI:u6)(eu:ri)(jJ:oE):KU [(79,ng a8),(126,BQ cV),(86,PO uv),(127,Ho fG),(128,Oq jI),(129,Hp eu),(130,DW jJ)] g1o 87 Tryz.f87 g0m (j0v (l0j a8 cV uv fG jI eu jJ )):=λ_ _ _=>by kernel_rfl
theorem x0j:aC D 87 (h0n Gq):=aB Tryz.func87 (tc iC (tc wY (tc c0n (tc E1 (tc LW (tc E2 (tc LX tn))))))) (j1j a8 cV uv fG jI eu jJ )
def k0w (Gt:nY)(Gq:nY)(fX:dH):nY:=λO p a x k=>
 Gt _ p a x λc=>
 Gq _ c a x λb=>
 fX _ b λd=>
 k d
def fY:nY:=k0w Gt Gq fX
def c1a (F:nY):GT:=λO s k=>F O (dr s 0) (fQ s 22) (sE s 24) (λa=>k (MG a))
abbrev PM (F:nY):WT:=WU g0m (c1a F)
theorem i1u (Gt:nY)(Gq:nY)(fX:dH):KU [(88,h0n Gt),(87,h0n Gq),(52,PL fX)] a_ 55 Tryz.f55 g0m (c1a (k0w Gt Gq fX )):=λ_ _ _=>by kernel_rfl
theorem CA:aC D 55 (PM fY):=aB Tryz.func55 (tc x0k (tc x0j (tc B_ tn))) (i1u Gt Gq fX )
abbrev lE:Type 1:=(O:Type)->U0->(U8->LV->U0->Option O)->Option O
def C3 (bm:bA)(kr:eL)(aP:cQ)(fX:dH)(aD:av)(eT:bV)(uh:KL)(fY:nY)(aY:dc):lE:=λO c k=>
 bm _ c λl1 R=>
 kr _ R λK P=>
 aP _ 2 P λN L=>
 br N (
 fX _ K λM=>
 aD _ 6 L λS Q=>
 bM Pw (λa=>
 br (decide (a.2.1>0)) (
 eT _ a.2.2.2.2.2.2.2.2.2.2.2.2.2.1 λh=>
 br (decide ((nL h)>0)) (
 aD _ (nL h) a.2.2.2.2.2.2.2.2.2.2.2.2.2.2 λo u=>
 ci o h <|
 oN h o.toNat 1 λp=>
 uh _ a.1 p λD=>
 fY _ a.2.2.2.2.2.2.2.2.2.2.2.2.2.1 p D λx=>
 some (.inl (yD (a.1,wi (a.2.1-1),a.2.2.1,a.2.2.2.1,a.2.2.2.2.1,a.2.2.2.2.2.1,a.2.2.2.2.2.2.1,a.2.2.2.2.2.2.2.1,a.2.2.2.2.2.2.2.2.1,a.2.2.2.2.2.2.2.2.2.1,a.2.2.2.2.2.2.2.2.2.2.1,a.2.2.2.2.2.2.2.2.2.2.2.1,a.2.2.2.2.2.2.2.2.2.2.2.2.1,x,u)))) (
 some (.inl (yD (a.1,wi (a.2.1-1),a.2.2.1,a.2.2.2.1,a.2.2.2.2.1,a.2.2.2.2.2.1,a.2.2.2.2.2.2.1,a.2.2.2.2.2.2.2.1,a.2.2.2.2.2.2.2.2.1,a.2.2.2.2.2.2.2.2.2.1,a.2.2.2.2.2.2.2.2.2.2.1,a.2.2.2.2.2.2.2.2.2.2.2.1,a.2.2.2.2.2.2.2.2.2.2.2.2.1,a.2.2.2.2.2.2.2.2.2.2.2.2.2.1,a.2.2.2.2.2.2.2.2.2.2.2.2.2.2))))) (
 some (.inr (0,QQ (a.1,a.2.2.1,a.2.2.2.1,a.2.2.2.2.1,a.2.2.2.2.2.1,a.2.2.2.2.2.2.1,a.2.2.2.2.2.2.2.1,a.2.2.2.2.2.2.2.2.1,a.2.2.2.2.2.2.2.2.2.1,a.2.2.2.2.2.2.2.2.2.2.1,a.2.2.2.2.2.2.2.2.2.2.2.1,a.2.2.2.2.2.2.2.2.2.2.2.2.1,a.2.2.2.2.2.2.2.2.2.2.2.2.2.1,a.2.2.2.2.2.2.2.2.2.2.2.2.2.2))))) (yD (l1,S,[],[],false,[],[],false,0,0,0,0,false,M,Q)) λr17=>
 wx Xl r17.2 λd=>
 aD _ 24 d.2.2.2.2.2.2.2.2.2.2.2.2.2 λl f=>
 br (l==0) (
 aY _ [.int .i64 (-1),.int .i64 1,.int .i64 9] f λJ C=>
 k {d.2.2.2.2.2.2.2.2.2.2.2.2.1 with r:=J} d.1 C) (
 br (l==1) (
 aY _ [.int .i64 (-1),.int .i64 1,.int .i64 9] f λG y=>
 k {d.2.2.2.2.2.2.2.2.2.2.2.2.1 with s:=G} d.1 y) (
 br (l==2) (
 k {d.2.2.2.2.2.2.2.2.2.2.2.2.1 with v:=!d.2.2.2.2.2.2.2.2.2.2.2.2.1.v} d.1 f) (
 k d.2.2.2.2.2.2.2.2.2.2.2.2.1 d.1 f)))) (
 aD _ 6 L λI q=>
 bM Pw (λb=>
 br (decide (b.2.1>0)) (
 eT _ b.2.2.2.2.2.2.2.2.2.2.2.2.2.1 λi=>
 br (decide ((nL i)>0)) (
 aD _ (nL i) b.2.2.2.2.2.2.2.2.2.2.2.2.2.2 λm H=>
 ci m i <|
 oN i m.toNat 1 λn=>
 uh _ b.1 n λz=>
 fY _ b.2.2.2.2.2.2.2.2.2.2.2.2.2.1 n z λE=>
 some (.inl (yD (b.1,wi (b.2.1-1),b.2.2.1,b.2.2.2.1,b.2.2.2.2.1,b.2.2.2.2.2.1,b.2.2.2.2.2.2.1,b.2.2.2.2.2.2.2.1,b.2.2.2.2.2.2.2.2.1,b.2.2.2.2.2.2.2.2.2.1,b.2.2.2.2.2.2.2.2.2.2.1,b.2.2.2.2.2.2.2.2.2.2.2.1,b.2.2.2.2.2.2.2.2.2.2.2.2.1,E,H)))) (
 some (.inl (yD (b.1,wi (b.2.1-1),b.2.2.1,b.2.2.2.1,b.2.2.2.2.1,b.2.2.2.2.2.1,b.2.2.2.2.2.2.1,b.2.2.2.2.2.2.2.1,b.2.2.2.2.2.2.2.2.1,b.2.2.2.2.2.2.2.2.2.1,b.2.2.2.2.2.2.2.2.2.2.1,b.2.2.2.2.2.2.2.2.2.2.2.1,b.2.2.2.2.2.2.2.2.2.2.2.2.1,b.2.2.2.2.2.2.2.2.2.2.2.2.2.1,b.2.2.2.2.2.2.2.2.2.2.2.2.2.2))))) (
 some (.inr (0,QQ (b.1,b.2.2.1,b.2.2.2.1,b.2.2.2.2.1,b.2.2.2.2.2.1,b.2.2.2.2.2.2.1,b.2.2.2.2.2.2.2.1,b.2.2.2.2.2.2.2.2.1,b.2.2.2.2.2.2.2.2.2.1,b.2.2.2.2.2.2.2.2.2.2.1,b.2.2.2.2.2.2.2.2.2.2.2.1,b.2.2.2.2.2.2.2.2.2.2.2.2.1,b.2.2.2.2.2.2.2.2.2.2.2.2.2.1,b.2.2.2.2.2.2.2.2.2.2.2.2.2.2))))) (yD (l1,I,[],[],false,[],[],false,0,0,0,0,false,K,q)) λF=>
 wx Xl F.2 λe=>
 aD _ 24 e.2.2.2.2.2.2.2.2.2.2.2.2.2 λj g=>
 br (j==0) (
 aY _ [.int .i64 (-1),.int .i64 1,.int .i64 9] g λw t=>
 k {e.2.2.2.2.2.2.2.2.2.2.2.2.1 with r:=w} e.1 t) (
 br (j==1) (
 aY _ [.int .i64 (-1),.int .i64 1,.int .i64 9] g λB A=>
 k {e.2.2.2.2.2.2.2.2.2.2.2.2.1 with s:=B} e.1 A) (
 br (j==2) (
 k {e.2.2.2.2.2.2.2.2.2.2.2.2.1 with v:=!e.2.2.2.2.2.2.2.2.2.2.2.2.1.v} e.1 g) (
 k e.2.2.2.2.2.2.2.2.2.2.2.2.1 e.1 g))))
def cn:lE:=C3 bm kr aP fX aD eT uh fY aY
def Wc:aH:=λi=>aL i [] [(6,[(.exit 0,ug 64 65 [(0,.ptr 64 0),(2,.ptr 2 0),(4,.own 1000011 2 .clean []),(5,.ptr 5 0)] [(2,.agg [.str [],.str [],.bool false,.nil,.nil,.nil,.str [],.str [],.nil,.bool false,.nil,.nil,.nil,.nil,.nil,.int .i64 0,.int .i64 0,.int .i64 0,.int .i64 0,.nil,.nil,.bool false]),(5,.agg [.str [],.str [],.bool false,.own 1000000 1 .flat [],.own 1000001 1 .flat [],.own 1000002 1 .flat [],.str [],.str [],.view 1000003 4 .clean [],.bool false,.own 1000004 4 .clean [],.view 1000005 1 .flat [],.own 1000006 8 .flat [],.own 1000007 5 .flat [],.own 1000008 2 .flat [],.int .i64 0,.int .i64 0,.int .i64 0,.int .i64 0,.own 1000009 2 .flat [],.own 1000010 1 .flat [],.bool false]),(64,.agg [.sl 1 true [],.int .i64 0,.int .i64 0])])])]
def J5 (F:lE):GT:=λO s k=>F O (fx s 0) (λb a c=>k (.tup [MG b,.own 22 2 .clean a,ol c]))
abbrev zI (F:lE):WT:=WU f1n (J5 F)
theorem ZF (bm:bA)(kr:eL)(aP:cQ)(fX:dH)(aD:av)(eT:bV)(uh:KL)(fY:nY)(aY:dc):KI [(49,ah (vU bm)),(50,ah (KM kr)),(51,ah (ir aP)),(52,PL fX),(53,ah (cX aD)),(54,KN eT),(56,l0n uh),(55,PM fY),(57,ah (mH aY))] Wc 29 ⟨[.pt],64,1,false⟩ Tryz.f29 f1n (J5 (C3 bm kr aP fX aD eT uh fY aY )):=λ_ _ _=>by kernel_rfl
theorem yX:aC D 29 (ah (zI cn)):=aO Tryz.func29 (tc uR (tc Q5 (tc fh (tc B_ (tc ba (tc yZ (tc c0j (tc CA (tc kA tn))))))))) (ZF bm kr aP fX aD eT uh fY aY )
abbrev G1:Type 1:=(O:Type)->LV->(U8->Option O)->Option O
def k0i (au:eK)(cn:lE):G1:=λO a k=>
 au _ a λc=>
 cn _ c λb e d=>
 k b
def Gi:G1:=k0i au cn
def j0i (F:G1):GT:=λO s k=>F O (lL s 0) (λa=>k (MG a))
abbrev h0f (F:G1):WT:=WU z0 (j0i F)
theorem i1a (au:eK)(cn:lE):KU [(28,ah (nZ au)),(29,ah (zI cn))] a_ 27 Tryz.f27 z0 (j0i (k0i au cn )):=λ_ _ _=>by kernel_rfl
theorem w0s:aC D 27 (h0f Gi):=aB Tryz.func27 (tc lr (tc yX tn)) (i1a au cn )
def P6 (Gi:G1):G1:=λO a k=>
 Gi _ a λb=>
 k b
def F6:G1:=P6 Gi
theorem k6 (Gi:G1):KU [(27,h0f Gi)] a_ 6 Tryz.f6 z0 (j0i (P6 Gi )):=λ_ _ _=>by kernel_rfl
theorem j1p:aC D 6 (h0f F6):=aB Tryz.func6 (tc w0s tn) (k6 Gi )
def P7 (au:eK)(cn:lE):bT:=λO a k=>
 au _ a λc=>
 cn _ c λb e d=>
 k b.u
def F7:bT:=P7 au cn
theorem k7 (au:eK)(cn:lE):KU [(28,ah (nZ au)),(29,ah (zI cn))] a_ 7 Tryz.f7 z0 (MN (P7 au cn )):=λ_ _ _=>by kernel_rfl
theorem j1q:aC D 7 (Hx F7):=aB Tryz.func7 (tc lr (tc yX tn)) (k7 au cn )
def C_ (aG:be):bD:=λO c k=>
 aG _ [.str [104,111,109,101],.str [99,100,110],.str [101,118,105,108],.str [104,111,109,101]] c λb a=>
 k b a
def cw:bD:=C_ aG
abbrev ow (F:bD):WT:=WU b1t (iO F)
theorem ZM (aG:be):KI [(73,ah (fZ aG))] a_ 58 ⟨[.pt],6,1,false⟩ Tryz.f58 b1t (iO (C_ aG )):=λ_ _ _=>by kernel_rfl
theorem ya:aC D 58 (ah (ow cw)):=aO Tryz.func58 (tc eA tn) (ZM aG )
def DJ (aG:be):bD:=λO c k=>
 aG _ [.str [105,110,100,101,120],.str [97,112,112],.str [115,116,121,108,101],.str [108,105,98],.str [108,111,103,111],.str [110,101,120,116],.str [117,116,105,108]] c λb a=>
 k b a
def eh:bD:=DJ aG
theorem ZW (aG:be):KI [(73,ah (fZ aG))] a_ 92 ⟨[.pt],6,1,false⟩ Tryz.f92 b1t (iO (DJ aG )):=λ_ _ _=>by kernel_rfl
theorem FE:aC D 92 (ah (ow eh)):=aO Tryz.func92 (tc eA tn) (ZW aG )
abbrev bc:Type 1:=(O:Type)->U0->(U5->U0->Option O)->Option O
def DA (cw:bD)(eh:bD):bc:=λO c k=>
 cw _ c λa d=>
 eh _ d λt3 b=>
 k ⟨a,t3⟩ b
def ak:bc:=DA cw eh
def sL (F:bc):GT:=λO s k=>F O (fx s 0) (λb a=>k (.tup [w2 b,ol a]))
abbrev mI (F:bc):WT:=WU b1u (sL F)
theorem ZN (cw:bD)(eh:bD):KI [(58,ah (ow cw)),(92,ah (ow eh))] a_ 59 ⟨[.pt],10,1,false⟩ Tryz.f59 b1u (sL (DA cw eh )):=λ_ _ _=>by kernel_rfl
theorem kB:aC D 59 (ah (mI ak)):=aO Tryz.func59 (tc ya (tc FE tn)) (ZN cw eh )
abbrev G2:Type 1:=(O:Type)->LV->(U15->Option O)->Option O
def k0j (au:eK)(cw:bD)(ak:bc)(aP:cQ):G2:=λO c k=>
 au _ c λe=>
 cw _ e λg h=>
 ak _ h λd i=>
 aP _ 2 i λf j=>
 k ⟨g,d.a,d.b,f⟩
def HJ:G2:=k0j au cw ak aP
def j0j (F:G2):GT:=λO s k=>F O (lL s 0) (λa=>k (AQ a))
abbrev h0g (F:G2):WT:=WU z0 (j0j F)
theorem i1b (au:eK)(cw:bD)(ak:bc)(aP:cQ):KU [(28,ah (nZ au)),(58,ah (ow cw)),(59,ah (mI ak)),(51,ah (ir aP))] a_ 30 Tryz.f30 z0 (j0j (k0j au cw ak aP )):=λ_ _ _=>by kernel_rfl
theorem w0t:aC D 30 (h0g HJ):=aB Tryz.func30 (tc lr (tc ya (tc kB (tc fh tn)))) (i1b au cw ak aP )
def P8 (HJ:G2):G2:=λO a k=>
 HJ _ a λb=>
 k b
def F8:G2:=P8 HJ
theorem k8 (HJ:G2):KU [(30,h0g HJ)] a_ 8 Tryz.f8 z0 (j0j (P8 HJ )):=λ_ _ _=>by kernel_rfl
theorem j1r:aC D 8 (h0g F8):=aB Tryz.func8 (tc w0t tn) (k8 HJ )
def NE:bT:=λO l1 k=>
 ca ([]:LV) l1 120 <|
 k (([]:LV)++l1)
def i7:bT:=NE
def UH (F:bT):GT:=λO s k=>F O (lL s 0) (λa=>k (.agg [.own 0 10 .flat a]))
abbrev O7 (F:bT):WT:=WU i0u (UH F)
theorem s0v:KU [] a_ 178 Tryz.f178 i0u (UH (NE )):=λ_ _ _=>by kernel_rfl
theorem Ll:aC D 178 (O7 i7):=aB Tryz.func178 tn (s0v )
abbrev vG:Type 1:=(O:Type)->LV->LU->U5->(Int->Option O)->Option O
def NG:vG:=λO l1 e a k=>
 bM Xn (λd=>
 br (decide (d.2.1<(nL d.2.2.1))) (
 c0 d.2.1 <|
 oO d.2.2.1 d.2.1.toNat λh=>
 br (h.a==d.1) (
 c0 d.2.1 <|
 oO d.2.2.1 d.2.1.toNat λf=>
 br (q0 ⟨f.b,f.c⟩ d.2.2.2) (
 some (.inr (1,cY d.2.1))) (
 some (.inl (Ig (d.1,wi (d.2.1+1),d.2.2.1,d.2.2.2))))) (
 some (.inl (Ig (d.1,wi (d.2.1+1),d.2.2.1,d.2.2.2))))) (
 some (.inr (0,[])))) (Ig (e,0,l1,a)) λr6=>
 if r6.1=0 then
 k (-1)
 else
 wx iX r6.2 λg=>
 k g
def jT:vG:=NG
def m0l:aH:=λi=>aL i [] [(2,[(.exit 0,xk 34 [] []),(.ret,xk 34 [(6,.int .i64 0)] [])])]
def UI (F:vG):GT:=λO s k=>F O (lL s 0) (lS s 1) (fQ s 2) (λa=>k (.int .i64 a))
abbrev O9 (F:vG):WT:=WU b1v (UI F)
theorem s0x:KU [] m0l 180 Tryz.f180 b1v (UI (NG )):=λ_ _ _=>by kernel_rfl
theorem Lo:aC D 180 (O9 jT):=aB Tryz.func180 tn (s0x )
def NF (aw:cW)(dw:oa)(bY:kh)(jT:vG):T4:=λO l1 k=>
 bM Xo (λj=>
 br (decide (j.1<(nL j.2))) (
 c0 j.1 <|
 oO j.2 j.1.toNat λl=>
 aw _ l.a λp=>
 br (!p) (
 some (.inr (1,Bm (false,j.2)))) (
 dw _ ⟨l.b,l.c⟩ λo=>
 br (!o) (
 some (.inr (1,Bm (false,j.2)))) (
 bY _ ⟨l.d,l.e,l.f,l.g,l.h,l.i⟩ λq=>
 br (!q) (
 some (.inr (1,Bm (false,j.2)))) (
 br (l.d != 200) (
 some (.inr (1,Bm (false,j.2)))) (
 jT _ j.2 l.a ⟨l.b,l.c⟩ λr=>
 br (r != j.1) (
 some (.inr (1,Bm (false,j.2)))) (
 some (.inl (QR (wi (j.1+1),j.2))))))))) (
 some (.inr (0,fo j.2)))) (QR (0,l1)) λr9=>
 if r9.1=0 then
 wx ru r9.2 λn=>
 k (decide ((nL n)<=100))
 else
 wx o0t r9.2 λm=>
 k m.1
def i_:T4:=NF aw dw bY jT
def m0k:aH:=λi=>aL i [] [(2,[(.exit 0,xk 53 [(1,.ptr 1 0)] [(1,.agg [.sl 10 true []])]),(.ret,xk 53 [(1,.ptr 1 0),(2,.bool false)] [(1,.agg [.sl 10 true []])])])]
abbrev O8 (F:T4):WT:=WU i0u (G4 F)
theorem s0w (aw:cW)(dw:oa)(bY:kh)(jT:vG):KU [(101,gx aw),(67,Dr dw),(157,vQ bY),(180,O9 jT)] m0k 179 Tryz.f179 i0u (G4 (NF aw dw bY jT )):=λ_ _ _=>by kernel_rfl
theorem Lm:aC D 179 (O8 i_):=aB Tryz.func179 (tc mc (tc wZ (tc sy (tc Lo tn)))) (s0w aw dw bY jT )
abbrev u7:Type 1:=(O:Type)->LV->LU->U5->U2->Int->(LV->Option O)->Option O
def Mo (i7:bT)(aU:dK)(bY:kh)(i_:T4)(jT:vG):u7:=λO l1 g a x now k=>
 i7 _ l1 λl2=>
 fB (
 mq (λ(l:LV)=>
 i_ _ l λi=>
 br (!i) (
 i7 _ l1 λh=>
 k h) (
 k l)) λyP=>
 jT _ l1 g a λj=>
 br (decide (j >= 0)) (
 ci j l2 <|
 bU l2 j.toNat 0 (w8 ⟨g,a.a,a.b,x.a,x.b,x.c,x.d,x.e,x.f,wi (now+x.d)⟩).cells λn=>
 yP n) (
 ca l2 ([w8 ⟨g,a.a,a.b,x.a,x.b,x.c,x.d,x.e,x.f,wi (now+x.d)⟩]:LV) 120 <|
 yP (l2++([w8 ⟨g,a.a,a.b,x.a,x.b,x.c,x.d,x.e,x.f,wi (now+x.d)⟩]:LV)))) λyQ=>
 br (x.d==0) (
 k l2) (
 aU _ now 0 999999999000 λp=>
 br (!p) (
 k l2) (
 bY _ x λo=>
 br (!o) (
 k l2) (
 i_ _ l1 λm=>
 br (!m) (
 k l2) (
 yQ))))
def jK:u7:=Mo i7 aU bY i_ jT
def Tf (F:u7):GT:=λO s k=>F O (lL s 0) (lS s 1) (fQ s 2) (sE s 4) (lI s 10) (λa=>k (.agg [.own 0 10 .flat a]))
abbrev Or (F:u7):WT:=WU f1o (Tf F)
theorem r0u (i7:bT)(aU:dK)(bY:kh)(i_:T4)(jT:vG):KU [(178,O7 i7),(65,ko aU),(157,vQ bY),(179,O8 i_),(180,O9 jT)] a_ 132 Tryz.f132 f1o (Tf (Mo i7 aU bY i_ jT )):=λ_ _ _=>by kernel_rfl
theorem LY:aC D 132 (Or jK):=aB Tryz.func132 (tc Ll (tc eI (tc sy (tc Lm (tc Lo tn))))) (r0u i7 aU bY i_ jT )
def DK (aD:av)(cw:bD)(ak:bc)(cA:lF)(jK:u7):bA:=λO c k=>
 aD _ 6 c λp o=>
 bM Px (λa=>
 br (decide (a.1>0)) (
 cw _ a.2.2 λl q=>
 ak _ q λm i=>
 aD _ 5 i λn j=>
 cA _ (wi (1+n)) j λf g=>
 aD _ 9 g λh d=>
 jK _ a.2.1 l m f h λe=>
 some (.inl (EX (wi (a.1-1),e,d)))) (
 some (.inr (0,Cd (a.2.1,a.2.2))))) (EX (p,[],o)) λr15=>
 wx S5 r15.2 λb=>
 k b.1 b.2
def ky:bA:=DK aD cw ak cA jK
def Wi:aH:=λi=>aL i [] [(3,[(.exit 0,ug 30 31 [(2,.ptr 2 0),(3,.ptr 3 0)] [(2,.agg [.nil]),(3,.agg [.own 1000000 10 .flat []]),(30,.agg [.sl 1 true [],.int .i64 0,.int .i64 0])])])]
def zE (F:bA):GT:=λO s k=>F O (fx s 0) (λb a=>k (.tup [.agg [.own 0 10 .flat b],ol a]))
abbrev KR (F:bA):WT:=WU f1p (zE F)
theorem ZX (aD:av)(cw:bD)(ak:bc)(cA:lF)(jK:u7):KI [(53,ah (cX aD)),(58,ah (ow cw)),(59,ah (mI ak)),(72,ah (zJ cA)),(132,Or jK)] Wi 93 ⟨[.pt],30,1,false⟩ Tryz.f93 f1p (zE (DK aD cw ak cA jK )):=λ_ _ _=>by kernel_rfl
theorem RA:aC D 93 (ah (KR ky)):=aO Tryz.func93 (tc ba (tc ya (tc kB (tc yb (tc LY tn))))) (ZX aD cw ak cA jK )
def DL (ak:bc)(aD:av)(aG:be):bc:=λO c k=>
 ak _ c λe i=>
 aD _ 12 i λf d=>
 br (f==0) (
 aG _ [.str [],.str [65],.str [97,98,99,100,101,102,103,104,105],.str [97,98,99,100,101,102,103,104]] d λj g=>
 k {e with a:=j} g) (
 br (f==1) (
 aG _ [.str [],.str [97,47,98],.str [97,49]] d λl h=>
 k {e with b:=l} h) (
 k e d))
def kz:bc:=DL ak aD aG
abbrev KS (F:bc):WT:=WU i0o (sL F)
theorem ZY (ak:bc)(aD:av)(aG:be):KI [(59,ah (mI ak)),(53,ah (cX aD)),(73,ah (fZ aG))] a_ 94 ⟨[.pt],21,1,false⟩ Tryz.f94 i0o (sL (DL ak aD aG )):=λ_ _ _=>by kernel_rfl
theorem RB:aC D 94 (ah (KS kz)):=aO Tryz.func94 (tc kB (tc ba (tc eA tn))) (ZY ak aD aG )
def DB (ky:bA)(aD:av)(aG:be)(kz:bc)(bj:iq):bA:=λO c k=>
 ky _ c λl1 s=>
 aD _ 12 s λo m=>
 br (o==0) (
 aG _ [.str [104,111,109,101],.str []] m λp r=>
 kz _ r λl q=>
 bj _ q λh n=>
 ca l1 ([w8 ⟨p,l.a,l.b,h.a,h.b,h.c,h.d,h.e,h.f,0⟩]:LV) 120 <|
 k (l1++([w8 ⟨p,l.a,l.b,h.a,h.b,h.c,h.d,h.e,h.f,0⟩]:LV)) n) (
 br (o==1) (
 bM Px (λg=>
 br (decide (g.1<101)) (
 strO [.int .u8 (IntKind.wrap .u8 (wi (97+(Int.tmod g.1 20)))),.int .u8 (IntKind.wrap .u8 (wi (97+(IntKind.wrap .i64 (Int.tdiv g.1 20)))))] λj=>
 ca g.2.1 ([w8 ⟨[104,111,109,101],[99,100,110],j,200,2,[],0,false,[],0⟩]:LV) 120 <|
 some (.inl (EX (wi (g.1+1),g.2.1++([w8 ⟨[104,111,109,101],[99,100,110],j,200,2,[],0,false,[],0⟩]:LV),g.2.2)))) (
 some (.inr (0,Cd (g.2.1,g.2.2))))) (EX (0,l1,m)) λr13=>
 wx S5 r13.2 λi=>
 k i.1 i.2) (
 k l1 m))
def eY:bA:=DB ky aD aG kz bj
def Wg:aH:=λi=>aL i [] [(7,[(.exit 1,ug 49 50 [(2,.ptr 2 0),(3,.ptr 3 0)] [(2,.agg [.nil]),(3,.agg [.own 1000000 10 .flat []]),(49,.agg [.sl 1 true [],.int .i64 0,.int .i64 0])])])]
abbrev Dp (F:bA):WT:=WU b1w (zE F)
theorem ZO (ky:bA)(aD:av)(aG:be)(kz:bc)(bj:iq):KI [(93,ah (KR ky)),(53,ah (cX aD)),(73,ah (fZ aG)),(94,ah (KS kz)),(48,ah (vT bj))] Wg 60 ⟨[.pt],49,1,false⟩ Tryz.f60 b1w (zE (DB ky aD aG kz bj )):=λ_ _ _=>by kernel_rfl
theorem FB:aC D 60 (ah (Dp eY)):=aO Tryz.func60 (tc RA (tc ba (tc eA (tc RB (tc uQ tn))))) (ZO ky aD aG kz bj )
end
end Go.Am

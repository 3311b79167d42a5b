/-
  A page is left, as the rule says it.
-/
import Derived.Test.YthcnbncpgloonaaGreatuAmCfg
import Derived.Test.YthcnbncpgloonaaGreatuUp0
import Derived.KernelRfl
import Derived.Test.YthcnbncpgloonaaGreatuUp3
import Derived.Test.YthcnbncpgloonaaGreatuV14
section
set_option maxRecDepth 10000
set_option linter.unusedVariables false
namespace Go.Am
open Go Go.Proofs
noncomputable section
def P8 (F24:T24)(F25:T25)(F26:j0i)(F27:T16)(F28:T9):T24:=λ β t k=>
 F24 _ t λ y1=>
 jt1 (λ (y8:U1)=>
 whl c2y (λ x9=>
 br (decide (x9.1 < (nL x9.2.2.2.a))) (
 F28 _ x9.2.2.2 λ n10=>
 br (decide (n10 > 3)) (
 ci x9.1 x9.2.2.2.a <|
 ia5 x9.2.2.2.a x9.1.toNat 24 λ b11=>
 br b11 (
 br (x9.1 != x9.2.1.b) (
 F27 _ x9.2.2.2 x9.1 λ y14=>
 some (.inl (d1n (wi (x9.1+1),x9.2.1,x9.2.2.1,y14)))) (
 some (.inl (d1n (wi (x9.1+1),x9.2.1,x9.2.2.1,x9.2.2.2))))) (
 some (.inl (d1n (wi (x9.1+1),x9.2.1,x9.2.2.1,x9.2.2.2))))) (
 some (.inl (d1n (wi (x9.1+1),x9.2.1,x9.2.2.1,x9.2.2.2))))) (
 some (.inr (0,f1y (x9.2.2.1,x9.2.2.2))))) (d1n (0,t,0,y8)) λ r17=>
 wx w1k r17.2 λ x18=>
 k x18.2) λ j19=>
 jt0 (whl c2y (λ x20=>
 br (decide (x20.1 < (nL x20.2.2.2.a))) (
 F28 _ x20.2.2.2 λ n21=>
 br (decide (n21 > 3)) (
 ci x20.1 x20.2.2.2.a <|
 ia5 x20.2.2.2.a x20.1.toNat 24 λ b22=>
 br b22 (
 br (x20.1 != x20.2.1.b) (
 F27 _ x20.2.2.2 x20.1 λ y25=>
 some (.inl (d1n (wi (x20.1+1),x20.2.1,x20.2.2.1,y25)))) (
 some (.inl (d1n (wi (x20.1+1),x20.2.1,x20.2.2.1,x20.2.2.2))))) (
 some (.inl (d1n (wi (x20.1+1),x20.2.1,x20.2.2.1,x20.2.2.2))))) (
 some (.inl (d1n (wi (x20.1+1),x20.2.1,x20.2.2.1,x20.2.2.2))))) (
 some (.inr (0,f1y (x20.2.2.1,x20.2.2.2))))) (d1n (0,t,0,y1)) λ r28=>
 wx w1k r28.2 λ x29=>
 k x29.2) λ j30=>
 F25 _ t.b 0 (wi ((nL t.a) - 1)) λ b2=>
 br b2 (
 c0 t.b <|
 v0u t.a t.b.toNat λ y3=>
 F26 _ ⟨y3.c,y3.d,y3.e,y3.f,y3.g,y3.h,y3.i,y3.j,y3.k,y3.l,y3.m,y3.n,y3.o,y3.p,y3.q,y3.r,y3.s,y3.t,y3.u,y3.v,y3.w,y3.x⟩ λ b4=>
 br (!b4) (
 F27 _ y1 t.b λ y7=>
 j19 y7) (
 j30)) (
 j30)
def F8:T24:=P8 F24 F25 F26 F27 F28
def X8:a0y:=λ i=>b0c i [] [(5,[(.exit 0,xk 57 [(2,.ptr 2 0),(3,.ptr 3 0)] [(2,.agg [.nil,.int .i64 0]),(3,.agg [.own 1000000 25 .clean [],.int .i64 0])])])]
theorem k8 (F24:T24)(F25:T25)(F26:j0i)(F27:T16)(F28:T9):KU [(24,W24 F24),(25,W25 F25),(26,y0r F26),(27,W16 F27),(28,W9 F28)] X8 8 Tryz.f8 z69 (G24 (P8 F24 F25 F26 F27 F28 )):=λ _ _ _=>by kernel_rfl
theorem ok8:a0l D 8 (W24 F8):=a0b Tryz.func8 (tc a2t (tc v0b (tc u2i (tc c3d (tc c3e tn))))) (k8 F24 F25 F26 F27 F28 )
abbrev T36:Type 1:=(β:Type)→LV→LV→(Bool→Option β)→Option β
def P36:T36:=λ β s1 s2 k=>
 br ((nL s1) != (nL s2)) (
 k false) (
 whl d1m (λ x1=>
 br (decide (x1.2.2.2 < x1.2.2.1)) (
 c0 x1.2.2.2 <|
 ix2 x1.1 x1.2.2.2.toNat λ t2=>
 c0 x1.2.2.2 <|
 ix2 x1.2.1 x1.2.2.2.toNat λ t3=>
 br (!(t2 == t3)) (
 some (.inr (1,s0l false))) (
 some (.inl (o0s (x1.1,x1.2.1,x1.2.2.1,wi (x1.2.2.2+1)))))) (
 some (.inr (0,[])))) (o0s (s1,s2,(nL s1),0)) λ r4=>
 if r4.1=0 then
 k true
 else
 wx b1w r4.2 λ x5=>
 k x5)
def F36:T36:=P36
def X36:a0y:=λ i=>b0c i [] [(4,[(.exit 0,xk 26 [] []),(.ret,xk 26 [(4,.bool false)] [])])]
def G36 (F:T36):GT:=λ β s k=>F β (lL s 0) (lL s 1) (λ y1=>k (.bool y1))
abbrev W36 (F:T36):WT:=WU z76 (G36 F)
theorem k36:KU [] X36 36 Tryz.f36 z76 (G36 (P36 )):=λ _ _ _=>by kernel_rfl
theorem u2j:a0l D 36 (W36 F36):=a0b Tryz.func36 tn (k36 )
abbrev T29:Type 1:=(β:Type)→U2→U2→(Bool→Option β)→Option β
def P29 (F36:T36):T29:=λ β a b k=>
 br (a.a == b.a) (
 F36 _ a.b b.b λ b1=>
 br b1 (
 F36 _ a.c b.c λ b2=>
 br b2 (
 F36 _ a.d b.d λ b3=>
 br b3 (
 k (a.e == b.e)) (
 k false)) (
 k false)) (
 k false)) (
 k false)
def F29:T29:=P29 F36
def G29 (F:T29):GT:=λ β s k=>F β (rd2 s 0) (rd2 s 5) (λ y1=>k (.bool y1))
abbrev W29 (F:T29):WT:=WU z77 (G29 F)
theorem k29 (F36:T36):KU [(36,W36 F36)] noX 29 Tryz.f29 z77 (G29 (P29 F36 )):=λ _ _ _=>by kernel_rfl
theorem c3f:a0l D 29 (W29 F29):=a0b Tryz.func29 (tc u2j tn) (k29 F36 )
def P47:T36:=λ β s1 s2 k=>
 br ((nL s1) != (nL s2)) (
 k false) (
 whl d1m (λ x1=>
 br (decide (x1.2.2.2 < x1.2.2.1)) (
 c0 x1.2.2.2 <|
 ix7 x1.1 x1.2.2.2.toNat λ y2=>
 c0 x1.2.2.2 <|
 ix7 x1.2.1 x1.2.2.2.toNat λ y3=>
 br (!(q0 y2 y3)) (
 some (.inr (1,s0l false))) (
 some (.inl (o0s (x1.1,x1.2.1,x1.2.2.1,wi (x1.2.2.2+1)))))) (
 some (.inr (0,[])))) (o0s (s1,s2,(nL s1),0)) λ r4=>
 if r4.1=0 then
 k true
 else
 wx b1w r4.2 λ x5=>
 k x5)
def F47:T36:=P47
abbrev W47 (F:T36):WT:=WU z78 (G36 F)
theorem k47:KU [] X36 47 Tryz.f47 z78 (G36 (P47 )):=λ _ _ _=>by kernel_rfl
theorem u2k:a0l D 47 (W47 F47):=a0b Tryz.func47 tn (k47 )
abbrev T31:Type 1:=(β:Type)→U10→U10→(Bool→Option β)→Option β
def P31 (F47:T36):T31:=λ β a b k=>
 br (a.a == b.a) (
 br (a.b == b.b) (
 F47 _ a.c b.c λ b1=>
 br b1 (
 k (a.d == b.d)) (
 k false)) (
 k false)) (
 k false)
def F31:T31:=P31 F47
def G31 (F:T31):GT:=λ β s k=>F β (r1l s 0) (r1l s 4) (λ y1=>k (.bool y1))
abbrev W31 (F:T31):WT:=WU z79 (G31 F)
theorem k31 (F47:T36):KU [(47,W47 F47)] noX 31 Tryz.f31 z79 (G31 (P31 F47 )):=λ _ _ _=>by kernel_rfl
theorem c3g:a0l D 31 (W31 F31):=a0b Tryz.func31 (tc u2k tn) (k31 F47 )
def g1q (F31:T31):T36:=λ β s1 s2 k=>
 br ((nL s1) != (nL s2)) (
 k false) (
 whl d1m (λ x1=>
 br (decide (x1.2.2.2 < x1.2.2.1)) (
 c0 x1.2.2.2 <|
 ix5 x1.2.1 x1.2.2.2.toNat λ y2=>
 c0 x1.2.2.2 <|
 ix5 x1.1 x1.2.2.2.toNat λ y3=>
 F31 _ y2 y3 λ b4=>
 br (!b4) (
 some (.inr (1,s0l false))) (
 some (.inl (o0s (x1.1,x1.2.1,x1.2.2.1,wi (x1.2.2.2+1)))))) (
 some (.inr (0,[])))) (o0s (s2,s1,(nL s1),0)) λ r5=>
 if r5.1=0 then
 k true
 else
 wx b1w r5.2 λ x6=>
 k x6)
def i0j:T36:=g1q F31
def g1z:a0y:=λ i=>b0c i [] [(4,[(.exit 0,xk 32 [] []),(.ret,xk 32 [(6,.bool false)] [])])]
abbrev q1r (F:T36):WT:=WU z80 (G36 F)
theorem z1u (F31:T31):KU [(31,W31 F31)] g1z 30 Tryz.f30 z80 (G36 (g1q F31 )):=λ _ _ _=>by kernel_rfl
theorem u1s:a0l D 30 (q1r i0j):=a0b Tryz.func30 (tc c3g tn) (z1u F31 )
abbrev T49:Type 1:=(β:Type)→U7→U7→(Bool→Option β)→Option β
def P49 (F47:T36):T49:=λ β a b k=>
 br (a.a == b.a) (
 br (a.b == b.b) (
 br (a.c == b.c) (
 F47 _ a.d b.d λ b1=>
 k b1) (
 k false)) (
 k false)) (
 k false)
def F49:T49:=P49 F47
def G49 (F:T49):GT:=λ β s k=>F β (rd7 s 0) (rd7 s 4) (λ y1=>k (.bool y1))
abbrev W49 (F:T49):WT:=WU z81 (G49 F)
theorem k49 (F47:T36):KU [(47,W47 F47)] noX 49 Tryz.f49 z81 (G49 (P49 F47 )):=λ _ _ _=>by kernel_rfl
theorem c3q:a0l D 49 (W49 F49):=a0b Tryz.func49 (tc u2k tn) (k49 F47 )
def g1r (F49:T49):T36:=λ β s1 s2 k=>
 br ((nL s1) != (nL s2)) (
 k false) (
 whl d1m (λ x1=>
 br (decide (x1.2.2.2 < x1.2.2.1)) (
 c0 x1.2.2.2 <|
 ix6 x1.2.1 x1.2.2.2.toNat λ y2=>
 c0 x1.2.2.2 <|
 ix6 x1.1 x1.2.2.2.toNat λ y3=>
 F49 _ y2 y3 λ b4=>
 br (!b4) (
 some (.inr (1,s0l false))) (
 some (.inl (o0s (x1.1,x1.2.1,x1.2.2.1,wi (x1.2.2.2+1)))))) (
 some (.inr (0,[])))) (o0s (s2,s1,(nL s1),0)) λ r5=>
 if r5.1=0 then
 k true
 else
 wx b1w r5.2 λ x6=>
 k x6)
def i0k:T36:=g1r F49
abbrev q1s (F:T36):WT:=WU z82 (G36 F)
theorem z1v (F49:T49):KU [(49,W49 F49)] g1z 48 Tryz.f48 z82 (G36 (g1r F49 )):=λ _ _ _=>by kernel_rfl
theorem u1t:a0l D 48 (q1s i0k):=a0b Tryz.func48 (tc c3q tn) (z1v F49 )
def P50:T36:=λ β s1 s2 k=>
 br ((nL s1) != (nL s2)) (
 k false) (
 whl d1m (λ x1=>
 br (decide (x1.2.2.2 < x1.2.2.1)) (
 c0 x1.2.2.2 <|
 ix1 x1.1 x1.2.2.2.toNat λ n2=>
 c0 x1.2.2.2 <|
 ix1 x1.2.1 x1.2.2.2.toNat λ n3=>
 br (n2 != n3) (
 some (.inr (1,s0l false))) (
 some (.inl (o0s (x1.1,x1.2.1,x1.2.2.1,wi (x1.2.2.2+1)))))) (
 some (.inr (0,[])))) (o0s (s1,s2,(nL s1),0)) λ r4=>
 if r4.1=0 then
 k true
 else
 wx b1w r4.2 λ x5=>
 k x5)
def F50:T36:=P50
theorem k50:KU [] X36 50 Tryz.f50 z76 (G36 (P50 )):=λ _ _ _=>by kernel_rfl
theorem c3r:a0l D 50 (W36 F50):=a0b Tryz.func50 tn (k50 )
abbrev T32:Type 1:=(β:Type)→U8→U8→(Bool→Option β)→Option β
def P32 (i0k:T36)(F50:T36):T32:=λ β a b k=>
 i0k _ a.a b.a λ b1=>
 br b1 (
 F50 _ a.b b.b λ b2=>
 k b2) (
 k false)
def F32:T32:=P32 i0k F50
def G32 (F:T32):GT:=λ β s k=>F β (rd8 s 0) (rd8 s 2) (λ y1=>k (.bool y1))
abbrev W32 (F:T32):WT:=WU z83 (G32 F)
theorem k32 (i0k:T36)(F50:T36):KU [(48,q1s i0k),(50,W36 F50)] noX 32 Tryz.f32 z83 (G32 (P32 i0k F50 )):=λ _ _ _=>by kernel_rfl
theorem c3h:a0l D 32 (W32 F32):=a0b Tryz.func32 (tc u1t (tc c3r tn)) (k32 i0k F50 )
def P33:T36:=λ β s1 s2 k=>
 br ((nL s1) != (nL s2)) (
 k false) (
 whl d1m (λ x1=>
 br (decide (x1.2.2.2 < x1.2.2.1)) (
 c0 x1.2.2.2 <|
 ix8 x1.1 x1.2.2.2.toNat λ y2=>
 c0 x1.2.2.2 <|
 ix8 x1.2.1 x1.2.2.2.toNat λ y3=>
 br (!(q1 y2 y3)) (
 some (.inr (1,s0l false))) (
 some (.inl (o0s (x1.1,x1.2.1,x1.2.2.1,wi (x1.2.2.2+1)))))) (
 some (.inr (0,[])))) (o0s (s1,s2,(nL s1),0)) λ r4=>
 if r4.1=0 then
 k true
 else
 wx b1w r4.2 λ x5=>
 k x5)
def F33:T36:=P33
abbrev W33 (F:T36):WT:=WU z84 (G36 F)
theorem k33:KU [] X36 33 Tryz.f33 z84 (G36 (P33 )):=λ _ _ _=>by kernel_rfl
theorem c3i:a0l D 33 (W33 F33):=a0b Tryz.func33 tn (k33 )
def P34:T36:=λ β s1 s2 k=>
 br ((nL s1) != (nL s2)) (
 k false) (
 whl d1m (λ x1=>
 br (decide (x1.2.2.2 < x1.2.2.1)) (
 c0 x1.2.2.2 <|
 q0a x1.1 x1.2.2.2.toNat λ y2=>
 c0 x1.2.2.2 <|
 q0a x1.2.1 x1.2.2.2.toNat λ y3=>
 br (!(q2 y2 y3)) (
 some (.inr (1,s0l false))) (
 some (.inl (o0s (x1.1,x1.2.1,x1.2.2.1,wi (x1.2.2.2+1)))))) (
 some (.inr (0,[])))) (o0s (s1,s2,(nL s1),0)) λ r4=>
 if r4.1=0 then
 k true
 else
 wx b1w r4.2 λ x5=>
 k x5)
def F34:T36:=P34
abbrev W34 (F:T36):WT:=WU z85 (G36 F)
theorem k34:KU [] X36 34 Tryz.f34 z85 (G36 (P34 )):=λ _ _ _=>by kernel_rfl
theorem c3j:a0l D 34 (W34 F34):=a0b Tryz.func34 tn (k34 )
def P35:T36:=λ β s1 s2 k=>
 br ((nL s1) != (nL s2)) (
 k false) (
 whl d1m (λ x1=>
 br (decide (x1.2.2.2 < x1.2.2.1)) (
 c0 x1.2.2.2 <|
 ix7 x1.1 x1.2.2.2.toNat λ y2=>
 c0 x1.2.2.2 <|
 ix7 x1.2.1 x1.2.2.2.toNat λ y3=>
 br (!(q0 y2 y3)) (
 some (.inr (1,s0l false))) (
 some (.inl (o0s (x1.1,x1.2.1,x1.2.2.1,wi (x1.2.2.2+1)))))) (
 some (.inr (0,[])))) (o0s (s1,s2,(nL s1),0)) λ r4=>
 if r4.1=0 then
 k true
 else
 wx b1w r4.2 λ x5=>
 k x5)
def F35:T36:=P35
theorem k35:KU [] X36 35 Tryz.f35 z78 (G36 (P35 )):=λ _ _ _=>by kernel_rfl
theorem c3k:a0l D 35 (W47 F35):=a0b Tryz.func35 tn (k35 )
abbrev T10:Type 1:=(β:Type)→U9→U9→(Bool→Option β)→Option β
def P10 (F29:T29)(i0j:T36)(F32:T32)(F33:T36)(F34:T36)(F35:T36)(F36:T36):T10:=λ β a b k=>
 br (q0 ⟨a.a,a.b⟩ ⟨b.a,b.b⟩) (
 F29 _ ⟨a.c,a.d,a.e,a.f,a.g⟩ ⟨b.c,b.d,b.e,b.f,b.g⟩ λ b1=>
 br b1 (
 br ((a.h == b.h) && true) (
 i0j _ a.i b.i λ b2=>
 br b2 (
 br (a.j == b.j) (
 F32 _ ⟨a.k,a.l⟩ ⟨b.k,b.l⟩ λ b3=>
 br b3 (
 F33 _ a.m b.m λ b4=>
 br b4 (
 F34 _ a.n b.n λ b5=>
 br b5 (
 F35 _ a.o b.o λ b6=>
 br b6 (
 br (a.p == b.p) (
 br (a.q == b.q) (
 br (a.r == b.r) (
 br (a.s == b.s) (
 F35 _ a.t b.t λ b7=>
 br b7 (
 F36 _ a.u b.u λ b8=>
 br b8 (
 k (a.v == b.v)) (
 k false)) (
 k false)) (
 k false)) (
 k false)) (
 k false)) (
 k false)) (
 k false)) (
 k false)) (
 k false)) (
 k false)) (
 k false)) (
 k false)) (
 k false)) (
 k false)) (
 k false)
def F10:T10:=P10 F29 i0j F32 F33 F34 F35 F36
def G10 (F:T10):GT:=λ β s k=>F β (rd9 s 0) (rd9 s 22) (λ y1=>k (.bool y1))
abbrev W10 (F:T10):WT:=WU z86 (G10 F)
theorem k10 (F29:T29)(i0j:T36)(F32:T32)(F33:T36)(F34:T36)(F35:T36)(F36:T36):KU [(29,W29 F29),(30,q1r i0j),(32,W32 F32),(33,W33 F33),(34,W34 F34),(35,W47 F35),(36,W36 F36)] noX 10 Tryz.f10 z86 (G10 (P10 F29 i0j F32 F33 F34 F35 F36 )):=λ _ _ _=>by kernel_rfl
theorem u2g:a0l D 10 (W10 F10):=a0b Tryz.func10 (tc c3f (tc u1s (tc c3h (tc c3i (tc c3j (tc c3k (tc u2j tn))))))) (k10 F29 i0j F32 F33 F34 F35 F36 )
abbrev T23:Type 1:=(β:Type)→U16→U16→(Bool→Option β)→Option β
def P23 (F10:T10):T23:=λ β a b k=>
 br (q0 ⟨a.a,a.b⟩ ⟨b.a,b.b⟩) (
 br (a.y == b.y) (
 F10 _ ⟨a.c,a.d,a.e,a.f,a.g,a.h,a.i,a.j,a.k,a.l,a.m,a.n,a.o,a.p,a.q,a.r,a.s,a.t,a.u,a.v,a.w,a.x⟩ ⟨b.c,b.d,b.e,b.f,b.g,b.h,b.i,b.j,b.k,b.l,b.m,b.n,b.o,b.p,b.q,b.r,b.s,b.t,b.u,b.v,b.w,b.x⟩ λ b1=>
 k b1) (
 k false)) (
 k false)
def F23:T23:=P23 F10
def G23 (F:T23):GT:=λ β s k=>F β (u2r s 0) (u2r s 25) (λ y1=>k (.bool y1))
abbrev W23 (F:T23):WT:=WU z87 (G23 F)
theorem k23 (F10:T10):KU [(10,W10 F10)] noX 23 Tryz.f23 z87 (G23 (P23 F10 )):=λ _ _ _=>by kernel_rfl
theorem c3c:a0l D 23 (W23 F23):=a0b Tryz.func23 (tc u2g tn) (k23 F10 )
def g1p (F23:T23):T36:=λ β s1 s2 k=>
 br ((nL s1) != (nL s2)) (
 k false) (
 whl d1m (λ x1=>
 br (decide (x1.2.2.2 < x1.2.2.1)) (
 c0 x1.2.2.2 <|
 v0u x1.2.1 x1.2.2.2.toNat λ y2=>
 c0 x1.2.2.2 <|
 v0u x1.1 x1.2.2.2.toNat λ y3=>
 F23 _ y2 y3 λ b4=>
 br (!b4) (
 some (.inr (1,s0l false))) (
 some (.inl (o0s (x1.1,x1.2.1,x1.2.2.1,wi (x1.2.2.2+1)))))) (
 some (.inr (0,[])))) (o0s (s2,s1,(nL s1),0)) λ r5=>
 if r5.1=0 then
 k true
 else
 wx b1w r5.2 λ x6=>
 k x6)
def l0e:T36:=g1p F23
abbrev q1q (F:T36):WT:=WU z88 (G36 F)
theorem z1t (F23:T23):KU [(23,W23 F23)] g1z 22 Tryz.f22 z88 (G36 (g1p F23 )):=λ _ _ _=>by kernel_rfl
theorem u1r:a0l D 22 (q1q l0e):=a0b Tryz.func22 (tc c3c tn) (z1t F23 )
abbrev T7:Type 1:=(β:Type)→U1→U1→(Bool→Option β)→Option β
def P7 (l0e:T36):T7:=λ β a b k=>
 br (a.b == b.b) (
 l0e _ a.a b.a λ b1=>
 k b1) (
 k false)
def F7:T7:=P7 l0e
def G7 (F:T7):GT:=λ β s k=>F β (rd1 s 0) (rd1 s 2) (λ y1=>k (.bool y1))
abbrev W7 (F:T7):WT:=WU z89 (G7 F)
theorem k7 (l0e:T36):KU [(22,q1q l0e)] noX 7 Tryz.f7 z89 (G7 (P7 l0e )):=λ _ _ _=>by kernel_rfl
theorem ok7:a0l D 7 (W7 F7):=a0b Tryz.func7 (tc u1r tn) (k7 l0e )
abbrev T37:Type 1:=(β:Type)→LV→(U1→U9→Option β)→Option β
def P37 (f0n:r0n)(f0o:k0o)(i0l:h0b):T37:=λ β code k=>
 f0n _ code λ y1=>
 f0o _ y1 λ y2 y3=>
 i0l _ y3 λ y4 y5=>
 k y2 y4
def F37:T37:=P37 f0n f0o i0l
def G37 (F:T37):GT:=λ β s k=>F β (lL s 0) (λ y1 y2=>k (.tup [w21 y1,w22 y2]))
abbrev W37 (F:T37):WT:=WU z0 (G37 F)
theorem k37 (f0n:r0n)(f0o:k0o)(i0l:h0b):KU [(41,ioW (n1g f0n)),(42,ioW (n1h f0o)),(51,ioW (s1m i0l))] noX 37 Tryz.f37 z0 (G37 (P37 f0n f0o i0l )):=λ _ _ _=>by kernel_rfl
theorem c3l:a0l D 37 (W37 F37):=a0b Tryz.func37 (tc j1x (tc j1y (tc r1i tn))) (k37 f0n f0o i0l )
def P11 (F37:T37):T37:=λ β code k=>
 F37 _ code λ y1 y2=>
 k y1 y2
def F11:T37:=P11 F37
theorem k11 (F37:T37):KU [(37,W37 F37)] noX 11 Tryz.f11 z0 (G37 (P11 F37 )):=λ _ _ _=>by kernel_rfl
theorem b3v:a0l D 11 (W37 F11):=a0b Tryz.func11 (tc c3l tn) (k11 F37 )
def P12 (F20:T24)(F21:T21)(F38:T45):T66:=λ β t p k=>
 F20 _ t λ y1=>
 F21 _ t λ b2=>
 br b2 (
 F38 _ p λ y3=>
 ci t.b y1.a <|
 c0z y1.a t.b.toNat 0 (w8 ⟨p.a,p.b,y3.a,y3.b,y3.c,y3.d,y3.e,y3.f,y3.g,y3.h,y3.i,y3.j,y3.k,y3.l,y3.m,y3.n,y3.o,y3.p,y3.q,y3.r,y3.s,y3.t,y3.u,y3.v,true⟩).cells λ l4=>
 k {y1 with a:=l4}) (
 k y1)
def F12:T66:=P12 F20 F21 F38
def G12 (F:T66):GT:=λ β s k=>F β (rd1 s 0) (rd9 s 2) (λ y1=>k (w11 y1))
abbrev W12 (F:T66):WT:=WU z70 (G12 F)
theorem k12 (F20:T24)(F21:T21)(F38:T45):KU [(20,W24 F20),(21,W21 F21),(38,W45 F38)] noX 12 Tryz.f12 z70 (G12 (P12 F20 F21 F38 )):=λ _ _ _=>by kernel_rfl
theorem b3w:a0l D 12 (W12 F12):=a0b Tryz.func12 (tc l2s (tc l2t (tc l2u tn))) (k12 F20 F21 F38 )
abbrev T39:Type 1:=(β:Type)→U1→(U9→Bool→Option β)→Option β
def P39 (F21:T21)(F38:T45):T39:=λ β t k=>
 jt0 (c0 t.b <|
 v0u t.a t.b.toNat λ y4=>
 F38 _ ⟨y4.c,y4.d,y4.e,y4.f,y4.g,y4.h,y4.i,y4.j,y4.k,y4.l,y4.m,y4.n,y4.o,y4.p,y4.q,y4.r,y4.s,y4.t,y4.u,y4.v,y4.w,y4.x⟩ λ y5=>
 k y5 true) λ j6=>
 F21 _ t λ b1=>
 br (!b1) (
 k ⟨[],[],false,[],[],[],[],[],[],false,[],[],[],[],[],0,0,0,0,[],[],false⟩ false) (
 c0 t.b <|
 v0u t.a t.b.toNat λ y2=>
 br (!y2.y) (
 k ⟨[],[],false,[],[],[],[],[],[],false,[],[],[],[],[],0,0,0,0,[],[],false⟩ false) (
 j6))
def F39:T39:=P39 F21 F38
def G39 (F:T39):GT:=λ β s k=>F β (rd1 s 0) (λ y1 y2=>k (.tup [w17 y1,.bool y2]))
abbrev W39 (F:T39):WT:=WU z69 (G39 F)
theorem k39 (F21:T21)(F38:T45):KU [(21,W21 F21),(38,W45 F38)] noX 39 Tryz.f39 z69 (G39 (P39 F21 F38 )):=λ _ _ _=>by kernel_rfl
theorem c3m:a0l D 39 (W39 F39):=a0b Tryz.func39 (tc l2t (tc l2u tn)) (k39 F21 F38 )
def P13 (F39:T39)(F17:j0i):T39:=λ β t k=>
 F39 _ t λ y1 b2=>
 br (!b2) (
 k ⟨[],[],false,[],[],[],[],[],[],false,[],[],[],[],[],0,0,0,0,[],[],false⟩ false) (
 F17 _ y1 λ b3=>
 br (!b3) (
 k ⟨[],[],false,[],[],[],[],[],[],false,[],[],[],[],[],0,0,0,0,[],[],false⟩ false) (
 k y1 true))
def F13:T39:=P13 F39 F17
theorem k13 (F39:T39)(F17:j0i):KU [(39,W39 F39),(17,y0r F17)] noX 13 Tryz.f13 z69 (G39 (P13 F39 F17 )):=λ _ _ _=>by kernel_rfl
theorem b3x:a0l D 13 (W39 F13):=a0b Tryz.func13 (tc c3m (tc l2j tn)) (k13 F39 F17 )
def P40 (F25:T25)(F45:T45):T39:=λ β t k=>
 jt0 (c0 t.b <|
 v0u t.a t.b.toNat λ y4=>
 F45 _ ⟨y4.c,y4.d,y4.e,y4.f,y4.g,y4.h,y4.i,y4.j,y4.k,y4.l,y4.m,y4.n,y4.o,y4.p,y4.q,y4.r,y4.s,y4.t,y4.u,y4.v,y4.w,y4.x⟩ λ y5=>
 k y5 true) λ j6=>
 F25 _ t.b 0 (wi ((nL t.a) - 1)) λ b1=>
 br (!b1) (
 k ⟨[],[],false,[],[],[],[],[],[],false,[],[],[],[],[],0,0,0,0,[],[],false⟩ false) (
 c0 t.b <|
 v0u t.a t.b.toNat λ y2=>
 br (!y2.y) (
 k ⟨[],[],false,[],[],[],[],[],[],false,[],[],[],[],[],0,0,0,0,[],[],false⟩ false) (
 j6))
def F40:T39:=P40 F25 F45
theorem k40 (F25:T25)(F45:T45):KU [(25,W25 F25),(45,W45 F45)] noX 40 Tryz.f40 z69 (G39 (P40 F25 F45 )):=λ _ _ _=>by kernel_rfl
theorem c3n:a0l D 40 (W39 F40):=a0b Tryz.func40 (tc v0b (tc v0v tn)) (k40 F25 F45 )
def P14 (F40:T39)(F26:j0i):T39:=λ β t k=>
 F40 _ t λ y1 b2=>
 br (!b2) (
 k ⟨[],[],false,[],[],[],[],[],[],false,[],[],[],[],[],0,0,0,0,[],[],false⟩ false) (
 F26 _ y1 λ b3=>
 br (!b3) (
 k ⟨[],[],false,[],[],[],[],[],[],false,[],[],[],[],[],0,0,0,0,[],[],false⟩ false) (
 k y1 true))
def F14:T39:=P14 F40 F26
theorem k14 (F40:T39)(F26:j0i):KU [(40,W39 F40),(26,y0r F26)] noX 14 Tryz.f14 z69 (G39 (P14 F40 F26 )):=λ _ _ _=>by kernel_rfl
theorem b3y:a0l D 14 (W39 F14):=a0b Tryz.func14 (tc c3n (tc u2i tn)) (k14 F40 F26 )
abbrev T15:Type 1:=(β:Type)→LV→(U1→Int→Option β)→Option β
def P15 (f0n:r0n)(f0o:k0o)(a0s:f0e):T15:=λ β code k=>
 f0n _ code λ y1=>
 f0o _ y1 λ y2 y3=>
 a0s _ (wi ((nL y2.a)+2)) y3 λ n4 y5=>
 k y2 (wi (n4 - 1))
def F15:T15:=P15 f0n f0o a0s
def G15 (F:T15):GT:=λ β s k=>F β (lL s 0) (λ y1 y2=>k (.tup [w21 y1,.int .i64 y2]))
abbrev W15 (F:T15):WT:=WU z0 (G15 F)
theorem k15 (f0n:r0n)(f0o:k0o)(a0s:f0e):KU [(41,ioW (n1g f0n)),(42,ioW (n1h f0o)),(43,ioW (o0i a0s))] noX 15 Tryz.f15 z0 (G15 (P15 f0n f0o a0s )):=λ _ _ _=>by kernel_rfl
theorem b3z:a0l D 15 (W15 F15):=a0b Tryz.func15 (tc j1x (tc j1y (tc j0f tn))) (k15 f0n f0o a0s )
def P18 (F24:T24)(F25:T25)(F45:T45):T66:=λ β t p k=>
 F24 _ t λ y1=>
 F25 _ t.b 0 (wi ((nL t.a) - 1)) λ b2=>
 br (!b2) (
 k y1) (
 F45 _ p λ y3=>
 ci t.b y1.a <|
 c0z y1.a t.b.toNat 0 (w8 ⟨p.a,p.b,y3.a,y3.b,y3.c,y3.d,y3.e,y3.f,y3.g,y3.h,y3.i,y3.j,y3.k,y3.l,y3.m,y3.n,y3.o,y3.p,y3.q,y3.r,y3.s,y3.t,y3.u,y3.v,true⟩).cells λ l4=>
 k {y1 with a:=l4})
def F18:T66:=P18 F24 F25 F45
theorem k18 (F24:T24)(F25:T25)(F45:T45):KU [(24,W24 F24),(25,W25 F25),(45,W45 F45)] noX 18 Tryz.f18 z70 (G12 (P18 F24 F25 F45 )):=λ _ _ _=>by kernel_rfl
theorem c3a:a0l D 18 (W12 F18):=a0b Tryz.func18 (tc a2t (tc v0b (tc v0v tn))) (k18 F24 F25 F45 )
def P3 (F4:T4)(F5:T19)(F6:T24)(F8:T24)(F7:T7)(F9:T9)(F10:T10)(F11:T37)(F12:T66)(F13:T39)(F14:T39)(F15:T15)(F16:T16)(F18:T66)(F17:j0i):T4:=λ β code k=>
 F4 _ code λ b1=>
 br b1 (
 k true) (
 F5 _ code λ y2=>
 F6 _ y2 λ y3=>
 jt0 (whl t2c (λ x13=>
 br (decide (x13.2.1 < (nL x13.2.2.1.a))) (
 ci x13.2.1 x13.2.2.2.a <|
 ia5 x13.2.2.2.a x13.2.1.toNat 24 λ b14=>
 br b14 (
 ci x13.2.1 x13.2.2.2.a <|
 ia6 x13.2.2.2.a x13.2.1.toNat 2 λ y15=>
 c0 x13.2.1 <|
 v0u x13.2.2.1.a x13.2.1.toNat λ y16=>
 F10 _ y15 ⟨y16.c,y16.d,y16.e,y16.f,y16.g,y16.h,y16.i,y16.j,y16.k,y16.l,y16.m,y16.n,y16.o,y16.p,y16.q,y16.r,y16.s,y16.t,y16.u,y16.v,y16.w,y16.x⟩ λ b17=>
 br (!b17) (
 some (.inr (1,i2g (x13.1,false)))) (
 some (.inl (d2m (x13.1,wi (x13.2.1+1),x13.2.2.1,x13.2.2.2))))) (
 some (.inl (d2m (x13.1,wi (x13.2.1+1),x13.2.2.1,x13.2.2.2))))) (
 some (.inr (0,eS8 x13.1)))) (d2m (code,0,y2,y3)) λ r19=>
 if r19.1=0 then
 wx dS8 r19.2 λ x20=>
 F11 _ x20 λ y22 y23=>
 F12 _ y22 y23 λ y24=>
 F13 _ y24 λ y25 b26=>
 F14 _ y24 λ y27 b28=>
 F15 _ x20 λ y29 n30=>
 F16 _ y29 n30 λ y31=>
 br (b26 == b28) (
 F10 _ y25 y27 λ b32=>
 br b32 (
 br (!b26) (
 F18 _ y22 y23 λ y33=>
 F7 _ y24 y33 λ b34=>
 br b34 (
 br ((nL y31.a) == (nL y29.a)) (
 br (decide (n30 < 0)) (
 k true) (
 br (decide (n30 ≥ (nL y29.a))) (
 k true) (
 ci n30 y31.a <|
 ia5 y31.a n30.toNat 24 λ b35=>
 k (!b35)))) (
 k false)) (
 k false)) (
 F17 _ y25 λ b36=>
 br b36 (
 F18 _ y22 y23 λ y37=>
 F7 _ y24 y37 λ b38=>
 br b38 (
 br ((nL y31.a) == (nL y29.a)) (
 br (decide (n30 < 0)) (
 k true) (
 br (decide (n30 ≥ (nL y29.a))) (
 k true) (
 ci n30 y31.a <|
 ia5 y31.a n30.toNat 24 λ b39=>
 k (!b39)))) (
 k false)) (
 k false)) (
 k false))) (
 k false)) (
 k false)
 else
 wx r2w r19.2 λ x21=>
 k x21.2) λ j41=>
 F8 _ y2 λ y4=>
 F7 _ y3 y4 λ b5=>
 br (!b5) (
 k false) (
 F9 _ y3 λ n6=>
 br (decide (n6 > 3)) (
 F9 _ y3 λ n7=>
 br (decide (n7 > 1)) (
 k false) (
 F9 _ y3 λ n8=>
 F9 _ y2 λ n9=>
 br (decide (n8 > n9)) (
 k false) (
 j41))) (
 F9 _ y3 λ n10=>
 F9 _ y2 λ n11=>
 br (decide (n10 > n11)) (
 k false) (
 j41))))
def F3:T4:=P3 F4 F5 F6 F8 F7 F9 F10 F11 F12 F13 F14 F15 F16 F18 F17
def X3:a0y:=λ i=>b0c i [] [(8,[(.exit 0,xk 151 [(0,.sl 1 true [])] []),(.ret,xk 151 [(0,.sl 1 true []),(2,.bool false)] [])])]
theorem k3 (F4:T4)(F5:T19)(F6:T24)(F8:T24)(F7:T7)(F9:T9)(F10:T10)(F11:T37)(F12:T66)(F13:T39)(F14:T39)(F15:T15)(F16:T16)(F18:T66)(F17:j0i):KU [(4,W4 F4),(5,W19 F5),(6,W24 F6),(8,W24 F8),(7,W7 F7),(9,W9 F9),(10,W10 F10),(11,W37 F11),(12,W12 F12),(13,W39 F13),(14,W39 F14),(15,W15 F15),(16,W16 F16),(18,W12 F18),(17,y0r F17)] X3 3 Tryz.f3 z0 (G4 (P3 F4 F5 F6 F8 F7 F9 F10 F11 F12 F13 F14 F15 F16 F18 F17 )):=λ _ _ _=>by kernel_rfl
theorem ok3:a0l D 3 (W4 F3):=a0b Tryz.func3 (tc ok4 (tc ok5 (tc ok6 (tc ok8 (tc ok7 (tc ok9 (tc u2g (tc b3v (tc b3w (tc b3x (tc b3y (tc b3z (tc u2h (tc c3a (tc l2j tn))))))))))))))) (k3 F4 F5 F6 F8 F7 F9 F10 F11 F12 F13 F14 F15 F16 F18 F17 )
end
end Go.Am
end
section
set_option linter.unusedVariables false
set_option maxRecDepth 10000
namespace Go.Am
open Go
abbrev m2b (y:U16):U9:=⟨y.c,y.d,y.e,y.f,y.g,y.h,y.i,y.j,y.k,y.l,y.m,y.n,y.o,y.p,y.q,y.r,y.s,y.t,y.u,y.v,y.w,y.x⟩
abbrev Vi (y:U16):Prop:=Pg 5062400 (m2b y)
abbrev Tb (t:U1):Prop:=t.a.length≤7∧Rw w8 Vi t.a
theorem m2c {l:LV}{i:Nat}{y:U16}(hg:l[i]? = some (w8 y)):An (λ _=>v0u l i) λ z=>z=y:=⟨_,rfl,λ β k=>by show v0u l i k=k y; unfold v0u; exact g0e (ks:=[.str,.str,.str,.str,.bool,.sl 1 true,.sl 1 true,.sl 1 true,.str,.str,.sl 4 false,.bool,.sl 4 false,.sl 1 true,.sl 8 true,.sl 5 true,.sl 2 true,.int .i64,.int .i64,.int .i64,.int .i64,.sl 2 true,.sl 1 true,.bool,.bool]) (e:=(y.a,y.b,y.c,y.d,y.e,y.f,y.g,y.h,y.i,y.j,y.k,y.l,y.m,y.n,y.o,y.p,y.q,y.r,y.s,y.t,y.u,y.v,y.w,y.x,y.y,())) hg rfl⟩
theorem t63 {c:U0}(h:Cu c):An2 (λ β=>i0m β c) λ t y=>Sl 10 t∧Cu y:=by
 refine f3n ?_
 unfold i0m s1a
 exact f3i (t77 (P:=Sl 10) h (by repeat first | exact Rw.nil | refine Rw.cons (by decide) ?_) (by simp)) λ t y hy=>f3j hy
theorem t51 {c:U0}(h:Cu c):An2 (λ β=>i0l β c) λ p y=>Pg 5062400 p∧Cu y:=by
 refine f3n ?_
 unfold i0l r1u
 exact f3h (t62 h) λ p _ y ⟨hp,h⟩=>f3i (t63 h) λ t y ⟨ht,h⟩=>f3j ⟨⟨⟨hp.ad.1,Sl.up (by omega) ht⟩,hp.po,hp.tok,hp.qu,hp.bu,hp.sl,hp.mo,hp.en,hp.ra,hp.lo⟩,h⟩
theorem t24 {t:U1}(h:Tb t):An (λ β=>F24 β t) λ r=>r=t:=by
 refine g3e ?_
 unfold F24 P24
 have hl:=h.1
 refine f3l (wh t2h (λ x=>x.2.1=t∧(0≤x.1∧x.1≤t.a.length)∧x.2.2.2=⟨t.a.take x.1.toNat,t.b⟩) (λ x=>(t.a.length - x.1).toNat) (Ex:=λ r=>∃ n,r=(0,f1y (n,t))) ⟨rfl,by simp,rfl⟩ λ x ⟨h1,h2,h3⟩=>?_) λ r ⟨n,hr⟩=>?_
 ·rw [h1,h3]
  refine f3u (λ e=>?_) λ e=>f3p ⟨_,by rw [List.take_of_length_le (by omega)]⟩
  obtain ⟨y,hy,hg⟩:=h.2.get (show x.1.toNat < t.a.length by omega)
  refine g3b h2.1 (f3l (m2c hg) λ z hz=>g3b h2.1 (f3l (m2c hg) λ z2 hz2=>?_))
  subst hz
  subst hz2
  refine f3l (t45 hy (by omega)) λ q hq=>?_
  subst hq
  refine g3j (by simp; omega) (g3a ⟨rfl,?_,?_⟩ ?_)
  ·simp only; rw [wi1 (by omega)]; omega
  ·simp only; rw [wi1 (by omega),take1 h2.1 hg]
  ·simp only; rw [wi1 (by omega)]; omega
 ·subst hr
  exact g3g (x:=(n,t)) rfl (f3v rfl)
theorem t78 (a b:Int):An (λ β=>F78 β a b) λ r=>(r=a∨r=b)∧a≤r∧b≤r:=by
 refine g3e ?_
 unfold F78 P78
 exact f3t (λ e=>f3v ⟨.inr rfl,by omega,by omega⟩) λ e=>f3v ⟨.inl rfl,by omega,by omega⟩
theorem t66 {t:U1}{p:U9}(h:Tb t)(hp:Pg 5062400 p):An (λ β=>F66 β t p) Tb:=by
 refine g3e ?_
 unfold F66 P66
 have hl:=h.1
 refine f3l (t24 h) λ y hy=>?_
 subst hy
 refine f3l (t79 _ _) λ n2 ⟨_,_,h2⟩=>f3l (t79 _ _) λ n3 ⟨_,h3,_⟩=>f3l (t78 _ _) λ n4 ⟨h4,h5,_⟩=>?_
 rw [a0t] at h3
 refine g3k (by rw [a0t]; omega) (f3l (t45 hp (by omega)) λ q hq=>?_)
 subst hq
 have k:Rw w8 Vi (((y.a.take n4.toNat).drop 0)++[w8 ⟨q.a,q.b,q.a,q.b,q.c,q.d,q.e,q.f,q.g,q.h,q.i,q.j,q.k,q.l,q.m,q.n,q.o,q.p,q.q,q.r,q.s,q.t,q.u,q.v,true⟩]):=((h.2.take _).drop _).app (Rw.one hp)
 refine g3j (by simp; omega) (f3t (λ e=>g3k ?_ (f3v ⟨?_,(k.take _).drop _⟩)) λ e=>f3v ⟨?_,k⟩)
 ·rw [a0t] at e ⊢; omega
 ·simp [a0t]; omega
 ·rw [a0t] at e; simp at e ⊢; omega
theorem t68 {t:U1}{k:Int}(h:Tb t):An2 (λ β=>F68 β t k) λ r _=>Tb r:=by
 refine f3n ?_
 unfold F68 P68
 refine f3l (t24 h) λ y hy=>?_
 subst hy
 exact g3f (λ _=>g3f (λ _=>f3j h) λ _=>f3l (t25 _ _ _) λ _ _=>g3f (λ _=>f3j h) λ _=>f3l (t25 _ _ _) λ _ _=>g3f (λ _=>f3j h) λ _=>f3j h) λ _=>f3l (t25 _ _ _) λ _ _=>g3f (λ _=>f3j h) λ _=>f3l (t25 _ _ _) λ _ _=>g3f (λ _=>f3j h) λ _=>f3j h
theorem t65:An (λ β=>F65 β) Tb:=by
 refine g3e ?_
 unfold F65 P65
 exact f3v ⟨by simp,Rw.nil⟩
theorem t55 {c:U0}(h:Cu c):An2 (λ β=>r0f β c) λ t y=>Tb t∧Cu y:=by
 refine f3n ?_
 unfold r0f r1v
 refine f3l t65 λ y hy=>f3i (t56 (P:=λ n=>0≤n∧n≤7) h (by repeat first | exact Rw.nil | refine Rw.cons (w:=wn) (by omega) ?_) (by simp)) λ n c ⟨hn,h⟩=>f3l (wh z2i (λ x=>(0≤x.1∧x.1≤7)∧Tb x.2.2.1∧Cu x.2.2.2) (λ x=>x.1.toNat) (Ex:=λ r=>∃ z:tS2,r=(0,eS2 z)∧Tb z.2.1∧Cu z.2.2) ⟨hn,hy,h⟩ λ x ⟨h1,h2,h3⟩=>?_) λ r ⟨z,hr,hz⟩=>?_
 ·refine f3t (λ e=>f3i (t51 h3) λ p c ⟨hp,h⟩=>f3l (t66 h2 hp) λ t ht=>f3i (t67 4 h) λ b c h=>g3f (λ _=>f3i (t68 ht) λ t2 _ ht2=>g3a ⟨?_,ht2,h⟩ ?_) λ _=>g3a ⟨?_,ht,h⟩ ?_) λ _=>f3p ⟨_,rfl,h2,h3⟩ <;> (try simp only) <;> rw [wim (by omega)] <;> omega
 ·subst hr
  exact g3g (x:=z) rfl (f3j hz)
theorem t57 {c:U0}(h:Cu c):An2 (λ β=>r0g β c) λ _ y=>Cu y:=by
 refine f3n ?_
 unfold r0g r1x t0z s1c
 exact f3i (t77 (P:=tt) h (by repeat first | exact Rw.nil | refine Rw.cons trivial ?_) (by simp)) λ _ y ⟨_,h⟩=>f3i (t63 h) λ _ y ⟨_,h⟩=>f3j h
theorem t42 {c:U0}(h:Cu c):An2 (λ β=>f0o β c) λ t y=>Tb t∧Cu y:=by
 refine f3n ?_
 unfold f0o r1s
 refine f3i (t55 h) λ t y ⟨ht,h⟩=>f3i (t43 _ h) λ n y ⟨_,h⟩=>g3f (λ _=>f3i (t56 (P:=tt) h (by repeat first | exact Rw.nil | refine Rw.cons (w:=wn) trivial ?_) (by simp)) λ _ y ⟨_,h⟩=>f3j ⟨ht,h⟩) λ _=>g3f (λ _=>f3t (λ e=>f3i (t57 h) λ a y h=>f3x ?_ (f3l (m0n (λ z=>{z with a:=a.a,b:=a.b}) ht.2 ?_ (λ _ q=>q) λ z=>⟨_,rfl,rfl⟩) λ l ⟨h6,k6,_⟩=>f3j ⟨⟨?_,k6⟩,h⟩)) λ _=>f3j ⟨ht,h⟩) λ _=>g3f (λ _=>f3t (λ e=>f3x ?_ (f3l (m0n (λ z=>{z with y:=false}) ht.2 ?_ (λ _ q=>q) λ z=>⟨_,rfl,rfl⟩) λ l ⟨h6,k6,_⟩=>f3j ⟨⟨?_,k6⟩,h⟩)) λ _=>f3j ⟨ht,h⟩) λ _=>f3j ⟨ht,h⟩
 all_goals (have:=ht.1; rw [a0t] at e; (try simp only); omega)
theorem t41 {code:LV}(h:Rw wb tt code)(hl:code.length≤1048576):An (λ β=>f0n β code) Cu:=by
 refine g3e ?_
 unfold f0n r1r
 refine f3l (wh de1 (λ x=>x.1=code∧(0≤x.2.2∧x.2.2≤code.length)) (λ x=>(code.length - x.2.2).toNat) (Ex:=λ r=>∃ n,r=(0,eS0 (code,n))) ⟨rfl,by simp⟩ λ x ⟨h1,h2⟩=>?_) λ r ⟨n,hr⟩=>?_
 ·rw [h1]
  refine g3h (f3u (λ e=>g3f (λ _=>g3b h2.1 (f3l (r0 h (by omega)) λ n _=>g3a ⟨rfl,?_⟩ ?_)) λ _=>f3p ⟨_,rfl⟩) λ _=>f3p ⟨_,rfl⟩) <;> simp only <;> rw [wi1 (n:=x.2.2) (by omega)] <;> omega
 ·subst hr
  exact g3g (x:=(code,n)) rfl (f3v ⟨h,by simp,by simp,hl⟩)
section
variable {code:LV}(h:Rw wb tt code)(hl:code.length≤1048576)
include h hl
theorem t5:An (λ β=>F5 β code) Tb:=by
 refine g3e ?_
 unfold F5 P5 F19 P19
 exact f3l (t41 h hl) λ c hc=>f3i (t42 hc) λ t _ ht=>f3v ht.1
theorem t11:An2 (λ β=>F11 β code) λ t p=>Tb t∧Pg 5062400 p:=by
 refine f3n ?_
 unfold F11 P11 F37 P37
 exact f3l (t41 h hl) λ c hc=>f3i (t42 hc) λ t c ⟨ht,hc⟩=>f3i (t51 hc) λ p _ hp=>f3j ⟨ht,hp.1⟩
theorem t15:An2 (λ β=>F15 β code) λ t _=>Tb t:=by
 refine f3n ?_
 unfold F15 P15
 exact f3l (t41 h hl) λ c hc=>f3i (t42 hc) λ t c ⟨ht,hc⟩=>f3i (t43 _ hc) λ _ _ _=>f3j ht
end
end Go.Am
end
section
set_option linter.unusedVariables false
set_option maxRecDepth 10000
namespace Go.Am
open Go
theorem An.v {A:Type}{G:∀ β:Type,(A→Option β)→Option β}{v:A}(h:An G (λ r=>r=v))(β:Type)(k:A→Option β):G β k=k v:=by
 obtain ⟨a,rfl,h⟩:=h
 exact h β k
section
variable {l:LV}{i:Nat}{α:Type}
theorem i1 {y:Int}(h:l[i]? = some (wn y))(k:Int→Option α):ix1 l i k=k y:=by unfold ix1; exact g0e (ks:=[.int .i64]) (e:=(y,())) h rfl
theorem i2 {y:LU}(h:l[i]? = some (V.str y))(k:LU→Option α):ix2 l i k=k y:=by unfold ix2; exact g0e (ks:=[.str]) (e:=(y,())) h rfl
theorem i5 {y:U10}(h:l[i]? = some (w1 y))(k:U10→Option α):ix5 l i k=k y:=by unfold ix5; exact g0e (ks:=[.int .i64,.str,.sl 2 true,.str]) (e:=(y.a,y.b,y.c,y.d,())) h rfl
theorem i6 {y:U7}(h:l[i]? = some (w0 y))(k:U7→Option α):ix6 l i k=k y:=by unfold ix6; exact g0e (ks:=[.str,.str,.int .i64,.sl 2 true]) (e:=(y.a,y.b,y.c,y.d,())) h rfl
theorem i7 {y:U6}(h:l[i]? = some (w2 y))(k:U6→Option α):ix7 l i k=k y:=by unfold ix7; exact g0e (ks:=[.str,.str]) (e:=(y.a,y.b,())) h rfl
theorem i8 {y:U11}(h:l[i]? = some (w5 y))(k:U11→Option α):ix8 l i k=k y:=by unfold ix8; exact g0e (ks:=[.int .i64,.str,.str,.str,.int .i64,.bool,.int .i64,.str]) (e:=(y.a,y.b,y.c,y.d,y.e,y.f,y.g,y.h,())) h rfl
theorem i12 {y:U15}(h:l[i]? = some (w6 y))(k:U15→Option α):q0a l i k=k y:=by unfold q0a; exact g0e (ks:=[.str,.str,.bool,.int .i64,.str]) (e:=(y.a,y.b,y.c,y.d,y.e,())) h rfl
theorem i13 {y:U16}(h:l[i]? = some (w8 y))(k:U16→Option α):v0u l i k=k y:=(m2c h).v α k
theorem c0p {n:Int}(h:0≤n)(x:Option α):c0 n x=x:=if_pos h
end
theorem brt {α:Type}(x y:Option α):Go.Am.br true x y=x:=rfl
theorem brf {α:Type}(x y:Option α):Go.Am.br false x y=y:=rfl
theorem eqW {U:Type}{w:U→V}{P:U→Prop}{l:LV}{step:e2f→LR}(h:Rw w P l)(hl:l.length≤1099511627776)(hs:∀ (n:Int) (y:U),0≤n→decide (n < nL l)=true→P y→l[n.toNat]? = some (w y)→step (l,l,nL l,n)=some (.inl (o0s (l,l,nL l,wi (n+1)))))(he:∀ n,decide (n < nL l)=false→step (l,l,nL l,n)=some (.inr (0,[])))(β:Type)(k:Nat × LL→Option β):whl d1m step (o0s (l,l,nL l,0)) k=k (0,[]):=by
 refine An.v (G:=λ β=>whl d1m step (o0s (l,l,nL l,0))) (v:=((0:Nat),([]:LL))) (wh t2i (λ x=>x.1=l∧x.2.1=l∧x.2.2.1=nL l∧(0≤x.2.2.2∧x.2.2.2≤l.length)) (λ x=>(l.length - x.2.2.2).toNat) ⟨rfl,rfl,rfl,by simp⟩ λ x ⟨h1,h2,h3,h4⟩=>?_) β k
 obtain ⟨x1,x2,x3,n⟩:=x
 simp only at h1 h2 h3 h4
 rw [h1,h2,h3]
 by_cases c:n < l.length
 ·obtain ⟨y,hy,hg⟩:=h.get (show n.toNat < l.length by omega)
  rw [hs n y h4.1 (decide_eq_true c) hy hg]
  refine g3a ⟨rfl,rfl,rfl,?_⟩ ?_ <;> simp only <;> rw [wi1 (by omega)] <;> omega
 ·rw [he n (decide_eq_false c)]
  exact f3p rfl
theorem d2u (y:U6):q0 y y=true:=q0_eq.2 rfl
theorem d3p (y:U11):q1 y y=true:=by unfold q1; simp
theorem d3q (y:U15):q2 y y=true:=by unfold q2; simp
theorem neL (l:LV):(nL l != nL l)=false:=by simp
theorem t36 {l:LV}{P:LU→Prop}(h:Rw V.str P l)(hl:l.length≤1099511627776):An (λ β=>F36 β l l) λ r=>r=true:=⟨true,rfl,λ β k=>by
 show F36 β l l k=_
 unfold F36 P36
 rw [neL,brf]
 exact (eqW h hl (λ n y h0 h1 _ hg=>by simp only [h1,brt,c0p h0,i2 hg,beq_self_eq_true,Bool.not_true,brf]) (λ n h=>by simp only [h,brf]) _ _).trans (if_pos rfl)⟩
theorem t35 {l:LV}{P:U6→Prop}(h:Rw w2 P l)(hl:l.length≤1099511627776):An (λ β=>F35 β l l) λ r=>r=true:=⟨true,rfl,λ β k=>by
 show F35 β l l k=_
 unfold F35 P35
 rw [neL,brf]
 exact (eqW h hl (λ n y h0 h1 _ hg=>by simp only [h1,brt,c0p h0,i7 hg,d2u,Bool.not_true,brf]) (λ n h=>by simp only [h,brf]) _ _).trans (if_pos rfl)⟩
theorem t47 {l:LV}{P:U6→Prop}(h:Rw w2 P l)(hl:l.length≤1099511627776):An (λ β=>F47 β l l) λ r=>r=true:=⟨true,rfl,λ β k=>by
 show F47 β l l k=_
 unfold F47 P47
 rw [neL,brf]
 exact (eqW h hl (λ n y h0 h1 _ hg=>by simp only [h1,brt,c0p h0,i7 hg,d2u,Bool.not_true,brf]) (λ n h=>by simp only [h,brf]) _ _).trans (if_pos rfl)⟩
theorem t34 {l:LV}{P:U15→Prop}(h:Rw w6 P l)(hl:l.length≤1099511627776):An (λ β=>F34 β l l) λ r=>r=true:=⟨true,rfl,λ β k=>by
 show F34 β l l k=_
 unfold F34 P34
 rw [neL,brf]
 exact (eqW h hl (λ n y h0 h1 _ hg=>by simp only [h1,brt,c0p h0,i12 hg,d3q,Bool.not_true,brf]) (λ n h=>by simp only [h,brf]) _ _).trans (if_pos rfl)⟩
theorem t33 {l:LV}{P:U11→Prop}(h:Rw w5 P l)(hl:l.length≤1099511627776):An (λ β=>F33 β l l) λ r=>r=true:=⟨true,rfl,λ β k=>by
 show F33 β l l k=_
 unfold F33 P33
 rw [neL,brf]
 exact (eqW h hl (λ n y h0 h1 _ hg=>by simp only [h1,brt,c0p h0,i8 hg,d3p,Bool.not_true,brf]) (λ n h=>by simp only [h,brf]) _ _).trans (if_pos rfl)⟩
theorem t50 {l:LV}{P:Int→Prop}(h:Rw wn P l)(hl:l.length≤1099511627776):An (λ β=>F50 β l l) λ r=>r=true:=⟨true,rfl,λ β k=>by
 show F50 β l l k=_
 unfold F50 P50
 rw [neL,brf]
 exact (eqW h hl (λ n y h0 h1 _ hg=>by simp only [h1,brt,c0p h0,i1 hg,bne_self_eq_false,brf]) (λ n h=>by simp only [h,brf]) _ _).trans (if_pos rfl)⟩
theorem b2w {l:LV}{n:Nat}(h:Ls n w1 (Tk n) l)(hl:n≤1099511627776):An (λ β=>i0j β l l) λ r=>r=true:=⟨true,rfl,λ β k=>by
 show i0j β l l k=_
 unfold i0j g1q
 rw [neL,brf]
 refine (eqW h.2 (Nat.le_trans h.1 hl) (λ i y h0 h1 hy hg=>?_) (λ n h=>by simp only [h,brf]) _ _).trans (if_pos rfl)
 have e:∀ β k,F31 β y y k=k true:=λ β k=>by
  unfold F31 P31
  simp only [beq_self_eq_true,brt,(t47 hy.2.1.2 (Nat.le_trans hy.2.1.1 hl)).v]
 simp only [h1,brt,c0p h0,i5 hg,e,Bool.not_true,brf]⟩
theorem b2x {l:LV}{n:Nat}(h:Ls 40 w0 (Nd n) l)(hl:n≤1099511627776):An (λ β=>i0k β l l) λ r=>r=true:=⟨true,rfl,λ β k=>by
 show i0k β l l k=_
 unfold i0k g1r
 rw [neL,brf]
 refine (eqW h.2 (Nat.le_trans h.1 (by omega)) (λ i y h0 h1 hy hg=>?_) (λ n h=>by simp only [h,brf]) _ _).trans (if_pos rfl)
 have e:∀ β k,F49 β y y k=k true:=λ β k=>by
  unfold F49 P49
  simp only [beq_self_eq_true,brt,(t47 hy.2.2.2 (Nat.le_trans hy.2.2.1 hl)).v]
 simp only [h1,brt,c0p h0,i6 hg,e,Bool.not_true,brf]⟩
theorem t10 {p:U9}{n:Nat}(h:Pg n p)(hn:n≤1099511627776):An (λ β=>F10 β p p) λ r=>r=true:=⟨true,rfl,λ β k=>by
 show F10 β p p k=_
 unfold F10 P10 F29 P29 F32 P32
 have h4:=h.ra.1
 simp only [d2u,beq_self_eq_true,brt,Bool.and_true,(t36 h.po.1.2 (Nat.le_trans h.po.1.1 hn)).v,(t36 h.po.2.1.2 (Nat.le_trans h.po.2.1.1 hn)).v,(t36 h.po.2.2.1.2 (Nat.le_trans h.po.2.2.1.1 hn)).v,(b2w h.qu hn).v,(b2x h.bu.1 hn).v,(t50 h.bu.2.2 (Nat.le_trans h.bu.2.1 hn)).v,(t33 h.sl.2 (Nat.le_trans h.sl.1 hn)).v,(t34 h.mo.2 (Nat.le_trans h.mo.1 hn)).v,(t35 h.en.2 (Nat.le_trans h.en.1 hn)).v,(t35 h.ra.2 (by omega)).v,(t36 h.lo.2 (Nat.le_trans h.lo.1 hn)).v]⟩
theorem t7 {t:U1}(h:Tb t):An (λ β=>F7 β t t) λ r=>r=true:=⟨true,rfl,λ β k=>by
 show F7 β t t k=_
 have hl:=h.1
 unfold F7 P7 l0e g1p
 rw [neL,beq_self_eq_true,brt,brf]
 refine (eqW h.2 (by omega) (λ i y h0 h1 hy hg=>?_) (λ n h=>by simp only [h,brf]) _ _).trans (if_pos rfl)
 have e:∀ β k,F23 β y y k=k true:=λ β k=>by
  unfold F23 P23
  simp only [beq_self_eq_true,d2u,brt,(t10 hy (by omega)).v]
 simp only [h1,brt,c0p h0,i13 hg,e,Bool.not_true,brf]⟩
theorem t53 {l:LV}{n:Nat}(h:Ls n w1 (Tk n) l)(hn:n≤1099511627776):An (λ β=>F53 β l) λ r=>r=l:=by
 refine g3e ?_
 unfold F53 P53 F64 P64
 have hl:=h.1
 refine f3l (wh t2i (λ x=>x.1=l.take x.2.2.2.toNat∧x.2.1=l∧x.2.2.1=nL l∧0≤x.2.2.2∧x.2.2.2≤l.length) (λ x=>(l.length - x.2.2.2).toNat) (Ex:=λ r=>r=(0,eS8 l)) ⟨by simp,rfl,rfl,by simp,by simp⟩ λ x ⟨h1,h2,h3,h4,h5⟩=>?_) λ r hr=>?_
 ·rw [h1,h2,h3]
  refine f3u (λ e=>?_) λ e=>f3p (by rw [List.take_of_length_le (by omega)])
  obtain ⟨y,hy,hg⟩:=h.2.get (show x.2.2.2.toNat < l.length by omega)
  simp only [i5 hg]
  refine g3b h4 (g3j (cab (n:=0) (by have:=hy.2.1.1; omega) (by omega)) (g3j (ca1 (by rw [List.length_take]; omega) (by omega)) (g3a ⟨?_,rfl,rfl,?_,?_⟩ ?_)))
  ·simp only [List.nil_append]
   rw [wit h4 (by omega),take1 h4 hg]
  all_goals (simp only; rw [wi1 (by omega)]; omega)
 ·subst hr
  exact g3g (x:=l) rfl (f3v rfl)
theorem t54 {b:U8}{n:Nat}(h:Bi n b)(hn:n≤1099511627776):An (λ β=>F54 β b) λ r=>r=b:=by
 refine g3e ?_
 unfold F54 P54
 have hl:=h.1.1
 refine g3j (cab (n:=0) (by have:=h.2.1; omega) (by omega)) (f3l (wh z2j (λ x=>x.1=b.a∧x.2.1=nL b.a∧x.2.2.2=⟨b.a.take x.2.2.1.toNat,b.b⟩∧0≤x.2.2.1∧x.2.2.1≤b.a.length) (λ x=>(b.a.length - x.2.2.1).toNat) (Ex:=λ r=>r=(0,w1m b)) ⟨rfl,rfl,by simp,by simp,by simp⟩ λ x ⟨h1,h2,h3,h4,h5⟩=>?_) λ r hr=>?_)
 ·rw [h1,h2,h3]
  refine f3u (λ e=>?_) λ e=>f3p (by rw [List.take_of_length_le (by omega)])
  obtain ⟨y,hy,hg⟩:=h.1.2.get (show x.2.2.1.toNat < b.a.length by omega)
  simp only [i6 hg]
  refine g3b h4 (g3j (cab (n:=0) (by have:=hy.2.2.1; omega) (by omega)) (g3j (ca1 (by rw [List.length_take]; omega) (by omega)) (g3a ⟨rfl,rfl,?_,?_,?_⟩ ?_)))
  ·simp only [List.nil_append]
   rw [wit h4 (by omega),take1 h4 hg]
  all_goals (simp only; rw [wi1 (by omega)]; omega)
 ·subst hr
  exact g3g (x:=b) rfl (f3v rfl)
theorem t38 {p:U9}{n:Nat}(h:Pg n p)(hn:n≤1099511627776):An (λ β=>F38 β p) λ r=>r=p:=by
 refine g3e ?_
 unfold F38 P38 F52 P52
 have h1:=h.sl.1
 have h2:=h.mo.1
 have h3:=h.en.1
 have h4:=h.ra.1
 have h5:=h.lo.1
 have h6:=h.po.1.1
 have h7:=h.po.2.1.1
 have h8:=h.po.2.2.1.1
 refine g3j (cab (n:=0) (Nat.le_trans h6 hn) (by omega)) (g3j (cab (n:=0) (Nat.le_trans h7 hn) (by omega)) (g3j (cab (n:=0) (Nat.le_trans h8 hn) (by omega)) (f3l (t53 h.qu hn) λ q hq=>f3l (t54 h.bu hn) λ b hb=>g3j (cab (n:=0) (by omega) (by omega)) (g3j (cab (n:=0) (by omega) (by omega)) (g3j (cab (n:=0) (by omega) (by omega)) (g3j (cab (n:=0) (by omega) (by omega)) (g3j (cab (n:=0) (by omega) (by omega)) (f3v ?_))))))))
 rw [hq,hb]
 simp
theorem t20 {t:U1}(h:Tb t):An (λ β=>F20 β t) λ r=>r=t:=by
 refine g3e ?_
 unfold F20 P20
 have hl:=h.1
 refine f3l (wh z2k (λ x=>x.1=t.a∧x.2.1=nL t.a∧(0≤x.2.2.1∧x.2.2.1≤t.a.length)∧x.2.2.2.2=⟨t.a.take x.2.2.1.toNat,t.b⟩) (λ x=>(t.a.length - x.2.2.1).toNat) (Ex:=λ r=>∃ n,r=(0,f1y (n,t))) ⟨rfl,rfl,by simp,rfl⟩ λ x ⟨h1,h2,h3,h4⟩=>?_) λ r ⟨n,hr⟩=>?_
 ·rw [h1,h2,h4]
  refine f3u (λ e=>?_) λ e=>f3p ⟨_,by rw [List.take_of_length_le (by omega)]⟩
  obtain ⟨y,hy,hg⟩:=h.2.get (show x.2.2.1.toNat < t.a.length by omega)
  simp only [i13 hg]
  refine g3b h3.1 (f3l (t38 hy (by omega)) λ q hq=>?_)
  subst hq
  refine g3j (by simp; omega) (g3a ⟨rfl,rfl,?_,?_⟩ ?_)
  ·simp only; rw [wi1 (by omega)]; omega
  ·simp only; rw [wi1 (by omega),take1 h3.1 hg]
  ·simp only; rw [wi1 (by omega)]; omega
 ·subst hr
  exact g3g (x:=(n,t)) rfl (f3v rfl)
end Go.Am
end
section
set_option linter.unusedVariables false
set_option maxRecDepth 10000
namespace Go.Am
open Go
abbrev pz:U9:=⟨[],[],false,[],[],[],[],[],[],false,[],[],[],[],[],0,0,0,0,[],[],false⟩
def i1o (v:V):V:=.agg (v.cells.take 2++(w9 pz).cells++[.bool false])
def kb (v:V):Bool:=match (v.cells:List V)[24]? with
 | some (V.bool b)=>b
 | _=>false
def vb (v:V):Bool:=match (v.cells:List V)[23]? with
 | some (V.bool b)=>b
 | _=>false
def av (l:LV)(i:Nat):V:=l[i]?.getD (V.bool false)
theorem p0f {l:LV}{i:Nat}{v:V}(h:l[i]? = some v):av l i=v:=by simp [av,h]
def kp (l:LV):Nat:=(l.filter kb).length
theorem z1x (l:LV):kp l≤l.length:=List.length_filter_le _ _
def gu (t:U1)(i:Int):U1:=if 0≤i∧i < t.a.length then {t with a:=t.a.set i.toNat (i1o (av t.a i.toNat))} else t
theorem n1y {l:LV}(h:Rw w8 Vi l){i:Nat}(hi:i < l.length):Rw w8 Vi (l.set i (i1o (av l i))):=λ r hr=>by
 obtain ⟨y,hy,hg⟩:=h.get hi
 rw [p0f hg] at hr
 rcases List.mem_or_eq_of_mem_set hr with hr | rfl
 ·exact h r hr
 ·exact ⟨⟨y.a,y.b,[],[],false,[],[],[],[],[],[],false,[],[],[],[],[],0,0,0,0,[],[],false,false⟩,pg0 _,rfl⟩
theorem j2f (t:U1)(i:Int):(gu t i).b=t.b:=by unfold gu; split <;> rfl
theorem s0s (t:U1)(i:Int):(gu t i).a.length=t.a.length:=by unfold gu; split <;> simp
theorem i1p {t:U1}{i:Int}(h:Tb t):Tb (gu t i):=by
 refine ⟨by rw [s0s]; exact h.1,?_⟩
 unfold gu
 split
 ·rename_i c
  exact n1y h.2 (by omega)
 ·exact h.2
def zv (v:V):V:=.agg (v.cells.take 2++(w9 pz).cells++v.cells.drop 24)
theorem st2 {t:U1}{i:Int}(h:Tb t)(hi:0≤i∧i < t.a.length):An (λ β k=>ci i t.a (c0z t.a i.toNat 24 [.bool false] λ l3=>ci i l3 (c0z l3 i.toNat 2 (w9 pz).cells k))) λ l=>⟨l,t.b⟩=gu t i:=by
 refine g3e (f3x (by omega) (f3l (m0n (λ y=>{y with y:=false}) h.2 (by omega) (λ _ q=>q) λ y=>⟨_,rfl,rfl⟩) λ l3 ⟨h3,k3,m3,g3,s3⟩=>f3x (by omega) (f3l (m0n (λ y=>⟨y.a,y.b,[],[],false,[],[],[],[],[],[],false,[],[],[],[],[],0,0,0,0,[],[],false,y.y⟩) k3 (by omega) (λ _ q=>pg0 _) λ y=>⟨_,rfl,rfl⟩) λ l4 ⟨h4,k4,m4,g4,s4⟩=>f3v ?_)))
 have e:w8 m4=w8 {m3 with y:=false}:=by
  rw [s3,List.getElem?_set_self (by omega)] at g4
  injection g4 with g4
  exact g4.symm
 have e2:l4=l3.set i.toNat (zv (w8 m4)):=s4
 rw [e2,e,s3,List.set_set]
 unfold gu
 rw [if_pos hi,p0f g3]
 rfl
theorem z9q {C:Type _}{T:C→Type}{R:Type}{Y:∀ c,R→Option (T c)}{Q:R→Prop}{t:U1}{i:Int}{X:LV→∀ c,Option (T c)}(h:Tb t)(hi:0≤i∧i < t.a.length)(hX:∀ l,(⟨l,t.b⟩:U1)=gu t i→Tg (X l) Y Q):Tg (λ c=>ci i t.a (c0z t.a i.toNat 24 [.bool false] λ l3=>ci i l3 (c0z l3 i.toNat 2 (w9 pz).cells λ l=>X l c))) Y Q:=f3l (G:=λ β k=>ci i t.a (c0z t.a i.toNat 24 [.bool false] λ l3=>ci i l3 (c0z l3 i.toNat 2 (w9 pz).cells k))) (st2 h hi) hX
theorem z1f {t:U1}{i:Int}(h:¬ (0≤i∧i < t.a.length)):gu t i=t:=if_neg h
theorem t16 {t:U1}{i:Int}(h:Tb t):An (λ β=>F16 β t i) λ r=>r=gu t i:=by
 refine g3e ?_
 unfold F16 P16
 refine f3l (t20 h) λ y hy=>?_
 subst hy
 refine f3y (λ b=>b=decide (0≤i∧i < y.a.length)) (λ b hb=>?_) λ j hj=>f3t (λ e=>hj _ ?_) λ e=>hj _ ?_
 ·subst hb
  exact f3t (λ e=>z9q h e λ l hl=>f3v hl) λ e=>f3v (z1f e).symm
 ·rw [a0t,Bool.eq_iff_iff]; simp; omega
 ·rw [Bool.eq_iff_iff]; simp; omega
theorem inL {i:Int}{t:U1}(h:Tb t){b:Bool}(hb:b=decide (0≤i∧i≤wi (nL t.a - 1))):b=decide (0≤i∧i < t.a.length):=by
 have:=h.1
 rw [hb,a0t,wim (by omega),Bool.eq_iff_iff]
 simp
 omega
theorem t27 {t:U1}{i:Int}(h:Tb t):An (λ β=>F27 β t i) λ r=>r=gu t i:=by
 refine g3e ?_
 unfold F27 P27
 refine f3l (t24 h) λ y hy=>?_
 subst hy
 refine f3l (t25 _ _ _) λ b hb=>?_
 rw [inL h hb]
 exact g3f (λ e=>f3v (z1f (by simp at e; omega)).symm) λ e=>z9q h (by simp at e; omega) λ l hl=>f3v hl
theorem kp1 {l:LV}{i:Int}{y:U16}(h0:0≤i)(h:l[i.toNat]? = some (w8 y)):kp (l.take (i+1).toNat)=kp (l.take i.toNat)+(if y.y=true then 1 else 0):=by
 unfold kp
 rw [take1 h0 h,List.filter_append,List.length_append]
 rw [List.filter_cons,show kb (w8 y)=y.y from rfl,List.filter_nil]
 split <;> simp
theorem t9 {t:U1}(h:Tb t):An (λ β=>F9 β t) λ r=>r=(kp t.a:Int):=by
 refine g3e ?_
 unfold F9 P9
 have hl:=h.1
 refine f3l (wh z2l (λ x=>x.1=(kp (t.a.take x.2.2.2.toNat):Int)∧x.2.1=t.a∧x.2.2.1=nL t.a∧(0≤x.2.2.2∧x.2.2.2≤t.a.length)) (λ x=>(t.a.length - x.2.2.2).toNat) (Ex:=λ r=>r=(0,y0s (kp t.a:Int))) ⟨by simp [kp],rfl,rfl,by simp⟩ λ x ⟨h1,h2,h3,h4⟩=>?_) λ r hr=>?_
 ·rw [h1,h2,h3]
  refine f3u (λ e=>?_) λ e=>f3p (by rw [List.take_of_length_le (by omega)])
  obtain ⟨y,hy,hg⟩:=h.2.get (show x.2.2.2.toNat < t.a.length by omega)
  have hk:=kp1 h4.1 hg
  have hk2:=z1x (t.a.take x.2.2.2.toNat)
  rw [List.length_take] at hk2
  simp only [i13 hg]
  refine g3b h4.1 (g3f (λ e=>g3a ⟨?_,rfl,rfl,?_⟩ ?_) λ e=>g3a ⟨?_,rfl,rfl,?_⟩ ?_)
  any_goals (simp only; rw [wi1 (n:=x.2.2.2) (by omega)]; omega)
  ·simp only
   rw [wi1 (n:=x.2.2.2) (by omega),hk,if_pos e,wi1 (by omega)]
   omega
  ·simp only
   rw [wi1 (n:=x.2.2.2) (by omega),hk,if_neg (by simp [e])]
   omega
 ·subst hr
  exact g3g (x:=(kp t.a:Int)) rfl (f3v rfl)
theorem t28 {t:U1}(h:Tb t):An (λ β=>F28 β t) λ r=>r=(kp t.a:Int):=by
 refine g3e ?_
 unfold F28 P28
 have hl:=h.1
 refine f3l (wh t2j (λ x=>x.1=(kp (t.a.take x.2.1.toNat):Int)∧x.2.2=t∧(0≤x.2.1∧x.2.1≤t.a.length)) (λ x=>(t.a.length - x.2.1).toNat) (Ex:=λ r=>r=(0,y0s (kp t.a:Int))) ⟨by simp [kp],rfl,by simp⟩ λ x ⟨h1,h2,h4⟩=>?_) λ r hr=>?_
 ·rw [h1,h2]
  refine f3u (λ e=>?_) λ e=>f3p (by rw [List.take_of_length_le (by omega)])
  obtain ⟨y,hy,hg⟩:=h.2.get (show x.2.1.toNat < t.a.length by omega)
  have hk:=kp1 h4.1 hg
  have hk2:=z1x (t.a.take x.2.1.toNat)
  rw [List.length_take] at hk2
  simp only [i13 hg]
  refine g3b h4.1 (g3f (λ e=>g3a ⟨?_,rfl,?_⟩ ?_) λ e=>g3a ⟨?_,rfl,?_⟩ ?_)
  any_goals (simp only; rw [wi1 (n:=x.2.1) (by omega)]; omega)
  ·simp only
   rw [wi1 (n:=x.2.1) (by omega),hk,if_pos e,wi1 (by omega)]
   omega
  ·simp only
   rw [wi1 (n:=x.2.1) (by omega),hk,if_neg (by simp [e])]
   omega
 ·subst hr
  exact g3g (x:=(kp t.a:Int)) rfl (f3v rfl)
theorem t21 (t:U1):An (λ β=>F21 β t) λ r=>r=decide (0≤t.b∧t.b < t.a.length):=by
 refine g3e ?_
 unfold F21 P21
 refine f3t (λ e=>f3v ?_) λ e=>f3v ?_ <;> (try rw [a0t]) <;> rw [Bool.eq_iff_iff] <;> simp <;> omega
end Go.Am
end
section
set_option linter.unusedVariables false
set_option maxRecDepth 10000
namespace Go.Am
open Go
theorem a5 {α:Type}{l:LV}{i:Nat}{y:U16}(hg:l[i]? = some (w8 y))(k:Bool→Option α):ia5 l i 24 k=k y.y:=by unfold ia5; exact i0z (ks:=[.bool]) (e:=(y.y,())) hg rfl
theorem a6 {α:Type}{l:LV}{i:Nat}{y:U16}(hg:l[i]? = some (w8 y))(k:U9→Option α):ia6 l i 2 k=k (m2b y):=by unfold ia6; exact i0z (ks:=[.str,.str,.bool,.sl 1 true,.sl 1 true,.sl 1 true,.str,.str,.sl 4 false,.bool,.sl 4 false,.sl 1 true,.sl 8 true,.sl 5 true,.sl 2 true,.int .i64,.int .i64,.int .i64,.int .i64,.sl 2 true,.sl 1 true,.bool]) (e:=(y.c,y.d,y.e,y.f,y.g,y.h,y.i,y.j,y.k,y.l,y.m,y.n,y.o,y.p,y.q,y.r,y.s,y.t,y.u,y.v,y.w,y.x,())) hg rfl
def gl (t:U1)(i:Int):U1:=if 3 < kp t.a∧kb (av t.a i.toNat)=true∧i ≠ t.b then gu t i else t
def lv:Nat→U1→Int→U1
 | 0,t,_=>t
 | n+1,t,i=>lv n (gl t i) (i+1)
def s0 (t:U1):U1:=if (0≤t.b∧t.b < t.a.length)∧vb (av t.a t.b.toNat)=false then gu t t.b else t
def lvt (t:U1):U1:=lv t.a.length (s0 t) 0
theorem t1v:∀ (n:Nat) (t:U1) (i:Int),¬ 3 < kp t.a→lv n t i=t:=by
 intro n
 induction n with
 | zero=>intro t i h; rfl
 | succ n ih=>
  intro t i h
  show lv n (gl t i) (i+1)=t
  rw [show gl t i=t from if_neg λ q=>h q.1]
  exact ih t _ h
theorem lvS {n i:Int}{t:U1}(h0:0≤i)(h:i < n):lv (n - i).toNat t i=lv (n - (i+1)).toNat (gl t i) (i+1):=by
 rw [show (n - i).toNat=(n - (i+1)).toNat+1 by omega]
 rfl
theorem v1b {t:U1}(h:Tb t):Tb (s0 t):=by unfold s0; split; exact i1p h; exact h
theorem d3s (t:U1):(s0 t).b=t.b:=by unfold s0; split; exact j2f _ _; rfl
theorem c1t (t:U1):(s0 t).a.length=t.a.length:=by unfold s0; split; exact s0s _ _; rfl
theorem t17 (p:U9):An (λ β=>F17 β p) λ r=>r=p.v:=⟨_,rfl,λ _ _=>rfl⟩
theorem t26 (p:U9):An (λ β=>F26 β p) λ r=>r=p.v:=⟨_,rfl,λ _ _=>rfl⟩
theorem d2n {t:U1}{i:Int}{y:U16}(h:3 < kp t.a)(hg:t.a[i.toNat]? = some (w8 y)):gl t i=if y.y=true∧i ≠ t.b then gu t i else t:=by
 have e:kb (w8 y)=y.y:=rfl
 unfold gl
 rw [p0f hg,e]
 simp only [h,true_and]
theorem t6 {t:U1}(h:Tb t):An (λ β=>F6 β t) λ r=>r=lvt t:=by
 refine g3e ?_
 unfold F6 P6
 have hl:=h.1
 refine f3l (t20 h) λ y hy=>?_
 subst hy
 by_cases c:(0≤y.b∧y.b < y.a.length)∧vb (av y.a y.b.toNat)=false
 focus
  refine f3y (λ u=>u=s0 y) (λ u hu=>?_) λ j hj=>g3h ?_
  rotate_left
  ·obtain ⟨v,hv,hg⟩:=h.2.get (show y.b.toNat < y.a.length by omega)
   refine f3l (t21 y) λ b hb=>?_
   rw [hb,decide_eq_true c.1]
   simp only [i13 hg]
   have e:v.x=false:=by have:=c.2; rw [p0f hg] at this; exact this
   refine g3f (λ _=>g3b c.1.1 (f3l (t17 _) λ b hb=>?_)) λ q=>by simp at q
   rw [hb,e]
   refine g3f (λ _=>f3l (t16 h) λ q hq=>hj _ ?_) λ q=>by simp at q
   rw [hq]; unfold s0; rw [if_pos c]
  have hu1:=v1b h
  have hu2:=c1t y
  have hR:lv (y.a.length - 0:Int).toNat (s0 y) 0=lvt y:=rfl
  rw [← hu] at hu1 hu2 hR
 rotate_left
 focus
  refine f3y (λ _=>False) (λ _ q=>q.elim) λ j hj=>g3c ?_ λ j2 hj2=>?_
  rotate_left
  ·refine f3l (t21 y) λ b hb=>?_
   rw [hb]
   refine f3t (λ e=>?_) λ _=>hj2
   obtain ⟨v,hv,hg⟩:=h.2.get (show y.b.toNat < y.a.length by omega)
   simp only [i13 hg]
   have e2:v.x=true:=by
    cases q:v.x
    ·exact absurd ⟨e,by rw [p0f hg]; exact q⟩ c
    ·rfl
   refine g3b e.1 (f3l (t17 _) λ b hb=>?_)
   rw [hb,e2]
   exact g3f (λ q=>by simp at q) λ _=>hj2
  have hu1:=h
  have hu2:y.a.length=y.a.length:=rfl
  have hR:lv (y.a.length - 0:Int).toNat y 0=lvt y:=by unfold lvt s0; rw [if_neg c]; rfl
 all_goals
  refine f3l (wh t2j (λ x=>(0≤x.1∧x.1≤y.a.length)∧Tb x.2.2∧x.2.2.a.length=y.a.length∧lv (y.a.length - x.1).toNat x.2.2 x.1=lvt y) (λ x=>(y.a.length - x.1).toNat) (Ex:=λ r=>∃ n,r=(0,f1y (n,lvt y))) ⟨by simp,hu1,hu2,hR⟩ λ x ⟨h1,h2,h3,h4⟩=>?_) λ r ⟨n,hr⟩=>?_
  ·refine g3h (f3u (λ e=>?_) λ e=>f3p ⟨_,by rw [← h4,show (y.a.length - x.1).toNat=0 by omega]; rfl⟩)
   obtain ⟨v,hv,hg⟩:=h2.2.get (show x.1.toNat < x.2.2.a.length by omega)
   rw [lvS h1.1 (by omega)] at h4
   refine f3l (t9 h2) λ n hn=>f3t (λ e2=>?_) λ e2=>f3p ⟨_,by rw [← h4,show gl x.2.2 x.1=x.2.2 from if_neg λ q=>by omega,t1v _ _ _ (by omega)]⟩
   rw [d2n (by omega) hg] at h4
   simp only [a5 hg]
   refine f3x (by omega) (g3f (λ e3=>g3f (λ e4=>f3l (t16 h2) λ q hq=>g3a ⟨?_,?_,?_,?_⟩ ?_) λ e4=>g3a ⟨?_,h2,h3,?_⟩ ?_) λ e3=>g3a ⟨?_,h2,h3,?_⟩ ?_)
   any_goals (simp only; rw [wi1 (by omega)]; omega)
   ·rw [hq]; exact i1p h2
   ·rw [hq]; exact (s0s _ _).trans h3
   ·rw [if_pos ⟨e3,by simpa using e4⟩] at h4
    simp only
    rw [wi1 (by omega),hq,h4]
   ·rw [if_neg (by simp at e4; simp [e4])] at h4
    simp only
    rw [wi1 (by omega),h4]
   ·rw [if_neg (by simp [e3])] at h4
    simp only
    rw [wi1 (by omega),h4]
  ·subst hr
   exact g3g (x:=(n,lvt y)) rfl (f3v rfl)
end Go.Am
end
section
set_option linter.unusedVariables false
set_option maxRecDepth 10000
namespace Go.Am
open Go
theorem t8 {t:U1}(h:Tb t):An (λ β=>F8 β t) λ r=>r=lvt t:=by
 refine g3e ?_
 unfold F8 P8
 have hl:=h.1
 refine f3l (t24 h) λ y hy=>?_
 subst hy
 by_cases c:(0≤y.b∧y.b < y.a.length)∧vb (av y.a y.b.toNat)=false
 focus
  refine f3y (λ u=>u=s0 y) (λ u hu=>?_) λ j hj=>g3h ?_
  rotate_left
  ·obtain ⟨v,hv,hg⟩:=h.2.get (show y.b.toNat < y.a.length by omega)
   refine f3l (t25 _ _ _) λ b hb=>?_
   rw [inL h hb,decide_eq_true c.1]
   simp only [i13 hg]
   have e:v.x=false:=by have:=c.2; rw [p0f hg] at this; exact this
   refine g3f (λ _=>g3b c.1.1 (f3l (t26 _) λ b hb=>?_)) λ q=>by simp at q
   rw [hb,e]
   refine g3f (λ _=>f3l (t27 h) λ q hq=>hj _ ?_) λ q=>by simp at q
   rw [hq]; unfold s0; rw [if_pos c]
  have hu1:=v1b h
  have hu2:=c1t y
  have hu3:=d3s y
  have hR:lv (y.a.length - 0:Int).toNat (s0 y) 0=lvt y:=rfl
  rw [← hu] at hu1 hu2 hR hu3
 rotate_left
 focus
  refine f3y (λ _=>False) (λ _ q=>q.elim) λ j hj=>g3c ?_ λ j2 hj2=>?_
  rotate_left
  ·refine f3l (t25 _ _ _) λ b hb=>?_
   rw [inL h hb]
   refine f3t (λ e=>?_) λ _=>hj2
   obtain ⟨v,hv,hg⟩:=h.2.get (show y.b.toNat < y.a.length by omega)
   simp only [i13 hg]
   have e2:v.x=true:=by
    cases q:v.x
    ·exact absurd ⟨e,by rw [p0f hg]; exact q⟩ c
    ·rfl
   refine g3b e.1 (f3l (t26 _) λ b hb=>?_)
   rw [hb,e2]
   exact g3f (λ q=>by simp at q) λ _=>hj2
  have hu1:=h
  have hu2:y.a.length=y.a.length:=rfl
  have hu3:y.b=y.b:=rfl
  have hR:lv (y.a.length - 0:Int).toNat y 0=lvt y:=by unfold lvt s0; rw [if_neg c]; rfl
 all_goals
  refine f3l (wh t2h (λ x=>(0≤x.1∧x.1≤y.a.length)∧x.2.1=y∧x.2.2.2.b=y.b∧Tb x.2.2.2∧x.2.2.2.a.length=y.a.length∧lv (y.a.length - x.1).toNat x.2.2.2 x.1=lvt y) (λ x=>(y.a.length - x.1).toNat) (Ex:=λ r=>∃ n,r=(0,f1y (n,lvt y))) ⟨by simp,rfl,hu3,hu1,hu2,hR⟩ λ x ⟨h1,g1,g2,h2,h3,h4⟩=>?_) λ r ⟨n,hr⟩=>?_
  ·rw [g1]
   refine f3u (λ e=>?_) λ e=>f3p ⟨_,by rw [← h4,show (y.a.length - x.1).toNat=0 by omega]; rfl⟩
   obtain ⟨v,hv,hg⟩:=h2.2.get (show x.1.toNat < x.2.2.2.a.length by omega)
   rw [lvS h1.1 (by omega)] at h4
   simp only [a5 hg]
   refine f3l (t28 h2) λ n hn=>f3t (λ e2=>f3x (by omega) (g3f (λ e3=>g3f (λ e4=>f3l (t27 h2) λ q hq=>g3a ⟨?_,rfl,?_,?_,?_,?_⟩ ?_) λ e4=>g3a ⟨?_,rfl,g2,h2,h3,?_⟩ ?_) λ e3=>g3a ⟨?_,rfl,g2,h2,h3,?_⟩ ?_)) λ e2=>g3a ⟨?_,rfl,g2,h2,h3,?_⟩ ?_
   any_goals (simp only; rw [wi1 (by omega)]; omega)
   ·rw [hq]; exact (j2f _ _).trans g2
   ·rw [hq]; exact i1p h2
   ·rw [hq]; exact (s0s _ _).trans h3
   ·rw [d2n (by omega) hg,if_pos ⟨e3,by rw [g2]; simpa using e4⟩] at h4
    simp only
    rw [wi1 (by omega),hq,h4]
   ·rw [d2n (by omega) hg,if_neg (by rw [g2]; simp at e4; simp [e4])] at h4
    simp only
    rw [wi1 (by omega),h4]
   ·rw [d2n (by omega) hg,if_neg (by simp [e3])] at h4
    simp only
    rw [wi1 (by omega),h4]
   ·rw [show gl x.2.2.2 x.1=x.2.2.2 from if_neg λ q=>by omega] at h4
    simp only
    rw [wi1 (by omega),h4]
  ·subst hr
   exact g3g (x:=(n,lvt y)) rfl (f3v rfl)
structure Kt (t r:U1):Prop where
  tb:Tb r
  len:r.a.length=t.a.length
  b:r.b=t.b
  ke:Go.Am.kp r.a≤Go.Am.kp t.a
  sm:∀ i,kb (av r.a i)=true→av r.a i=av t.a i
theorem Kt.refl {t:U1}(h:Tb t):Kt t t:=⟨h,rfl,rfl,Nat.le_refl _,λ _ _=>rfl⟩
theorem Kt.trans {t r s:U1}(h:Kt t r)(h2:Kt r s):Kt t s:=⟨h2.tb,h2.len.trans h.len,h2.b.trans h.b,Nat.le_trans h2.ke h.ke,λ i q=>by
 have e:=h2.sm i q
 rw [e] at q ⊢
 exact h.sm i q⟩
theorem z1z {v:V}(hv:kb v=false):∀ (l:LV) (i:Nat),kp (l.set i v)≤kp l:=by
 intro l
 unfold kp
 induction l with
 | nil=>intro i; simp
 | cons x l ih=>
  intro i
  cases i with
  | zero=>rw [List.set_cons_zero,List.filter_cons,List.filter_cons,hv,if_neg (by decide)]; split; exact Nat.le_succ _; exact Nat.le_refl _
  | succ i=>
   have:=ih i
   rw [List.set_cons_succ,List.filter_cons,List.filter_cons]
   split <;> (try simp only [List.length_cons]) <;> omega
theorem h1i (l:LV)(i j:Nat)(v:V):av (l.set i v) j=if i=j∧i < l.length then v else av l j:=by
 unfold av
 rw [List.getElem?_set]
 by_cases h:i=j
 ·subst h
  by_cases h2:i < l.length
  ·simp [h2]
  ·simp [h2]
 ·simp [h]
theorem u0v (v:V):kb (i1o v)=true→False:=by
 unfold i1o kb
 intro h
 generalize hc:(v.cells:List V)=cs at h
 match cs with
 | []=>exact absurd h (by decide)
 | [a]=>exact absurd h (by simp [V.cells,w9])
 | a :: b :: cs=>exact absurd h (by simp [V.cells,w9])
theorem z1e {t:U1}{i:Int}(h:Tb t):Kt t (gu t i):=by
 refine ⟨i1p h,s0s _ _,j2f _ _,?_,λ j q=>?_⟩
 ·unfold gu
  split
  ·exact z1z (by cases e:kb (i1o (av t.a i.toNat)); rfl; exact (u0v _ e).elim) _ _
  ·exact Nat.le_refl _
 ·unfold gu at q ⊢
  split at q
  ·rename_i c
   rw [if_pos c]
   simp only at q ⊢
   rw [h1i] at q ⊢
   split at q
   ·exact (u0v _ q).elim
   ·rename_i c2
    rw [if_neg c2]
  ·rename_i c
   rw [if_neg c]
theorem x0a {t:U1}{i:Int}(h:Tb t):Kt t (gl t i):=by
 unfold gl
 split
 ·exact z1e h
 ·exact Kt.refl h
theorem k2c:∀ (n:Nat) (t:U1) (i:Int),Tb t→Kt t (lv n t i):=by
 intro n
 induction n with
 | zero=>intro t i h; exact Kt.refl h
 | succ n ih=>intro t i h; exact (x0a h).trans (ih _ _ (x0a h).tb)
theorem r1f {t:U1}(h:Tb t):Kt t (lvt t):=by
 have:Kt t (s0 t):=by
  unfold s0
  split
  ·exact z1e h
  ·exact Kt.refl h
 exact this.trans (k2c _ _ _ this.tb)
def Few (t:U1)(i:Int):Prop:=kp t.a≤3 ∨ ∀ j:Nat,(j:Int) < i→(j:Int) ≠ t.b→kb (av t.a j)=false
theorem z1d {t:U1}{i:Int}(h:Tb t)(h0:0≤i)(hi:i < t.a.length)(hf:Few t i):Few (gl t i) (i+1):=by
 by_cases c:3 < kp t.a
 ·have hf:∀ j:Nat,(j:Int) < i→(j:Int) ≠ t.b→kb (av t.a j)=false:=hf.resolve_left (by omega)
  right
  intro j hj hb
  rw [(x0a h).b] at hb
  cases q:kb (av (gl t i).a j)
  ·rfl
  exfalso
  have e:=(x0a h).sm j q
  by_cases cj:(j:Int)=i
  ·have q2:=q
   rw [e] at q2
   have ji:j=i.toNat:=by omega
   unfold gl at q
   rw [if_pos ⟨c,by rw [← ji]; exact q2,by omega⟩] at q
   unfold gu at q
   rw [if_pos ⟨h0,hi⟩] at q
   simp only at q
   rw [h1i,if_pos ⟨ji.symm,by omega⟩] at q
   exact u0v _ q
  ·rw [e,hf j (by omega) hb] at q
   cases q
 ·left
  have:=(x0a (i:=i) h).ke
  omega
theorem a2a:∀ (n:Nat) (t:U1) (i:Int),Tb t→0≤i→i+n=t.a.length→Few t i→Few (lv n t i) t.a.length:=by
 intro n
 induction n with
 | zero=>intro t i h h0 hi hf; rw [← hi]; simpa [lv] using hf
 | succ n ih=>
  intro t i h h0 hi hf
  have:=ih (gl t i) (i+1) (x0a h).tb (by omega) (by rw [(x0a h).len]; omega) (z1d h h0 (by omega) hf)
  rw [(x0a h).len] at this
  exact this
theorem z1y:∀ (l:LV) (b:Int),(∀ j:Nat,j < l.length→(j:Int) ≠ b→kb (av l j)=false)→kp l≤1:=by
 intro l
 unfold kp
 induction l with
 | nil=>intro b _; simp
 | cons x l ih=>
  intro b h
  by_cases c:b=0
  ·have:List.filter kb l=[]:=by
    rw [List.filter_eq_nil_iff]
    intro r hr q
    obtain ⟨j,hj,hg⟩:=List.mem_iff_getElem.1 hr
    have:=h (j+1) (by simp; omega) (by omega)
    rw [show av (x :: l) (j+1)=r by simp [av,hj,hg]] at this
    rw [this] at q
    cases q
   rw [List.filter_cons,this]
   split <;> simp
  ·have hx:kb x=false:=h 0 (by simp) (by omega)
   rw [List.filter_cons,hx]
   exact ih (b - 1) λ j hj hb=>h (j+1) (by simp; omega) (by omega)
theorem t1w {t:U1}(h:Tb t):kp (lvt t).a≤3:=by
 have h1:=v1b h
 have:=a2a t.a.length (s0 t) 0 h1 (by omega) (by rw [c1t]; omega) (.inr λ j hj=>by omega)
 rcases this with this | this
 ·exact this
 ·have e:=(r1f h).len
  have:kp (lvt t).a≤1:=z1y _ (lvt t).b λ j hj hb=>this j (by rw [c1t]; omega) hb
  omega
end Go.Am
end

/-
  Functions of the program, extracted by program (sym.py) out of their code: what each computes, and, by the kernel's reckoning, that the machine's looking form computes just that; so what the machine answers.
-/
import Derived.Test.YtbpoaadkjjfmgaaGreatDoorAmCfg
import Derived.Test.YtbpoaadkjjfmgaaGreatDoorAmEvOk2
import Derived.KernelRfl
import Derived.Test.YtbpoaadkjjfmgaaGreatDoorFwp0
set_option maxRecDepth 10000
set_option linter.unusedVariables false
namespace Go.Am
open Go Go.Proofs
noncomputable section
abbrev T160 : Type 1 := (β : Type) → Int → LU → LV → LU → Int → LU → LV → LU → (Bool → Option β) → Option β
def P160 (F185 : T185) : T160 := fun β a b c d f g h i k =>
 br (a != f) (
 k false) (
 br (!(b == g)) (
 k false) (
 F185 _ c h fun b1 =>
 br (!b1) (
 k false) (
 br (!(d == i)) (
 k false) (
 k true))))
def F160 : T160 := P160 F185
abbrev s160 : List (Bool × List CK) := [(true, q14), (true, q14)]
def G160 (F : T160) (β : Type) (e : argsT s160) (k : V → Option β) : Option β := F β e.1.1 e.1.2.1 e.1.2.2.1 e.1.2.2.2.1 e.2.1.1 e.2.1.2.1 e.2.1.2.2.1 e.2.1.2.2.2.1 (fun y1 => k (.bool y1))
abbrev W160 (F : T160) : WT := wrap s160 (G160 F)
theorem k160 (F185 : T185) : KO [(185, W185 F185)] noX 160 Tryz.f160 s160 (G160 (P160 F185)) := fun _ _ _ => by kernel_rfl
theorem ok160 : FnOk D 160 (W160 F160) := oW Tryz.func160 (tc ok185 tn) (k160 F185 )
abbrev T121 : Type 1 := T158
def P121 (F160 : T160) : T121 := fun β a b k =>
 br ((a.length : Int) != (b.length : Int)) (
 k false) (
 whileK (fun s1 =>
 br (decide ((lI s1 2) < ((lL s1 0).length : Int))) (
 chk (0 ≤ (lI s1 2)) <|
 idx true q14 (lL s1 0) ((lI s1 2).toNat) fun (e2 : r1_) =>
 chk (0 ≤ (lI s1 2)) <|
 idx true q14 (lL s1 1) ((lI s1 2).toNat) fun (e3 : r1_) =>
 F160 _ e2.1 e2.2.1 e2.2.2.1 e2.2.2.2.1 e3.1 e3.2.1 e3.2.2.1 e3.2.2.2.1 fun b4 =>
 br (!b4) (
 some (.inr (0, [.b false]))) (
 some (.inl [.l (lL s1 0), .l (lL s1 1), .i (IntKind.wrap .i64 ((lI s1 2) + 1))]))) (
 some (.inr (1, [])))) [.l a, .l b, .i 0] fun r5 =>
 if r5.1 = 0 then
 k (lB r5.2 0)
 else
 k true)
def F121 : T121 := P121 F160
def X121 : Exits := fun i => lookN i [] [(4, [(.ret, xk 27 [(4, .bool false)] []), (.exit 0, xk 27 [] [])])]
abbrev s121 : List (Bool × List CK) := [(false, [.sl 4 false]), (false, [.sl 4 false])]
def G121 (F : T121) (β : Type) (e : argsT s121) (k : V → Option β) : Option β := F β e.1.1 e.2.1.1 (fun y1 => k (.bool y1))
abbrev W121 (F : T121) : WT := wrap s121 (G121 F)
theorem k121 (F160 : T160) : KO [(160, W160 F160)] X121 121 Tryz.f121 s121 (G121 (P121 F160)) := fun _ _ _ => by kernel_rfl
theorem ok121 : FnOk D 121 (W121 F121) := oW Tryz.func121 (tc ok160 tn) (k121 F160 )
abbrev T186 : Type 1 := (β : Type) → LU → LU → Int → LV → LU → LU → Int → LV → (Bool → Option β) → Option β
def P186 (F185 : T185) : T186 := fun β a b c d f g h i k =>
 br (!(a == f)) (
 k false) (
 br (!(b == g)) (
 k false) (
 br (c != h) (
 k false) (
 F185 _ d i fun b1 =>
 br (!b1) (
 k false) (
 k true))))
def F186 : T186 := P186 F185
abbrev s186 : List (Bool × List CK) := [(true, q7), (true, q7)]
def G186 (F : T186) (β : Type) (e : argsT s186) (k : V → Option β) : Option β := F β e.1.1 e.1.2.1 e.1.2.2.1 e.1.2.2.2.1 e.2.1.1 e.2.1.2.1 e.2.1.2.2.1 e.2.1.2.2.2.1 (fun y1 => k (.bool y1))
abbrev W186 (F : T186) : WT := wrap s186 (G186 F)
theorem k186 (F185 : T185) : KO [(185, W185 F185)] noX 186 Tryz.f186 s186 (G186 (P186 F185)) := fun _ _ _ => by kernel_rfl
theorem ok186 : FnOk D 186 (W186 F186) := oW Tryz.func186 (tc ok185 tn) (k186 F185 )
abbrev T161 : Type 1 := T158
def P161 (F186 : T186) : T161 := fun β a b k =>
 br ((a.length : Int) != (b.length : Int)) (
 k false) (
 whileK (fun s1 =>
 br (decide ((lI s1 2) < ((lL s1 0).length : Int))) (
 chk (0 ≤ (lI s1 2)) <|
 idx true q7 (lL s1 0) ((lI s1 2).toNat) fun (e2 : r6_) =>
 chk (0 ≤ (lI s1 2)) <|
 idx true q7 (lL s1 1) ((lI s1 2).toNat) fun (e3 : r6_) =>
 F186 _ e2.1 e2.2.1 e2.2.2.1 e2.2.2.2.1 e3.1 e3.2.1 e3.2.2.1 e3.2.2.2.1 fun b4 =>
 br (!b4) (
 some (.inr (0, [.b false]))) (
 some (.inl [.l (lL s1 0), .l (lL s1 1), .i (IntKind.wrap .i64 ((lI s1 2) + 1))]))) (
 some (.inr (1, [])))) [.l a, .l b, .i 0] fun r5 =>
 if r5.1 = 0 then
 k (lB r5.2 0)
 else
 k true)
def F161 : T161 := P161 F186
def X161 : Exits := fun i => lookN i [] [(4, [(.ret, xk 27 [(4, .bool false)] []), (.exit 0, xk 27 [] [])])]
abbrev s161 : List (Bool × List CK) := s121
abbrev G161 := G121
abbrev W161 (F : T161) : WT := wrap s161 (G161 F)
theorem k161 (F186 : T186) : KO [(186, W186 F186)] X161 161 Tryz.f161 s161 (G161 (P161 F186)) := fun _ _ _ => by kernel_rfl
theorem ok161 : FnOk D 161 (W161 F161) := oW Tryz.func161 (tc ok186 tn) (k161 F186 )
abbrev T162 : Type 1 := T158
def P162 : T162 := fun β a b k =>
 br ((a.length : Int) != (b.length : Int)) (
 k false) (
 whileK (fun s1 =>
 br (decide ((lI s1 2) < ((lL s1 0).length : Int))) (
 chk (0 ≤ (lI s1 2)) <|
 idx false [.int .i64] (lL s1 0) ((lI s1 2).toNat) fun (e2 : Int × Unit) =>
 chk (0 ≤ (lI s1 2)) <|
 idx false [.int .i64] (lL s1 1) ((lI s1 2).toNat) fun (e3 : Int × Unit) =>
 br (e2.1 != e3.1) (
 some (.inr (0, [.b false]))) (
 some (.inl [.l (lL s1 0), .l (lL s1 1), .i (IntKind.wrap .i64 ((lI s1 2) + 1))]))) (
 some (.inr (1, [])))) [.l a, .l b, .i 0] fun r4 =>
 if r4.1 = 0 then
 k (lB r4.2 0)
 else
 k true)
def F162 : T162 := P162
def X162 : Exits := fun i => lookN i [] [(4, [(.ret, xk 26 [(4, .bool false)] []), (.exit 0, xk 26 [] [])])]
abbrev s162 : List (Bool × List CK) := s126
abbrev G162 := G126
abbrev W162 (F : T162) : WT := wrap s162 (G162 F)
theorem k162 : KO [] X162 162 Tryz.f162 s162 (G162 (P162)) := fun _ _ _ => by kernel_rfl
theorem ok162 : FnOk D 162 (W162 F162) := oW Tryz.func162 (tn) (k162 )
abbrev T122 : Type 1 := (β : Type) → LV → LV → LV → LV → (Bool → Option β) → Option β
def P122 (F161 : T161) (F162 : T162) : T122 := fun β a b c d k =>
 F161 _ a c fun b1 =>
 br (!b1) (
 k false) (
 F162 _ b d fun b2 =>
 br (!b2) (
 k false) (
 k true))
def F122 : T122 := P122 F161 F162
abbrev s122 : List (Bool × List CK) := [(true, q16), (true, q16)]
def G122 (F : T122) (β : Type) (e : argsT s122) (k : V → Option β) : Option β := F β e.1.1 e.1.2.1 e.2.1.1 e.2.1.2.1 (fun y1 => k (.bool y1))
abbrev W122 (F : T122) : WT := wrap s122 (G122 F)
theorem k122 (F161 : T161) (F162 : T162) : KO [(161, W161 F161), (162, W162 F162)] noX 122 Tryz.f122 s122 (G122 (P122 F161 F162)) := fun _ _ _ => by kernel_rfl
theorem ok122 : FnOk D 122 (W122 F122) := oW Tryz.func122 (tc ok161 (tc ok162 tn)) (k122 F161 F162 )
abbrev T163 : Type 1 := (β : Type) → Int → LU → LU → LU → Int → Bool → Int → LU → Int → LU → LU → LU → Int → Bool → Int → LU → (Bool → Option β) → Option β
def P163 (F118 : T118) : T163 := fun β a b c d f g h i j l m n o p q r k =>
 br (a != j) (
 k false) (
 F118 _ b c l m fun b1 =>
 br (!b1) (
 k false) (
 br (!(d == n)) (
 k false) (
 br (f != o) (
 k false) (
 br (!(g == p)) (
 k false) (
 br (h != q) (
 k false) (
 br (!(i == r)) (
 k false) (
 k true)))))))
def F163 : T163 := P163 F118
abbrev s163 : List (Bool × List CK) := [(true, q5), (true, q5)]
def G163 (F : T163) (β : Type) (e : argsT s163) (k : V → Option β) : Option β := let a:=e.1;let b:=a.2;let c:=b.2;let d:=c.2;let f:=d.2;let g:=f.2;let h:=g.2;let i:=h.2;let j:=e.2.1;let l:=j.2;let m:=l.2;let n:=m.2;let o:=n.2;let p:=o.2;let q:=p.2;let r:=q.2;F β a.1 b.1 c.1 d.1 f.1 g.1 h.1 i.1 j.1 l.1 m.1 n.1 o.1 p.1 q.1 r.1 (fun y1 => k (.bool y1))
abbrev W163 (F : T163) : WT := wrap s163 (G163 F)
theorem k163 (F118 : T118) : KO [(118, W118 F118)] noX 163 Tryz.f163 s163 (G163 (P163 F118)) := fun _ _ _ => by kernel_rfl
theorem ok163 : FnOk D 163 (W163 F163) := oW Tryz.func163 (tc ok118 tn) (k163 F118 )
abbrev T123 : Type 1 := T158
def P123 (F163 : T163) : T123 := fun β a b k =>
 br ((a.length : Int) != (b.length : Int)) (
 k false) (
 whileK (fun s1 =>
 br (decide ((lI s1 2) < ((lL s1 0).length : Int))) (
 chk (0 ≤ (lI s1 2)) <|
 idx true q5 (lL s1 0) ((lI s1 2).toNat) fun (e2 : r0_) =>
 chk (0 ≤ (lI s1 2)) <|
 idx true q5 (lL s1 1) ((lI s1 2).toNat) fun (e3 : r0_) =>
 F163 _ e2.1 e2.2.1 e2.2.2.1 e2.2.2.2.1 e2.2.2.2.2.1 e2.2.2.2.2.2.1 e2.2.2.2.2.2.2.1 e2.2.2.2.2.2.2.2.1 e3.1 e3.2.1 e3.2.2.1 e3.2.2.2.1 e3.2.2.2.2.1 e3.2.2.2.2.2.1 e3.2.2.2.2.2.2.1 e3.2.2.2.2.2.2.2.1 fun b4 =>
 br (!b4) (
 some (.inr (0, [.b false]))) (
 some (.inl [.l (lL s1 0), .l (lL s1 1), .i (IntKind.wrap .i64 ((lI s1 2) + 1))]))) (
 some (.inr (1, [])))) [.l a, .l b, .i 0] fun r5 =>
 if r5.1 = 0 then
 k (lB r5.2 0)
 else
 k true)
def F123 : T123 := P123 F163
def X123 : Exits := fun i => lookN i [] [(4, [(.ret, xk 27 [(4, .bool false)] []), (.exit 0, xk 27 [] [])])]
abbrev s123 : List (Bool × List CK) := [(false, [.sl 8 true]), (false, [.sl 8 true])]
def G123 (F : T123) (β : Type) (e : argsT s123) (k : V → Option β) : Option β := F β e.1.1 e.2.1.1 (fun y1 => k (.bool y1))
abbrev W123 (F : T123) : WT := wrap s123 (G123 F)
theorem k123 (F163 : T163) : KO [(163, W163 F163)] X123 123 Tryz.f123 s123 (G123 (P123 F163)) := fun _ _ _ => by kernel_rfl
theorem ok123 : FnOk D 123 (W123 F123) := oW Tryz.func123 (tc ok163 tn) (k123 F163 )
abbrev T164 : Type 1 := (β : Type) → LU → LU → Bool → Int → LU → LU → LU → Bool → Int → LU → (Bool → Option β) → Option β
def P164 (F118 : T118) : T164 := fun β a b c d f g h i j l k =>
 F118 _ a b g h fun b1 =>
 br (!b1) (
 k false) (
 br (!(c == i)) (
 k false) (
 br (d != j) (
 k false) (
 br (!(f == l)) (
 k false) (
 k true))))
def F164 : T164 := P164 F118
abbrev s164 : List (Bool × List CK) := [(true, q10), (true, q10)]
def G164 (F : T164) (β : Type) (e : argsT s164) (k : V → Option β) : Option β := let a:=e.1;let b:=a.2;let c:=b.2;let d:=c.2;let f:=d.2;let g:=e.2.1;let h:=g.2;let i:=h.2;let j:=i.2;let l:=j.2;F β a.1 b.1 c.1 d.1 f.1 g.1 h.1 i.1 j.1 l.1 (fun y1 => k (.bool y1))
abbrev W164 (F : T164) : WT := wrap s164 (G164 F)
theorem k164 (F118 : T118) : KO [(118, W118 F118)] noX 164 Tryz.f164 s164 (G164 (P164 F118)) := fun _ _ _ => by kernel_rfl
theorem ok164 : FnOk D 164 (W164 F164) := oW Tryz.func164 (tc ok118 tn) (k164 F118 )
abbrev T124 : Type 1 := T158
def P124 (F164 : T164) : T124 := fun β a b k =>
 br ((a.length : Int) != (b.length : Int)) (
 k false) (
 whileK (fun s1 =>
 br (decide ((lI s1 2) < ((lL s1 0).length : Int))) (
 chk (0 ≤ (lI s1 2)) <|
 idx true q10 (lL s1 0) ((lI s1 2).toNat) fun (e2 : r4_) =>
 chk (0 ≤ (lI s1 2)) <|
 idx true q10 (lL s1 1) ((lI s1 2).toNat) fun (e3 : r4_) =>
 F164 _ e2.1 e2.2.1 e2.2.2.1 e2.2.2.2.1 e2.2.2.2.2.1 e3.1 e3.2.1 e3.2.2.1 e3.2.2.2.1 e3.2.2.2.2.1 fun b4 =>
 br (!b4) (
 some (.inr (0, [.b false]))) (
 some (.inl [.l (lL s1 0), .l (lL s1 1), .i (IntKind.wrap .i64 ((lI s1 2) + 1))]))) (
 some (.inr (1, [])))) [.l a, .l b, .i 0] fun r5 =>
 if r5.1 = 0 then
 k (lB r5.2 0)
 else
 k true)
def F124 : T124 := P124 F164
def X124 : Exits := fun i => lookN i [] [(4, [(.ret, xk 27 [(4, .bool false)] []), (.exit 0, xk 27 [] [])])]
abbrev s124 : List (Bool × List CK) := [(false, [.sl 5 true]), (false, [.sl 5 true])]
def G124 (F : T124) (β : Type) (e : argsT s124) (k : V → Option β) : Option β := F β e.1.1 e.2.1.1 (fun y1 => k (.bool y1))
abbrev W124 (F : T124) : WT := wrap s124 (G124 F)
theorem k124 (F164 : T164) : KO [(164, W164 F164)] X124 124 Tryz.f124 s124 (G124 (P124 F164)) := fun _ _ _ => by kernel_rfl
theorem ok124 : FnOk D 124 (W124 F124) := oW Tryz.func124 (tc ok164 tn) (k124 F164 )
abbrev T125 : Type 1 := T158
def P125 (F118 : T118) : T125 := fun β a b k =>
 br ((a.length : Int) != (b.length : Int)) (
 k false) (
 whileK (fun s1 =>
 br (decide ((lI s1 2) < ((lL s1 0).length : Int))) (
 chk (0 ≤ (lI s1 2)) <|
 idx true [.str, .str] (lL s1 0) ((lI s1 2).toNat) fun (e2 : r10_) =>
 chk (0 ≤ (lI s1 2)) <|
 idx true [.str, .str] (lL s1 1) ((lI s1 2).toNat) fun (e3 : r10_) =>
 F118 _ e2.1 e2.2.1 e3.1 e3.2.1 fun b4 =>
 br (!b4) (
 some (.inr (0, [.b false]))) (
 some (.inl [.l (lL s1 0), .l (lL s1 1), .i (IntKind.wrap .i64 ((lI s1 2) + 1))]))) (
 some (.inr (1, [])))) [.l a, .l b, .i 0] fun r5 =>
 if r5.1 = 0 then
 k (lB r5.2 0)
 else
 k true)
def F125 : T125 := P125 F118
def X125 : Exits := fun i => lookN i [] [(4, [(.ret, xk 27 [(4, .bool false)] []), (.exit 0, xk 27 [] [])])]
abbrev s125 : List (Bool × List CK) := s185
abbrev G125 := G185
abbrev W125 (F : T125) : WT := wrap s125 (G125 F)
theorem k125 (F118 : T118) : KO [(118, W118 F118)] X125 125 Tryz.f125 s125 (G125 (P125 F118)) := fun _ _ _ => by kernel_rfl
theorem ok125 : FnOk D 125 (W125 F125) := oW Tryz.func125 (tc ok118 tn) (k125 F118 )
abbrev T56 : Type 1 := (β : Type) → LU → LU → Bool → LV → LV → LV → LU → LU → LV → Bool → LV → LV → LV → LV → LV → Int → Int → Int → Int → LV → LV → Bool → LU → LU → Bool → LV → LV → LV → LU → LU → LV → Bool → LV → LV → LV → LV → LV → Int → Int → Int → Int → LV → LV → Bool → (Bool → Option β) → Option β
def P56 (F118 : T118) (F119 : T119) (F120 : T120) (F121 : T121) (F122 : T122) (F123 : T123) (F124 : T124) (F125 : T125) (F126 : T126) : T56 := fun β a b c d f g h i j l m n o p q r s t u v w x y z a1 c1 d1 f1 g1 h1 i1 j1 l1 m1 n1 o1 p1 q1 r1 s1 t1 u1 v1 w1 k =>
 F118 _ a b y z fun b1 =>
 br (!b1) (
 k false) (
 F119 _ c d f g h a1 c1 d1 f1 g1 fun b2 =>
 br (!b2) (
 k false) (
 F120 _ i h1 fun b3 =>
 br (!b3) (
 k false) (
 F121 _ j i1 fun b4 =>
 br (!b4) (
 k false) (
 br (!(l == j1)) (
 k false) (
 F122 _ m n l1 m1 fun b5 =>
 br (!b5) (
 k false) (
 F123 _ o n1 fun b6 =>
 br (!b6) (
 k false) (
 F124 _ p o1 fun b7 =>
 br (!b7) (
 k false) (
 F125 _ q p1 fun b8 =>
 br (!b8) (
 k false) (
 br (r != q1) (
 k false) (
 br (s != r1) (
 k false) (
 br (t != s1) (
 k false) (
 br (u != t1) (
 k false) (
 F125 _ v u1 fun b9 =>
 br (!b9) (
 k false) (
 F126 _ w v1 fun b10 =>
 br (!b10) (
 k false) (
 br (!(x == w1)) (
 k false) (
 k true))))))))))))))))
def F56 : T56 := P56 F118 F119 F120 F121 F122 F123 F124 F125 F126
abbrev s56 : List (Bool × List CK) := [(true, q2), (true, q2)]
def G56 (F : T56) (β : Type) (e : argsT s56) (k : V → Option β) : Option β := let a:=e.1;let b:=a.2;let c:=b.2;let d:=c.2;let f:=d.2;let g:=f.2;let h:=g.2;let i:=h.2;let j:=i.2;let l:=j.2;let m:=l.2;let n:=m.2;let o:=n.2;let p:=o.2;let q:=p.2;let r:=q.2;let s:=r.2;let t:=s.2;let u:=t.2;let v:=u.2;let w:=v.2;let x:=w.2;let y:=e.2.1;let z:=y.2;let a1:=z.2;let b1:=a1.2;let c1:=b1.2;let d1:=c1.2;let f1:=d1.2;let g1:=f1.2;let h1:=g1.2;let i1:=h1.2;let j1:=i1.2;let l1:=j1.2;let m1:=l1.2;let n1:=m1.2;let o1:=n1.2;let p1:=o1.2;let q1:=p1.2;let r1:=q1.2;let s1:=r1.2;let t1:=s1.2;let u1:=t1.2;let v1:=u1.2;F β a.1 b.1 c.1 d.1 f.1 g.1 h.1 i.1 j.1 l.1 m.1 n.1 o.1 p.1 q.1 r.1 s.1 t.1 u.1 v.1 w.1 x.1 y.1 z.1 a1.1 b1.1 c1.1 d1.1 f1.1 g1.1 h1.1 i1.1 j1.1 l1.1 m1.1 n1.1 o1.1 p1.1 q1.1 r1.1 s1.1 t1.1 u1.1 v1.1 (fun y1 => k (.bool y1))
abbrev W56 (F : T56) : WT := wrap s56 (G56 F)
theorem k56 (F118 : T118) (F119 : T119) (F120 : T120) (F121 : T121) (F122 : T122) (F123 : T123) (F124 : T124) (F125 : T125) (F126 : T126) : KO [(118, W118 F118), (119, W119 F119), (120, W120 F120), (121, W121 F121), (122, W122 F122), (123, W123 F123), (124, W124 F124), (125, W125 F125), (126, W126 F126)] noX 56 Tryz.f56 s56 (G56 (P56 F118 F119 F120 F121 F122 F123 F124 F125 F126)) := fun _ _ _ => by kernel_rfl
theorem ok56 : FnOk D 56 (W56 F56) := oW Tryz.func56 (tc ok118 (tc ok119 (tc ok120 (tc ok121 (tc ok122 (tc ok123 (tc ok124 (tc ok125 (tc ok126 tn))))))))) (k56 F118 F119 F120 F121 F122 F123 F124 F125 F126 )
abbrev T117 : Type 1 := (β : Type) → LU → LU → LU → LU → Bool → LV → LV → LV → LU → LU → LV → Bool → LV → LV → LV → LV → LV → Int → Int → Int → Int → LV → LV → Bool → Bool → LU → LU → LU → LU → Bool → LV → LV → LV → LU → LU → LV → Bool → LV → LV → LV → LV → LV → Int → Int → Int → Int → LV → LV → Bool → Bool → (Bool → Option β) → Option β
def P117 (F118 : T118) (F56 : T56) : T117 := fun β a b c d f g h i j l m n o p q r s t u v w x y z a1 c1 d1 f1 g1 h1 i1 j1 l1 m1 n1 o1 p1 q1 r1 s1 t1 u1 v1 w1 x1 y1 z1 a2 c2 d2 k =>
 F118 _ a b c1 d1 fun b1 =>
 br (!b1) (
 k false) (
 F56 _ c d f g h i j l m n o p q r s t u v w x y z f1 g1 h1 i1 j1 l1 m1 n1 o1 p1 q1 r1 s1 t1 u1 v1 w1 x1 y1 z1 a2 c2 fun b2 =>
 br (!b2) (
 k false) (
 br (!(a1 == d2)) (
 k false) (
 k true)))
def F117 : T117 := P117 F118 F56
abbrev s117 : List (Bool × List CK) := [(true, q0), (true, q0)]
def G117 (F : T117) (β : Type) (e : argsT s117) (k : V → Option β) : Option β := let a:=e.1;let b:=a.2;let c:=b.2;let d:=c.2;let f:=d.2;let g:=f.2;let h:=g.2;let i:=h.2;let j:=i.2;let l:=j.2;let m:=l.2;let n:=m.2;let o:=n.2;let p:=o.2;let q:=p.2;let r:=q.2;let s:=r.2;let t:=s.2;let u:=t.2;let v:=u.2;let w:=v.2;let x:=w.2;let y:=x.2;let z:=y.2;let a1:=z.2;let b1:=e.2.1;let c1:=b1.2;let d1:=c1.2;let f1:=d1.2;let g1:=f1.2;let h1:=g1.2;let i1:=h1.2;let j1:=i1.2;let l1:=j1.2;let m1:=l1.2;let n1:=m1.2;let o1:=n1.2;let p1:=o1.2;let q1:=p1.2;let r1:=q1.2;let s1:=r1.2;let t1:=s1.2;let u1:=t1.2;let v1:=u1.2;let w1:=v1.2;let x1:=w1.2;let y1:=x1.2;let z1:=y1.2;let a2:=z1.2;let b2:=a2.2;F β a.1 b.1 c.1 d.1 f.1 g.1 h.1 i.1 j.1 l.1 m.1 n.1 o.1 p.1 q.1 r.1 s.1 t.1 u.1 v.1 w.1 x.1 y.1 z.1 a1.1 b1.1 c1.1 d1.1 f1.1 g1.1 h1.1 i1.1 j1.1 l1.1 m1.1 n1.1 o1.1 p1.1 q1.1 r1.1 s1.1 t1.1 u1.1 v1.1 w1.1 x1.1 y1.1 z1.1 a2.1 b2.1 (fun y1 => k (.bool y1))
abbrev W117 (F : T117) : WT := wrap s117 (G117 F)
theorem k117 (F118 : T118) (F56 : T56) : KO [(118, W118 F118), (56, W56 F56)] noX 117 Tryz.f117 s117 (G117 (P117 F118 F56)) := fun _ _ _ => by kernel_rfl
theorem ok117 : FnOk D 117 (W117 F117) := oW Tryz.func117 (tc ok118 (tc ok56 tn)) (k117 F118 F56 )
abbrev T55 : Type 1 := T158
def P55 (F117 : T117) : T55 := fun β a b k =>
 br ((a.length : Int) != (b.length : Int)) (
 k false) (
 whileK (fun s1 =>
 br (decide ((lI s1 2) < ((lL s1 0).length : Int))) (
 chk (0 ≤ (lI s1 2)) <|
 idx true q0 (lL s1 0) ((lI s1 2).toNat) fun (e2 : r9_) =>
 chk (0 ≤ (lI s1 2)) <|
 idx true q0 (lL s1 1) ((lI s1 2).toNat) fun (e3 : r9_) =>
 F117 _ e2.1 e2.2.1 e2.2.2.1 e2.2.2.2.1 e2.2.2.2.2.1 e2.2.2.2.2.2.1 e2.2.2.2.2.2.2.1 e2.2.2.2.2.2.2.2.1 e2.2.2.2.2.2.2.2.2.1 e2.2.2.2.2.2.2.2.2.2.1 e2.2.2.2.2.2.2.2.2.2.2.1 e2.2.2.2.2.2.2.2.2.2.2.2.1 e2.2.2.2.2.2.2.2.2.2.2.2.2.1 e2.2.2.2.2.2.2.2.2.2.2.2.2.2.1 e2.2.2.2.2.2.2.2.2.2.2.2.2.2.2.1 e2.2.2.2.2.2.2.2.2.2.2.2.2.2.2.2.1 e2.2.2.2.2.2.2.2.2.2.2.2.2.2.2.2.2.1 e2.2.2.2.2.2.2.2.2.2.2.2.2.2.2.2.2.2.1 e2.2.2.2.2.2.2.2.2.2.2.2.2.2.2.2.2.2.2.1 e2.2.2.2.2.2.2.2.2.2.2.2.2.2.2.2.2.2.2.2.1 e2.2.2.2.2.2.2.2.2.2.2.2.2.2.2.2.2.2.2.2.2.1 e2.2.2.2.2.2.2.2.2.2.2.2.2.2.2.2.2.2.2.2.2.2.1 e2.2.2.2.2.2.2.2.2.2.2.2.2.2.2.2.2.2.2.2.2.2.2.1 e2.2.2.2.2.2.2.2.2.2.2.2.2.2.2.2.2.2.2.2.2.2.2.2.1 e2.2.2.2.2.2.2.2.2.2.2.2.2.2.2.2.2.2.2.2.2.2.2.2.2.1 e3.1 e3.2.1 e3.2.2.1 e3.2.2.2.1 e3.2.2.2.2.1 e3.2.2.2.2.2.1 e3.2.2.2.2.2.2.1 e3.2.2.2.2.2.2.2.1 e3.2.2.2.2.2.2.2.2.1 e3.2.2.2.2.2.2.2.2.2.1 e3.2.2.2.2.2.2.2.2.2.2.1 e3.2.2.2.2.2.2.2.2.2.2.2.1 e3.2.2.2.2.2.2.2.2.2.2.2.2.1 e3.2.2.2.2.2.2.2.2.2.2.2.2.2.1 e3.2.2.2.2.2.2.2.2.2.2.2.2.2.2.1 e3.2.2.2.2.2.2.2.2.2.2.2.2.2.2.2.1 e3.2.2.2.2.2.2.2.2.2.2.2.2.2.2.2.2.1 e3.2.2.2.2.2.2.2.2.2.2.2.2.2.2.2.2.2.1 e3.2.2.2.2.2.2.2.2.2.2.2.2.2.2.2.2.2.2.1 e3.2.2.2.2.2.2.2.2.2.2.2.2.2.2.2.2.2.2.2.1 e3.2.2.2.2.2.2.2.2.2.2.2.2.2.2.2.2.2.2.2.2.1 e3.2.2.2.2.2.2.2.2.2.2.2.2.2.2.2.2.2.2.2.2.2.1 e3.2.2.2.2.2.2.2.2.2.2.2.2.2.2.2.2.2.2.2.2.2.2.1 e3.2.2.2.2.2.2.2.2.2.2.2.2.2.2.2.2.2.2.2.2.2.2.2.1 e3.2.2.2.2.2.2.2.2.2.2.2.2.2.2.2.2.2.2.2.2.2.2.2.2.1 fun b4 =>
 br (!b4) (
 some (.inr (0, [.b false]))) (
 some (.inl [.l (lL s1 0), .l (lL s1 1), .i (IntKind.wrap .i64 ((lI s1 2) + 1))]))) (
 some (.inr (1, [])))) [.l a, .l b, .i 0] fun r5 =>
 if r5.1 = 0 then
 k (lB r5.2 0)
 else
 k true)
def F55 : T55 := P55 F117
def X55 : Exits := fun i => lookN i [] [(4, [(.ret, xk 27 [(4, .bool false)] []), (.exit 0, xk 27 [] [])])]
abbrev s55 : List (Bool × List CK) := [(false, [.sl 25 false]), (false, [.sl 25 false])]
def G55 (F : T55) (β : Type) (e : argsT s55) (k : V → Option β) : Option β := F β e.1.1 e.2.1.1 (fun y1 => k (.bool y1))
abbrev W55 (F : T55) : WT := wrap s55 (G55 F)
theorem k55 (F117 : T117) : KO [(117, W117 F117)] X55 55 Tryz.f55 s55 (G55 (P55 F117)) := fun _ _ _ => by kernel_rfl
theorem ok55 : FnOk D 55 (W55 F55) := oW Tryz.func55 (tc ok117 tn) (k55 F117 )
abbrev T23 : Type 1 := (β : Type) → LV → Int → LV → Int → (Bool → Option β) → Option β
def P23 (F55 : T55) : T23 := fun β a b c d k =>
 F55 _ a c fun b1 =>
 br (!b1) (
 k false) (
 br (b != d) (
 k false) (
 k true))
def F23 : T23 := P23 F55
abbrev s23 : List (Bool × List CK) := [(true, q15), (true, q15)]
def G23 (F : T23) (β : Type) (e : argsT s23) (k : V → Option β) : Option β := F β e.1.1 e.1.2.1 e.2.1.1 e.2.1.2.1 (fun y1 => k (.bool y1))
abbrev W23 (F : T23) : WT := wrap s23 (G23 F)
theorem k23 (F55 : T55) : KO [(55, W55 F55)] noX 23 Tryz.f23 s23 (G23 (P23 F55)) := fun _ _ _ => by kernel_rfl
theorem ok23 : FnOk D 23 (W23 F23) := oW Tryz.func23 (tc ok55 tn) (k23 F55 )
abbrev T127 : Type 1 := (β : Type) → LU → LU → Int → Int → LU → Int → Bool → LU → LU → LU → Int → Int → LU → Int → Bool → LU → (Bool → Option β) → Option β
def P127 (F118 : T118) (F165 : T165) : T127 := fun β a b c d f g h i j l m n o p q r k =>
 F118 _ a b j l fun b1 =>
 br (!b1) (
 k false) (
 F165 _ c d f g h i m n o p q r fun b2 =>
 br (!b2) (
 k false) (
 k true))
def F127 : T127 := P127 F118 F165
abbrev s127 : List (Bool × List CK) := [(true, q8), (true, q8)]
def G127 (F : T127) (β : Type) (e : argsT s127) (k : V → Option β) : Option β := let a:=e.1;let b:=a.2;let c:=b.2;let d:=c.2;let f:=d.2;let g:=f.2;let h:=g.2;let i:=h.2;let j:=e.2.1;let l:=j.2;let m:=l.2;let n:=m.2;let o:=n.2;let p:=o.2;let q:=p.2;let r:=q.2;F β a.1 b.1 c.1 d.1 f.1 g.1 h.1 i.1 j.1 l.1 m.1 n.1 o.1 p.1 q.1 r.1 (fun y1 => k (.bool y1))
abbrev W127 (F : T127) : WT := wrap s127 (G127 F)
theorem k127 (F118 : T118) (F165 : T165) : KO [(118, W118 F118), (165, W165 F165)] noX 127 Tryz.f127 s127 (G127 (P127 F118 F165)) := fun _ _ _ => by kernel_rfl
theorem ok127 : FnOk D 127 (W127 F127) := oW Tryz.func127 (tc ok118 (tc ok165 tn)) (k127 F118 F165 )
abbrev T57 : Type 1 := T158
def P57 (F127 : T127) : T57 := fun β a b k =>
 br ((a.length : Int) != (b.length : Int)) (
 k false) (
 whileK (fun s1 =>
 br (decide ((lI s1 2) < ((lL s1 0).length : Int))) (
 chk (0 ≤ (lI s1 2)) <|
 idx true q8 (lL s1 0) ((lI s1 2).toNat) fun (e2 : r5_) =>
 chk (0 ≤ (lI s1 2)) <|
 idx true q8 (lL s1 1) ((lI s1 2).toNat) fun (e3 : r5_) =>
 F127 _ e2.1 e2.2.1 e2.2.2.1 e2.2.2.2.1 e2.2.2.2.2.1 e2.2.2.2.2.2.1 e2.2.2.2.2.2.2.1 e2.2.2.2.2.2.2.2.1 e3.1 e3.2.1 e3.2.2.1 e3.2.2.2.1 e3.2.2.2.2.1 e3.2.2.2.2.2.1 e3.2.2.2.2.2.2.1 e3.2.2.2.2.2.2.2.1 fun b4 =>
 br (!b4) (
 some (.inr (0, [.b false]))) (
 some (.inl [.l (lL s1 0), .l (lL s1 1), .i (IntKind.wrap .i64 ((lI s1 2) + 1))]))) (
 some (.inr (1, [])))) [.l a, .l b, .i 0] fun r5 =>
 if r5.1 = 0 then
 k (lB r5.2 0)
 else
 k true)
def F57 : T57 := P57 F127
def X57 : Exits := fun i => lookN i [] [(4, [(.ret, xk 27 [(4, .bool false)] []), (.exit 0, xk 27 [] [])])]
abbrev s57 : List (Bool × List CK) := s123
abbrev G57 := G123
abbrev W57 (F : T57) : WT := wrap s57 (G57 F)
theorem k57 (F127 : T127) : KO [(127, W127 F127)] X57 57 Tryz.f57 s57 (G57 (P57 F127)) := fun _ _ _ => by kernel_rfl
theorem ok57 : FnOk D 57 (W57 F57) := oW Tryz.func57 (tc ok127 tn) (k57 F127 )
abbrev T24 : Type 1 := (β : Type) → Bool → LU → LU → Bool → LV → LV → LV → LU → LU → LV → Bool → LV → LV → LV → LV → LV → Int → Int → Int → Int → LV → LV → Bool → LV → LV → Int → Bool → LU → LU → Bool → LV → LV → LV → LU → LU → LV → Bool → LV → LV → LV → LV → LV → Int → Int → Int → Int → LV → LV → Bool → LV → LV → Int → (Bool → Option β) → Option β
def P24 (F56 : T56) (F57 : T57) (F52 : T52) : T24 := fun β a b c d f g h i j l m n o p q r s t u v w x y z a1 c1 d1 f1 g1 h1 i1 j1 l1 m1 n1 o1 p1 q1 r1 s1 t1 u1 v1 w1 x1 y1 z1 a2 c2 d2 f2 g2 k =>
 br (!(a == d1)) (
 k false) (
 F56 _ b c d f g h i j l m n o p q r s t u v w x y f1 g1 h1 i1 j1 l1 m1 n1 o1 p1 q1 r1 s1 t1 u1 v1 w1 x1 y1 z1 a2 c2 fun b1 =>
 br (!b1) (
 k false) (
 F57 _ z d2 fun b2 =>
 br (!b2) (
 k false) (
 F52 _ a1 f2 fun b3 =>
 br (!b3) (
 k false) (
 br (c1 != g2) (
 k false) (
 k true)))))
def F24 : T24 := P24 F56 F57 F52
abbrev s24 : List (Bool × List CK) := [(true, q4), (true, q4)]
def G24 (F : T24) (β : Type) (e : argsT s24) (k : V → Option β) : Option β := let a:=e.1;let b:=a.2;let c:=b.2;let d:=c.2;let f:=d.2;let g:=f.2;let h:=g.2;let i:=h.2;let j:=i.2;let l:=j.2;let m:=l.2;let n:=m.2;let o:=n.2;let p:=o.2;let q:=p.2;let r:=q.2;let s:=r.2;let t:=s.2;let u:=t.2;let v:=u.2;let w:=v.2;let x:=w.2;let y:=x.2;let z:=y.2;let a1:=z.2;let b1:=a1.2;let c1:=e.2.1;let d1:=c1.2;let f1:=d1.2;let g1:=f1.2;let h1:=g1.2;let i1:=h1.2;let j1:=i1.2;let l1:=j1.2;let m1:=l1.2;let n1:=m1.2;let o1:=n1.2;let p1:=o1.2;let q1:=p1.2;let r1:=q1.2;let s1:=r1.2;let t1:=s1.2;let u1:=t1.2;let v1:=u1.2;let w1:=v1.2;let x1:=w1.2;let y1:=x1.2;let z1:=y1.2;let a2:=z1.2;let b2:=a2.2;let c2:=b2.2;let d2:=c2.2;F β a.1 b.1 c.1 d.1 f.1 g.1 h.1 i.1 j.1 l.1 m.1 n.1 o.1 p.1 q.1 r.1 s.1 t.1 u.1 v.1 w.1 x.1 y.1 z.1 a1.1 b1.1 c1.1 d1.1 f1.1 g1.1 h1.1 i1.1 j1.1 l1.1 m1.1 n1.1 o1.1 p1.1 q1.1 r1.1 s1.1 t1.1 u1.1 v1.1 w1.1 x1.1 y1.1 z1.1 a2.1 b2.1 c2.1 d2.1 (fun y1 => k (.bool y1))
abbrev W24 (F : T24) : WT := wrap s24 (G24 F)
theorem k24 (F56 : T56) (F57 : T57) (F52 : T52) : KO [(56, W56 F56), (57, W57 F57), (52, W52 F52)] noX 24 Tryz.f24 s24 (G24 (P24 F56 F57 F52)) := fun _ _ _ => by kernel_rfl
theorem ok24 : FnOk D 24 (W24 F24) := oW Tryz.func24 (tc ok56 (tc ok57 (tc ok52 tn))) (k24 F56 F57 F52 )
abbrev T9 : Type 1 := (β : Type) → LV → LV → LV → Int → LV → Int → Bool → LU → LU → Bool → LV → LV → LV → LU → LU → LV → Bool → LV → LV → LV → LV → LV → Int → Int → Int → Int → LV → LV → Bool → LV → LV → Int → Bool → LV → LV → LV → Int → LV → Int → Bool → LU → LU → Bool → LV → LV → LV → LU → LU → LV → Bool → LV → LV → LV → LV → LV → Int → Int → Int → Int → LV → LV → Bool → LV → LV → Int → Bool → (Bool → Option β) → Option β
def P9 (F22 : T22) (F23 : T23) (F24 : T24) : T9 := fun β a b c d f g h i j l m n o p q r s t u v w x y z a1 c1 d1 f1 g1 h1 i1 j1 l1 m1 n1 o1 p1 q1 r1 s1 t1 u1 v1 w1 x1 y1 z1 a2 c2 d2 f2 g2 h2 i2 j2 l2 m2 n2 o2 p2 q2 r2 s2 t2 u2 v2 k =>
 F22 _ a b c d m1 n1 o1 p1 fun b1 =>
 br (!b1) (
 k false) (
 F23 _ f g q1 r1 fun b2 =>
 br (!b2) (
 k false) (
 F24 _ h i j l m n o p q r s t u v w x y z a1 c1 d1 f1 g1 h1 i1 j1 s1 t1 u1 v1 w1 x1 y1 z1 a2 c2 d2 f2 g2 h2 i2 j2 l2 m2 n2 o2 p2 q2 r2 s2 t2 u2 fun b3 =>
 br (!b3) (
 k false) (
 br (!(l1 == v2)) (
 k false) (
 k true))))
def F9 : T9 := P9 F22 F23 F24
abbrev s9 : List (Bool × List CK) := [(true, q1), (true, q1)]
def G9 (F : T9) (β : Type) (e : argsT s9) (k : V → Option β) : Option β := let a:=e.1;let b:=a.2;let c:=b.2;let d:=c.2;let f:=d.2;let g:=f.2;let h:=g.2;let i:=h.2;let j:=i.2;let l:=j.2;let m:=l.2;let n:=m.2;let o:=n.2;let p:=o.2;let q:=p.2;let r:=q.2;let s:=r.2;let t:=s.2;let u:=t.2;let v:=u.2;let w:=v.2;let x:=w.2;let y:=x.2;let z:=y.2;let a1:=z.2;let b1:=a1.2;let c1:=b1.2;let d1:=c1.2;let f1:=d1.2;let g1:=f1.2;let h1:=g1.2;let i1:=h1.2;let j1:=i1.2;let l1:=e.2.1;let m1:=l1.2;let n1:=m1.2;let o1:=n1.2;let p1:=o1.2;let q1:=p1.2;let r1:=q1.2;let s1:=r1.2;let t1:=s1.2;let u1:=t1.2;let v1:=u1.2;let w1:=v1.2;let x1:=w1.2;let y1:=x1.2;let z1:=y1.2;let a2:=z1.2;let b2:=a2.2;let c2:=b2.2;let d2:=c2.2;let f2:=d2.2;let g2:=f2.2;let h2:=g2.2;let i2:=h2.2;let j2:=i2.2;let l2:=j2.2;let m2:=l2.2;let n2:=m2.2;let o2:=n2.2;let p2:=o2.2;let q2:=p2.2;let r2:=q2.2;let s2:=r2.2;let t2:=s2.2;F β a.1 b.1 c.1 d.1 f.1 g.1 h.1 i.1 j.1 l.1 m.1 n.1 o.1 p.1 q.1 r.1 s.1 t.1 u.1 v.1 w.1 x.1 y.1 z.1 a1.1 b1.1 c1.1 d1.1 f1.1 g1.1 h1.1 i1.1 j1.1 l1.1 m1.1 n1.1 o1.1 p1.1 q1.1 r1.1 s1.1 t1.1 u1.1 v1.1 w1.1 x1.1 y1.1 z1.1 a2.1 b2.1 c2.1 d2.1 f2.1 g2.1 h2.1 i2.1 j2.1 l2.1 m2.1 n2.1 o2.1 p2.1 q2.1 r2.1 s2.1 t2.1 (fun y1 => k (.bool y1))
abbrev W9 (F : T9) : WT := wrap s9 (G9 F)
theorem k9 (F22 : T22) (F23 : T23) (F24 : T24) : KO [(22, W22 F22), (23, W23 F23), (24, W24 F24)] noX 9 Tryz.f9 s9 (G9 (P9 F22 F23 F24)) := fun _ _ _ => by kernel_rfl
theorem ok9 : FnOk D 9 (W9 F9) := oW Tryz.func9 (tc ok22 (tc ok23 (tc ok24 tn))) (k9 F22 F23 F24 )
abbrev T3 : Type 1 := T6
def P3 (F5 : T5) (F7 : T7) (F6 : T6) (F8 : T8) (F9 : T9) : T3 := fun β a b c d f g h i j l m n o p q r s t u v w x y z a1 b1 c1 d1 f1 g1 h1 i1 j1 k =>
 F5 _ a b c d f g h i j l m n o p q r s t u v w x y z a1 b1 c1 d1 f1 g1 h1 i1 j1 1048576 fun n1 =>
 br (decide (n1 < 0)) (
 k true) (
 F7 _ a b c d f g h i j l m n o p q r s t u v w x y z a1 b1 c1 d1 f1 g1 h1 i1 j1 fun l2 l3 l4 n5 l6 n7 b8 t9 t10 b11 l12 l13 l14 t15 t16 l17 b18 l19 l20 l21 l22 l23 n24 n25 n26 n27 l28 l29 b30 l31 l32 n33 b34 =>
 F6 _ l2 l3 l4 n5 l6 n7 b8 t9 t10 b11 l12 l13 l14 t15 t16 l17 b18 l19 l20 l21 l22 l23 n24 n25 n26 n27 l28 l29 b30 l31 l32 n33 b34 fun b35 =>
 F7 _ a b c d f g h i j l m n o p q r s t u v w x y z a1 b1 c1 d1 f1 g1 h1 i1 j1 fun l36 l37 l38 n39 l40 n41 b42 t43 t44 b45 l46 l47 l48 t49 t50 l51 b52 l53 l54 l55 l56 l57 n58 n59 n60 n61 l62 l63 b64 l65 l66 n67 b68 =>
 F8 _ l36 l37 l38 n39 l40 n41 b42 t43 t44 b45 l46 l47 l48 t49 t50 l51 b52 l53 l54 l55 l56 l57 n58 n59 n60 n61 l62 l63 b64 l65 l66 n67 b68 fun b69 =>
 br (!(b69 == b35)) (
 k false) (
 F7 _ a b c d f g h i j l m n o p q r s t u v w x y z a1 b1 c1 d1 f1 g1 h1 i1 j1 fun l70 l71 l72 n73 l74 n75 b76 t77 t78 b79 l80 l81 l82 t83 t84 l85 b86 l87 l88 l89 l90 l91 n92 n93 n94 n95 l96 l97 b98 l99 l100 n101 b102 =>
 F9 _ l36 l37 l38 n39 l40 n41 b42 t43 t44 b45 l46 l47 l48 t49 t50 l51 b52 l53 l54 l55 l56 l57 n58 n59 n60 n61 l62 l63 b64 l65 l66 n67 b68 l70 l71 l72 n73 l74 n75 b76 t77 t78 b79 l80 l81 l82 t83 t84 l85 b86 l87 l88 l89 l90 l91 n92 n93 n94 n95 l96 l97 b98 l99 l100 n101 b102 fun b103 =>
 br (!b103) (
 k false) (
 k true)))
abbrev s3 : List (Bool × List CK) := s7
abbrev G3 := G6
abbrev W3 (F : T3) : WT := wrap s3 (G3 F)
theorem k3 (F5 : T5) (F7 : T7) (F6 : T6) (F8 : T8) (F9 : T9) : KO [(5, W5 F5), (7, W7 F7), (6, W6 F6), (8, W8 F8), (9, W9 F9)] noX 3 Tryz.f3 s3 (G3 (P3 F5 F7 F6 F8 F9)) := fun _ _ _ => by kernel_rfl
abbrev T128 : Type 1 := (β : Type) → LV → LU → LU → (Bool → Option β) → Option β
def P128 : T128 := fun β l a c k =>
 whileK (fun s1 =>
 br (decide ((lI s1 1) < ((lL s1 0).length : Int))) (
 chk (0 ≤ (lI s1 1)) <|
 idx true [.str, .str] (lL s1 0) ((lI s1 1).toNat) fun (e2 : r10_) =>
 br ((e2.1 == (lS s1 2)) && ((e2.2.1 == (lS s1 3)) && true)) (
 some (.inr (0, [.b true]))) (
 some (.inl [.l (lL s1 0), .i (IntKind.wrap .i64 ((lI s1 1) + 1)), .s (lS s1 2), .s (lS s1 3)]))) (
 some (.inr (1, [])))) [.l l, .i 0, .s a, .s c] fun r3 =>
 if r3.1 = 0 then
 k (lB r3.2 0)
 else
 k false
def F128 : T128 := P128
def X128 : Exits := fun i => lookN i [] [(2, [(.ret, xk 18 [(4, .bool false)] []), (.exit 0, xk 18 [] [])])]
abbrev s128 : List (Bool × List CK) := [(false, [.sl 2 true]), (true, [.str, .str])]
def G128 (F : T128) (β : Type) (e : argsT s128) (k : V → Option β) : Option β := F β e.1.1 e.2.1.1 e.2.1.2.1 (fun y1 => k (.bool y1))
abbrev W128 (F : T128) : WT := wrap s128 (G128 F)
theorem k128 : KO [] X128 128 Tryz.f128 s128 (G128 (P128)) := fun _ _ _ => by kernel_rfl
theorem ok128 : FnOk D 128 (W128 F128) := oW Tryz.func128 (tn) (k128 )
abbrev T59 : Type 1 := (β : Type) → LU → LU → Bool → LV → LV → LV → LU → LU → LV → Bool → LV → LV → LV → LV → LV → Int → Int → Int → Int → LV → LV → Bool → (Bool → Option β) → Option β
def P59 (F128 : T128) : T59 := fun β a c d f g h j m n o p q r t u v w x y z a1 b1 k =>
 whileK (fun s1 =>
 br (decide ((lI s1 0) < ((lL s1 20).length : Int))) (
 chk (0 ≤ (0 : Int) ∧ (0 : Int) ≤ (lI s1 0) ∧ (lI s1 0) ≤ ((lL s1 20).length : Int)) <|
 chk (0 ≤ (lI s1 0)) <|
 idx true [.str, .str] (lL s1 20) ((lI s1 0).toNat) fun (e2 : r10_) =>
 F128 _ (((lL s1 20).take ((lI s1 0).toNat)).drop 0) e2.1 e2.2.1 fun b3 =>
 br b3 (
 some (.inr (0, [.b false]))) (
 some (.inl [.i (IntKind.wrap .i64 ((lI s1 0) + 1)), .s (lS s1 1), .s (lS s1 2), .b (lB s1 3), .l (lL s1 4), .l (lL s1 5), .l (lL s1 6), .s (lS s1 7), .s (lS s1 8), .l (lL s1 9), .b (lB s1 10), .l (lL s1 11), .l (lL s1 12), .l (lL s1 13), .l (lL s1 14), .l (lL s1 15), .i (lI s1 16), .i (lI s1 17), .i (lI s1 18), .i (lI s1 19), .l (lL s1 20), .l (lL s1 21), .b (lB s1 22)]))) (
 some (.inr (1, [])))) [.i 0, .s a, .s c, .b d, .l f, .l g, .l h, .s j, .s m, .l n, .b o, .l p, .l q, .l r, .l t, .l u, .i v, .i w, .i x, .i y, .l z, .l a1, .b b1] fun r4 =>
 if r4.1 = 0 then
 k (lB r4.2 0)
 else
 k true
def F59 : T59 := P59 F128
def X59 : Exits := fun i => lookN i [] [(2, [(.ret, xk 21 [(2, .bool false)] []), (.exit 0, xk 21 [] [])])]
abbrev s59 : List (Bool × List CK) := s46
def G59 (F : T59) (β : Type) (e : argsT s59) (k : V → Option β) : Option β := let a:=e.1;let b:=a.2;let c:=b.2;let d:=c.2;let f:=d.2;let g:=f.2;let h:=g.2;let i:=h.2;let j:=i.2;let l:=j.2;let m:=l.2;let n:=m.2;let o:=n.2;let p:=o.2;let q:=p.2;let r:=q.2;let s:=r.2;let t:=s.2;let u:=t.2;let v:=u.2;let w:=v.2;let x:=w.2;F β a.1 b.1 c.1 d.1 f.1 g.1 h.1 i.1 j.1 l.1 m.1 n.1 o.1 p.1 q.1 r.1 s.1 t.1 u.1 v.1 w.1 x.1 (fun y1 => k (.bool y1))
abbrev W59 (F : T59) : WT := wrap s59 (G59 F)
theorem k59 (F128 : T128) : KO [(128, W128 F128)] X59 59 Tryz.f59 s59 (G59 (P59 F128)) := fun _ _ _ => by kernel_rfl
theorem ok59 : FnOk D 59 (W59 F59) := oW Tryz.func59 (tc ok128 tn) (k59 F128 )
abbrev T130 : Type 1 := T90
def P130 : T130 := fun β name k =>
 br (name == [105, 109, 103]) (
 k true) (
 k (name == [108, 105, 110, 107]))
def F130 : T130 := P130
abbrev s130 : List (Bool × List CK) := s90
abbrev G130 := G90
abbrev W130 (F : T130) : WT := wrap s130 (G130 F)
theorem k130 : KO [] noX 130 Tryz.f130 s130 (G130 (P130)) := fun _ _ _ => by kernel_rfl
theorem ok130 : FnOk D 130 (W130 F130) := oW Tryz.func130 (tn) (k130 )
abbrev T129 : Type 1 := (β : Type) → LV → LV → Int → (Bool → Option β) → Option β
def P129 (F41 : T41) (F130 : T130) (F90 : T90) : T129 := fun β a b i k =>
 chk (0 ≤ i) <|
 idx true q7 a i.toNat fun (e1 : r6_) =>
 F41 _ e1.2.2.1 0 (IntKind.wrap .i64 (i - 1)) fun b2 =>
 br (!b2) (
 k false) (
 chk (0 ≤ e1.2.2.1) <|
 idx true q7 a e1.2.2.1.toNat fun (e3 : r6_) =>
 br (e3.1 == []) (
 k false) (
 chk (0 ≤ e1.2.2.1) <|
 idx true q7 a e1.2.2.1.toNat fun (e4 : r6_) =>
 F130 _ e4.1 fun b5 =>
 br b5 (
 k false) (
 br (e1.1 == []) (
 br (!(e1.2.1 == [])) (
 k ((e1.2.2.2.1.length : Int) == 0)) (
 k false)) (
 F90 _ e1.1 fun b6 =>
 br b6 (
 k (e1.2.1 == [])) (
 k false)))))
def F129 : T129 := P129 F41 F130 F90
abbrev s129 : List (Bool × List CK) := s82
def G129 (F : T129) (β : Type) (e : argsT s129) (k : V → Option β) : Option β := F β e.1.1 e.1.2.1 e.2.1.1 (fun y1 => k (.bool y1))
abbrev W129 (F : T129) : WT := wrap s129 (G129 F)
theorem k129 (F41 : T41) (F130 : T130) (F90 : T90) : KO [(41, W41 F41), (130, W130 F130), (90, W90 F90)] noX 129 Tryz.f129 s129 (G129 (P129 F41 F130 F90)) := fun _ _ _ => by kernel_rfl
theorem ok129 : FnOk D 129 (W129 F129) := oW Tryz.func129 (tc ok41 (tc ok130 (tc ok90 tn))) (k129 F41 F130 F90 )
abbrev T60 : Type 1 := T158
def P60 (F41 : T41) (F129 : T129) (F130 : T130) : T60 := fun β a c k =>
 F41 _ (a.length : Int) 1 40 fun b1 =>
 br (!b1) (
 k false) (
 F41 _ (c.length : Int) 1 8 fun b2 =>
 br (!b2) (
 k false) (
 idx false [.int .i64] c 0 fun (e3 : Int × Unit) =>
 br (e3.1 != 0) (
 k false) (
 idx true q7 a 0 fun (e4 : r6_) =>
 br (!(e4.1 == [112, 97, 103, 101])) (
 k false) (
 br (e4.2.2.1 != (-1)) (
 k false) (
 br (!(e4.2.1 == [])) (
 k false) (
 br ((e4.2.2.2.1.length : Int) != 0) (
 k false) (
 whileK (fun s5 =>
 br (decide ((lI s5 0) < ((lL s5 1).length : Int))) (
 F129 _ (lL s5 1) (lL s5 2) (lI s5 0) fun b6 =>
 br (!b6) (
 some (.inr (0, [.b false, .l (lL s5 1), .l (lL s5 2)]))) (
 some (.inl [.i (IntKind.wrap .i64 ((lI s5 0) + 1)), .l (lL s5 1), .l (lL s5 2)]))) (
 some (.inr (1, [.l (lL s5 1), .l (lL s5 2)])))) [.i 1, .l a, .l c] fun r7 =>
 if r7.1 = 0 then
 k (lB r7.2 0)
 else
 whileK (fun s8 =>
 br (decide ((lI s8 0) < ((lL s8 2).length : Int))) (
 chk (0 ≤ (lI s8 0)) <|
 idx false [.int .i64] (lL s8 2) ((lI s8 0).toNat) fun (e9 : Int × Unit) =>
 F41 _ e9.1 1 (IntKind.wrap .i64 (((lL s8 1).length : Int) - 1)) fun b10 =>
 br (!b10) (
 some (.inr (0, [.b false]))) (
 chk (0 ≤ e9.1) <|
 idx true q7 (lL s8 1) e9.1.toNat fun (e11 : r6_) =>
 br (e11.1 == []) (
 some (.inr (0, [.b false]))) (
 chk (0 ≤ e9.1) <|
 idx true q7 (lL s8 1) e9.1.toNat fun (e12 : r6_) =>
 F130 _ e12.1 fun b13 =>
 br b13 (
 some (.inr (0, [.b false]))) (
 chk (0 ≤ e9.1) <|
 idx true q7 (lL s8 1) e9.1.toNat fun (e14 : r6_) =>
 chk (0 ≤ IntKind.wrap .i64 ((lI s8 0) - 1)) <|
 idx false [.int .i64] (lL s8 2) ((IntKind.wrap .i64 ((lI s8 0) - 1)).toNat) fun (e15 : Int × Unit) =>
 br (e14.2.2.1 != e15.1) (
 some (.inr (0, [.b false]))) (
 some (.inl [.i (IntKind.wrap .i64 ((lI s8 0) + 1)), .l (lL s8 1), .l (lL s8 2)])))))) (
 some (.inr (1, [])))) [.i 1, .l (lL r7.2 0), .l (lL r7.2 1)] fun r16 =>
 if r16.1 = 0 then
 k (lB r16.2 0)
 else
 k true)))))))
def F60 : T60 := P60 F41 F129 F130
def X60 : Exits := fun i => lookN i [] [(7, [(.ret, xk 112 [(1, .ptr 1 0), (2, .bool false)] [(1, .agg [.sl 4 false [], .sl 1 true []])]), (.exit 0, xk 112 [(1, .ptr 1 0)] [(1, .agg [.sl 4 false [], .sl 1 true []])])]), (12, [(.ret, xk 112 [(2, .bool false)] []), (.exit 2, xk 112 [] [])])]
abbrev s60 : List (Bool × List CK) := s102
def G60 (F : T60) (β : Type) (e : argsT s60) (k : V → Option β) : Option β := F β e.1.1 e.1.2.1 (fun y1 => k (.bool y1))
abbrev W60 (F : T60) : WT := wrap s60 (G60 F)
theorem k60 (F41 : T41) (F129 : T129) (F130 : T130) : KO [(41, W41 F41), (129, W129 F129), (130, W130 F130)] X60 60 Tryz.f60 s60 (G60 (P60 F41 F129 F130)) := fun _ _ _ => by kernel_rfl
theorem ok60 : FnOk D 60 (W60 F60) := oW Tryz.func60 (tc ok41 (tc ok129 (tc ok130 tn))) (k60 F41 F129 F130 )
abbrev T61 : Type 1 := T59
def P61 : T61 := fun β f g h i j l m n a b o p q r s c d t u v w x k =>
 br b (
 br ((a.length : Int) == 0) (
 br (c == 0) (
 k (d == 0)) (
 k false)) (
 k false)) (
 k false)
def F61 : T61 := P61
abbrev s61 : List (Bool × List CK) := s46
abbrev G61 := G59
abbrev W61 (F : T61) : WT := wrap s61 (G61 F)
theorem k61 : KO [] noX 61 Tryz.f61 s61 (G61 (P61)) := fun _ _ _ => by kernel_rfl
theorem ok61 : FnOk D 61 (W61 F61) := oW Tryz.func61 (tn) (k61 )
abbrev T62 : Type 1 := (β : Type) → LU → LU → Bool → LV → LV → LV → LU → LU → LV → Bool → LV → LV → LV → LV → LV → Int → Int → Int → Int → LV → LV → Bool → (LV → Option β) → Option β
def P62 : T62 := fun β a c d f g h j m n o p q r t u v w x y z a1 b1 k =>
 whileK (fun s1 =>
 br (decide ((lI s1 1) < ((lL s1 14).length : Int))) (
 chk (0 ≤ (lI s1 1)) <|
 idx true q5 (lL s1 14) ((lI s1 1).toNat) fun (e2 : r0_) =>
 br (!e2.2.2.2.2.2.1) (
 chk (((lL s1 0).length + ([.int .i64 (lI s1 1)] : LV).length) * 8 ≤ 140737488355328 ∧ (lL s1 0).length + ([.int .i64 (lI s1 1)] : LV).length ≤ 140737488355328) <|
 some (.inl [.l ((lL s1 0) ++ ([.int .i64 (lI s1 1)] : LV)), .i (IntKind.wrap .i64 ((lI s1 1) + 1)), .s (lS s1 2), .s (lS s1 3), .b (lB s1 4), .l (lL s1 5), .l (lL s1 6), .l (lL s1 7), .s (lS s1 8), .s (lS s1 9), .l (lL s1 10), .b (lB s1 11), .l (lL s1 12), .l (lL s1 13), .l (lL s1 14), .l (lL s1 15), .l (lL s1 16), .i (lI s1 17), .i (lI s1 18), .i (lI s1 19), .i (lI s1 20), .l (lL s1 21), .l (lL s1 22), .b (lB s1 23)])) (
 some (.inl [.l (lL s1 0), .i (IntKind.wrap .i64 ((lI s1 1) + 1)), .s (lS s1 2), .s (lS s1 3), .b (lB s1 4), .l (lL s1 5), .l (lL s1 6), .l (lL s1 7), .s (lS s1 8), .s (lS s1 9), .l (lL s1 10), .b (lB s1 11), .l (lL s1 12), .l (lL s1 13), .l (lL s1 14), .l (lL s1 15), .l (lL s1 16), .i (lI s1 17), .i (lI s1 18), .i (lI s1 19), .i (lI s1 20), .l (lL s1 21), .l (lL s1 22), .b (lB s1 23)]))) (
 some (.inr (0, [.l (lL s1 0)])))) [.l [], .i 0, .s a, .s c, .b d, .l f, .l g, .l h, .s j, .s m, .l n, .b o, .l p, .l q, .l r, .l t, .l u, .i v, .i w, .i x, .i y, .l z, .l a1, .b b1] fun r3 =>
 k (lL r3.2 0)
def F62 : T62 := P62
def X62 : Exits := fun i => lookN i [] [(3, [(.exit 0, xk 25 [(3, .own 1000000 1 .flat [])] [])])]
abbrev s62 : List (Bool × List CK) := s46
def G62 (F : T62) (β : Type) (e : argsT s62) (k : V → Option β) : Option β := let a:=e.1;let b:=a.2;let c:=b.2;let d:=c.2;let f:=d.2;let g:=f.2;let h:=g.2;let i:=h.2;let j:=i.2;let l:=j.2;let m:=l.2;let n:=m.2;let o:=n.2;let p:=o.2;let q:=p.2;let r:=q.2;let s:=r.2;let t:=s.2;let u:=t.2;let v:=u.2;let w:=v.2;let x:=w.2;F β a.1 b.1 c.1 d.1 f.1 g.1 h.1 i.1 j.1 l.1 m.1 n.1 o.1 p.1 q.1 r.1 s.1 t.1 u.1 v.1 w.1 x.1 (fun y1 => k (.own 0 1 .flat y1))
abbrev W62 (F : T62) : WT := wrap s62 (G62 F)
theorem k62 : KO [] X62 62 Tryz.f62 s62 (G62 (P62)) := fun _ _ _ => by kernel_rfl
theorem ok62 : FnOk D 62 (W62 F62) := oW Tryz.func62 (tn) (k62 )
abbrev T63 : Type 1 := T62
def P63 : T63 := fun β a c d f g h j m n o p q r t u v w x y z a1 b1 k =>
 whileK (fun s1 =>
 br (decide ((lI s1 1) < ((lL s1 15).length : Int))) (
 chk (0 ≤ (lI s1 1)) <|
 idx true q10 (lL s1 15) ((lI s1 1).toNat) fun (e2 : r4_) =>
 br (!e2.2.2.1) (
 chk (((lL s1 0).length + ([.int .i64 (lI s1 1)] : LV).length) * 8 ≤ 140737488355328 ∧ (lL s1 0).length + ([.int .i64 (lI s1 1)] : LV).length ≤ 140737488355328) <|
 some (.inl [.l ((lL s1 0) ++ ([.int .i64 (lI s1 1)] : LV)), .i (IntKind.wrap .i64 ((lI s1 1) + 1)), .s (lS s1 2), .s (lS s1 3), .b (lB s1 4), .l (lL s1 5), .l (lL s1 6), .l (lL s1 7), .s (lS s1 8), .s (lS s1 9), .l (lL s1 10), .b (lB s1 11), .l (lL s1 12), .l (lL s1 13), .l (lL s1 14), .l (lL s1 15), .l (lL s1 16), .i (lI s1 17), .i (lI s1 18), .i (lI s1 19), .i (lI s1 20), .l (lL s1 21), .l (lL s1 22), .b (lB s1 23)])) (
 some (.inl [.l (lL s1 0), .i (IntKind.wrap .i64 ((lI s1 1) + 1)), .s (lS s1 2), .s (lS s1 3), .b (lB s1 4), .l (lL s1 5), .l (lL s1 6), .l (lL s1 7), .s (lS s1 8), .s (lS s1 9), .l (lL s1 10), .b (lB s1 11), .l (lL s1 12), .l (lL s1 13), .l (lL s1 14), .l (lL s1 15), .l (lL s1 16), .i (lI s1 17), .i (lI s1 18), .i (lI s1 19), .i (lI s1 20), .l (lL s1 21), .l (lL s1 22), .b (lB s1 23)]))) (
 some (.inr (0, [.l (lL s1 0)])))) [.l [], .i 0, .s a, .s c, .b d, .l f, .l g, .l h, .s j, .s m, .l n, .b o, .l p, .l q, .l r, .l t, .l u, .i v, .i w, .i x, .i y, .l z, .l a1, .b b1] fun r3 =>
 k (lL r3.2 0)
def F63 : T63 := P63
def X63 : Exits := fun i => lookN i [] [(3, [(.exit 0, xk 25 [(3, .own 1000000 1 .flat [])] [])])]
abbrev s63 : List (Bool × List CK) := s46
abbrev G63 := G62
abbrev W63 (F : T63) : WT := wrap s63 (G63 F)
theorem k63 : KO [] X63 63 Tryz.f63 s63 (G63 (P63)) := fun _ _ _ => by kernel_rfl
theorem ok63 : FnOk D 63 (W63 F63) := oW Tryz.func63 (tn) (k63 )
abbrev T64 : Type 1 := (β : Type) → LV → LU → (Bool → Option β) → Option β
def P64 : T64 := fun β l s k =>
 whileK (fun s1 =>
 br (decide ((lI s1 2) < ((lL s1 0).length : Int))) (
 chk (0 ≤ (lI s1 2)) <|
 idx false [.str] (lL s1 0) ((lI s1 2).toNat) fun (e2 : r12_) =>
 br (e2.1 == (lS s1 1)) (
 some (.inr (0, [.b true]))) (
 some (.inl [.l (lL s1 0), .s (lS s1 1), .i (IntKind.wrap .i64 ((lI s1 2) + 1))]))) (
 some (.inr (1, [])))) [.l l, .s s, .i 0] fun r3 =>
 if r3.1 = 0 then
 k (lB r3.2 0)
 else
 k false
def F64 : T64 := P64
def X64 : Exits := fun i => lookN i [] [(2, [(.ret, xk 18 [(4, .bool false)] []), (.exit 0, xk 18 [] [])])]
abbrev s64 : List (Bool × List CK) := s197
def G64 (F : T64) (β : Type) (e : argsT s64) (k : V → Option β) : Option β := F β e.1.1 e.2.1.1 (fun y1 => k (.bool y1))
abbrev W64 (F : T64) : WT := wrap s64 (G64 F)
theorem k64 : KO [] X64 64 Tryz.f64 s64 (G64 (P64)) := fun _ _ _ => by kernel_rfl
theorem ok64 : FnOk D 64 (W64 F64) := oW Tryz.func64 (tn) (k64 )
abbrev T28 : Type 1 := T59
def P28 (F59 : T59) (F60 : T60) (F61 : T61) (F62 : T62) (F63 : T63) (F64 : T64) : T28 := fun β a c d f g h j m n o p q r t u v w x y z a1 b1 k =>
 whileK (fun s1 =>
 br (decide ((lI s1 0) < ((lL s1 13).length : Int))) (
 chk (0 ≤ (lI s1 0)) <|
 idx true q5 (lL s1 13) ((lI s1 0).toNat) fun (e2 : r0_) =>
 br (e2.2.2.2.2.2.2.1 != 1) (
 chk (0 ≤ (lI s1 0)) <|
 idx true q5 (lL s1 13) ((lI s1 0).toNat) fun (e3 : r0_) =>
 br (!(e3.2.2.2.2.2.2.2.1 == [])) (
 some (.inr (0, [.b false, .s (lS s1 1), .s (lS s1 2), .b (lB s1 3), .l (lL s1 4), .l (lL s1 5), .l (lL s1 6), .s (lS s1 7), .s (lS s1 8), .l (lL s1 9), .b (lB s1 10), .l (lL s1 11), .l (lL s1 12), .l (lL s1 13), .l (lL s1 14), .l (lL s1 15), .i (lI s1 16), .i (lI s1 17), .i (lI s1 18), .i (lI s1 19), .l (lL s1 20), .l (lL s1 21), .b (lB s1 22)]))) (
 some (.inl [.i (IntKind.wrap .i64 ((lI s1 0) + 1)), .s (lS s1 1), .s (lS s1 2), .b (lB s1 3), .l (lL s1 4), .l (lL s1 5), .l (lL s1 6), .s (lS s1 7), .s (lS s1 8), .l (lL s1 9), .b (lB s1 10), .l (lL s1 11), .l (lL s1 12), .l (lL s1 13), .l (lL s1 14), .l (lL s1 15), .i (lI s1 16), .i (lI s1 17), .i (lI s1 18), .i (lI s1 19), .l (lL s1 20), .l (lL s1 21), .b (lB s1 22)]))) (
 some (.inl [.i (IntKind.wrap .i64 ((lI s1 0) + 1)), .s (lS s1 1), .s (lS s1 2), .b (lB s1 3), .l (lL s1 4), .l (lL s1 5), .l (lL s1 6), .s (lS s1 7), .s (lS s1 8), .l (lL s1 9), .b (lB s1 10), .l (lL s1 11), .l (lL s1 12), .l (lL s1 13), .l (lL s1 14), .l (lL s1 15), .i (lI s1 16), .i (lI s1 17), .i (lI s1 18), .i (lI s1 19), .l (lL s1 20), .l (lL s1 21), .b (lB s1 22)]))) (
 some (.inr (1, [.s (lS s1 1), .s (lS s1 2), .b (lB s1 3), .l (lL s1 4), .l (lL s1 5), .l (lL s1 6), .s (lS s1 7), .s (lS s1 8), .l (lL s1 9), .b (lB s1 10), .l (lL s1 11), .l (lL s1 12), .l (lL s1 13), .l (lL s1 14), .l (lL s1 15), .i (lI s1 16), .i (lI s1 17), .i (lI s1 18), .i (lI s1 19), .l (lL s1 20), .l (lL s1 21), .b (lB s1 22)])))) [.i 0, .s a, .s c, .b d, .l f, .l g, .l h, .s j, .s m, .l n, .b o, .l p, .l q, .l r, .l t, .l u, .i v, .i w, .i x, .i y, .l z, .l a1, .b b1] fun r4 =>
 if r4.1 = 0 then
 k (lB r4.2 0)
 else
 whileK (fun s5 =>
 br (decide ((lI s5 0) < ((lL s5 14).length : Int))) (
 chk (0 ≤ (lI s5 0)) <|
 idx true q10 (lL s5 14) ((lI s5 0).toNat) fun (e6 : r4_) =>
 br (e6.2.2.2.1 != 1) (
 chk (0 ≤ (lI s5 0)) <|
 idx true q10 (lL s5 14) ((lI s5 0).toNat) fun (e7 : r4_) =>
 br (!(e7.2.2.2.2.1 == [])) (
 some (.inr (0, [.b false, .s (lS s5 1), .s (lS s5 2), .b (lB s5 3), .l (lL s5 4), .l (lL s5 5), .l (lL s5 6), .s (lS s5 7), .s (lS s5 8), .l (lL s5 9), .b (lB s5 10), .l (lL s5 11), .l (lL s5 12), .l (lL s5 13), .l (lL s5 14), .l (lL s5 15), .i (lI s5 16), .i (lI s5 17), .i (lI s5 18), .i (lI s5 19), .l (lL s5 20), .l (lL s5 21), .b (lB s5 22)]))) (
 some (.inl [.i (IntKind.wrap .i64 ((lI s5 0) + 1)), .s (lS s5 1), .s (lS s5 2), .b (lB s5 3), .l (lL s5 4), .l (lL s5 5), .l (lL s5 6), .s (lS s5 7), .s (lS s5 8), .l (lL s5 9), .b (lB s5 10), .l (lL s5 11), .l (lL s5 12), .l (lL s5 13), .l (lL s5 14), .l (lL s5 15), .i (lI s5 16), .i (lI s5 17), .i (lI s5 18), .i (lI s5 19), .l (lL s5 20), .l (lL s5 21), .b (lB s5 22)]))) (
 some (.inl [.i (IntKind.wrap .i64 ((lI s5 0) + 1)), .s (lS s5 1), .s (lS s5 2), .b (lB s5 3), .l (lL s5 4), .l (lL s5 5), .l (lL s5 6), .s (lS s5 7), .s (lS s5 8), .l (lL s5 9), .b (lB s5 10), .l (lL s5 11), .l (lL s5 12), .l (lL s5 13), .l (lL s5 14), .l (lL s5 15), .i (lI s5 16), .i (lI s5 17), .i (lI s5 18), .i (lI s5 19), .l (lL s5 20), .l (lL s5 21), .b (lB s5 22)]))) (
 some (.inr (1, [.s (lS s5 1), .s (lS s5 2), .b (lB s5 3), .l (lL s5 4), .l (lL s5 5), .l (lL s5 6), .s (lS s5 7), .s (lS s5 8), .l (lL s5 9), .b (lB s5 10), .l (lL s5 11), .l (lL s5 12), .l (lL s5 13), .l (lL s5 14), .l (lL s5 15), .i (lI s5 16), .i (lI s5 17), .i (lI s5 18), .i (lI s5 19), .l (lL s5 20), .l (lL s5 21), .b (lB s5 22)])))) [.i 0, .s (lS r4.2 0), .s (lS r4.2 1), .b (lB r4.2 2), .l (lL r4.2 3), .l (lL r4.2 4), .l (lL r4.2 5), .s (lS r4.2 6), .s (lS r4.2 7), .l (lL r4.2 8), .b (lB r4.2 9), .l (lL r4.2 10), .l (lL r4.2 11), .l (lL r4.2 12), .l (lL r4.2 13), .l (lL r4.2 14), .i (lI r4.2 15), .i (lI r4.2 16), .i (lI r4.2 17), .i (lI r4.2 18), .l (lL r4.2 19), .l (lL r4.2 20), .b (lB r4.2 21)] fun r8 =>
 if r8.1 = 0 then
 k (lB r8.2 0)
 else
 F59 _ (lS r8.2 0) (lS r8.2 1) (lB r8.2 2) (lL r8.2 3) (lL r8.2 4) (lL r8.2 5) (lS r8.2 6) (lS r8.2 7) (lL r8.2 8) (lB r8.2 9) (lL r8.2 10) (lL r8.2 11) (lL r8.2 12) (lL r8.2 13) (lL r8.2 14) (lI r8.2 15) (lI r8.2 16) (lI r8.2 17) (lI r8.2 18) (lL r8.2 19) (lL r8.2 20) (lB r8.2 21) fun b9 =>
 br (!b9) (
 k false) (
 F60 _ (lL r8.2 10) (lL r8.2 11) fun b10 =>
 br (!b10) (
 k false) (
 br (!(lB r8.2 21)) (
 k true) (
 F61 _ (lS r8.2 0) (lS r8.2 1) (lB r8.2 2) (lL r8.2 3) (lL r8.2 4) (lL r8.2 5) (lS r8.2 6) (lS r8.2 7) (lL r8.2 8) (lB r8.2 9) (lL r8.2 10) (lL r8.2 11) (lL r8.2 12) (lL r8.2 13) (lL r8.2 14) (lI r8.2 15) (lI r8.2 16) (lI r8.2 17) (lI r8.2 18) (lL r8.2 19) (lL r8.2 20) (lB r8.2 21) fun b11 =>
 br b11 (
 F62 _ (lS r8.2 0) (lS r8.2 1) (lB r8.2 2) (lL r8.2 3) (lL r8.2 4) (lL r8.2 5) (lS r8.2 6) (lS r8.2 7) (lL r8.2 8) (lB r8.2 9) (lL r8.2 10) (lL r8.2 11) (lL r8.2 12) (lL r8.2 13) (lL r8.2 14) (lI r8.2 15) (lI r8.2 16) (lI r8.2 17) (lI r8.2 18) (lL r8.2 19) (lL r8.2 20) (lB r8.2 21) fun l12 =>
 br ((l12.length : Int) == 0) (
 F63 _ (lS r8.2 0) (lS r8.2 1) (lB r8.2 2) (lL r8.2 3) (lL r8.2 4) (lL r8.2 5) (lS r8.2 6) (lS r8.2 7) (lL r8.2 8) (lB r8.2 9) (lL r8.2 10) (lL r8.2 11) (lL r8.2 12) (lL r8.2 13) (lL r8.2 14) (lI r8.2 15) (lI r8.2 16) (lI r8.2 17) (lI r8.2 18) (lL r8.2 19) (lL r8.2 20) (lB r8.2 21) fun l13 =>
 br ((l13.length : Int) == 0) (
 F64 _ (lL r8.2 20) [108, 111, 97, 100] fun b14 =>
 br b14 (
 k true) (
 k (((lL r8.2 20).length : Int) == 40))) (
 k false)) (
 k false)) (
 k false))))
def F28 : T28 := P28 F59 F60 F61 F62 F63 F64
def X28 : Exits := fun i => lookN i [] [(2, [(.ret, xk 90 [(1, .ptr 1 0), (2, .bool false)] [(1, .agg [.str [], .str [], .bool false, .sl 1 true [], .sl 1 true [], .sl 1 true [], .str [], .str [], .sl 4 false [], .bool false, .sl 4 false [], .sl 1 true [], .sl 8 true [], .sl 5 true [], .sl 2 true [], .int .i64 0, .int .i64 0, .int .i64 0, .int .i64 0, .sl 2 true [], .sl 1 true [], .bool false])]), (.exit 0, xk 90 [(1, .ptr 1 0)] [(1, .agg [.str [], .str [], .bool false, .sl 1 true [], .sl 1 true [], .sl 1 true [], .str [], .str [], .sl 4 false [], .bool false, .sl 4 false [], .sl 1 true [], .sl 8 true [], .sl 5 true [], .sl 2 true [], .int .i64 0, .int .i64 0, .int .i64 0, .int .i64 0, .sl 2 true [], .sl 1 true [], .bool false])])]), (7, [(.ret, xk 90 [(1, .ptr 1 0), (2, .bool false)] [(1, .agg [.str [], .str [], .bool false, .sl 1 true [], .sl 1 true [], .sl 1 true [], .str [], .str [], .sl 4 false [], .bool false, .sl 4 false [], .sl 1 true [], .sl 8 true [], .sl 5 true [], .sl 2 true [], .int .i64 0, .int .i64 0, .int .i64 0, .int .i64 0, .sl 2 true [], .sl 1 true [], .bool false])]), (.exit 2, xk 90 [(1, .ptr 1 0)] [(1, .agg [.str [], .str [], .bool false, .sl 1 true [], .sl 1 true [], .sl 1 true [], .str [], .str [], .sl 4 false [], .bool false, .sl 4 false [], .sl 1 true [], .sl 8 true [], .sl 5 true [], .sl 2 true [], .int .i64 0, .int .i64 0, .int .i64 0, .int .i64 0, .sl 2 true [], .sl 1 true [], .bool false])])])]
abbrev s28 : List (Bool × List CK) := s46
abbrev G28 := G59
abbrev W28 (F : T28) : WT := wrap s28 (G28 F)
theorem k28 (F59 : T59) (F60 : T60) (F61 : T61) (F62 : T62) (F63 : T63) (F64 : T64) : KO [(59, W59 F59), (60, W60 F60), (61, W61 F61), (62, W62 F62), (63, W63 F63), (64, W64 F64)] X28 28 Tryz.f28 s28 (G28 (P28 F59 F60 F61 F62 F63 F64)) := fun _ _ _ => by kernel_rfl
theorem ok28 : FnOk D 28 (W28 F28) := oW Tryz.func28 (tc ok59 (tc ok60 (tc ok61 (tc ok62 (tc ok63 (tc ok64 tn)))))) (k28 F59 F60 F61 F62 F63 F64 )
abbrev T25 : Type 1 := T16
def P25 (F28 : T28) (F16 : T16) : T25 := fun β a c k =>
 whileK (fun s1 =>
 br (decide ((lI s1 0) < ((lL s1 1).length : Int))) (
 chk (0 ≤ (lI s1 0)) <|
 idx true q0 (lL s1 1) ((lI s1 0).toNat) fun (e2 : r9_) =>
 br e2.2.2.2.2.2.2.2.2.2.2.2.2.2.2.2.2.2.2.2.2.2.2.2.2.1 (
 chk (0 ≤ (lI s1 0)) <|
 idx true q0 (lL s1 1) ((lI s1 0).toNat) fun (e3 : r9_) =>
 br (decide ((e3.2.2.2.2.2.2.2.2.2.2.2.2.1.length : Int) > 0)) (
 chk (0 ≤ (lI s1 0)) <|
 idx true q0 (lL s1 1) ((lI s1 0).toNat) fun (e4 : r9_) =>
 F28 _ e4.2.2.1 e4.2.2.2.1 e4.2.2.2.2.1 e4.2.2.2.2.2.1 e4.2.2.2.2.2.2.1 e4.2.2.2.2.2.2.2.1 e4.2.2.2.2.2.2.2.2.1 e4.2.2.2.2.2.2.2.2.2.1 e4.2.2.2.2.2.2.2.2.2.2.1 e4.2.2.2.2.2.2.2.2.2.2.2.1 e4.2.2.2.2.2.2.2.2.2.2.2.2.1 e4.2.2.2.2.2.2.2.2.2.2.2.2.2.1 e4.2.2.2.2.2.2.2.2.2.2.2.2.2.2.1 e4.2.2.2.2.2.2.2.2.2.2.2.2.2.2.2.1 e4.2.2.2.2.2.2.2.2.2.2.2.2.2.2.2.2.1 e4.2.2.2.2.2.2.2.2.2.2.2.2.2.2.2.2.2.1 e4.2.2.2.2.2.2.2.2.2.2.2.2.2.2.2.2.2.2.1 e4.2.2.2.2.2.2.2.2.2.2.2.2.2.2.2.2.2.2.2.1 e4.2.2.2.2.2.2.2.2.2.2.2.2.2.2.2.2.2.2.2.2.1 e4.2.2.2.2.2.2.2.2.2.2.2.2.2.2.2.2.2.2.2.2.2.1 e4.2.2.2.2.2.2.2.2.2.2.2.2.2.2.2.2.2.2.2.2.2.2.1 e4.2.2.2.2.2.2.2.2.2.2.2.2.2.2.2.2.2.2.2.2.2.2.2.1 fun b5 =>
 br (!b5) (
 some (.inr (0, [.b false, .l (lL s1 1), .i (lI s1 2)]))) (
 some (.inl [.i (IntKind.wrap .i64 ((lI s1 0) + 1)), .l (lL s1 1), .i (lI s1 2)]))) (
 some (.inl [.i (IntKind.wrap .i64 ((lI s1 0) + 1)), .l (lL s1 1), .i (lI s1 2)]))) (
 some (.inl [.i (IntKind.wrap .i64 ((lI s1 0) + 1)), .l (lL s1 1), .i (lI s1 2)]))) (
 some (.inr (1, [.l (lL s1 1), .i (lI s1 2)])))) [.i 0, .l a, .i c] fun r6 =>
 if r6.1 = 0 then
 k (lB r6.2 0)
 else
 F16 _ (lL r6.2 0) (lI r6.2 1) fun b7 =>
 k b7
def F25 : T25 := P25 F28 F16
def X25 : Exits := fun i => lookN i [] [(2, [(.ret, xk 41 [(1, .ptr 1 0), (2, .bool false)] [(1, .agg [.sl 25 false [], .int .i64 0])]), (.exit 0, xk 41 [(1, .ptr 1 0)] [(1, .agg [.sl 25 false [], .int .i64 0])])])]
abbrev s25 : List (Bool × List CK) := s18
abbrev G25 := G16
abbrev W25 (F : T25) : WT := wrap s25 (G25 F)
theorem k25 (F28 : T28) (F16 : T16) : KO [(28, W28 F28), (16, W16 F16)] X25 25 Tryz.f25 s25 (G25 (P25 F28 F16)) := fun _ _ _ => by kernel_rfl
theorem ok25 : FnOk D 25 (W25 F25) := oW Tryz.func25 (tc ok28 (tc ok16 tn)) (k25 F28 F16 )
abbrev T58 : Type 1 := (β : Type) → LU → LU → LU → Bool → (Bool → Option β) → Option β
def P58 : T58 := fun β a b d c k =>
 br (!c) (
 k true) (
 k (b == a))
def F58 : T58 := P58
abbrev s58 : List (Bool × List CK) := s96
def G58 (F : T58) (β : Type) (e : argsT s58) (k : V → Option β) : Option β := F β e.1.1 e.1.2.1 e.1.2.2.1 e.1.2.2.2.1 (fun y1 => k (.bool y1))
abbrev W58 (F : T58) : WT := wrap s58 (G58 F)
theorem k58 : KO [] noX 58 Tryz.f58 s58 (G58 (P58)) := fun _ _ _ => by kernel_rfl
theorem ok58 : FnOk D 58 (W58 F58) := oW Tryz.func58 (tn) (k58 )
abbrev T26 : Type 1 := T15
def P26 (F58 : T58) : T26 := fun β a c d f k =>
 whileK (fun s1 =>
 br (decide ((lI s1 0) < ((lL s1 3).length : Int))) (
 chk (0 ≤ (lI s1 0)) <|
 idx true q12 (lL s1 3) ((lI s1 0).toNat) fun (e2 : r7_) =>
 F58 _ e2.1 e2.2.1 e2.2.2.1 e2.2.2.2.1 fun b3 =>
 br (!b3) (
 some (.inr (0, [.b false]))) (
 some (.inl [.i (IntKind.wrap .i64 ((lI s1 0) + 1)), .l (lL s1 1), .l (lL s1 2), .l (lL s1 3), .i (lI s1 4)]))) (
 some (.inr (1, [])))) [.i 0, .l a, .l c, .l d, .i f] fun r4 =>
 if r4.1 = 0 then
 k (lB r4.2 0)
 else
 k true
def F26 : T26 := P26 F58
def X26 : Exits := fun i => lookN i [] [(2, [(.ret, xk 18 [(2, .bool false)] []), (.exit 0, xk 18 [] [])])]
abbrev s26 : List (Bool × List CK) := s17
abbrev G26 := G15
abbrev W26 (F : T26) : WT := wrap s26 (G26 F)
theorem k26 (F58 : T58) : KO [(58, W58 F58)] X26 26 Tryz.f26 s26 (G26 (P26 F58)) := fun _ _ _ => by kernel_rfl
theorem ok26 : FnOk D 26 (W26 F26) := oW Tryz.func26 (tc ok58 tn) (k26 F58 )
abbrev T27 : Type 1 := T15
def P27 (F40 : T40) : T27 := fun β a c d f k =>
 whileK (fun s1 =>
 br (decide ((lI s1 0) < ((lL s1 2).length : Int))) (
 chk (0 ≤ (lI s1 0)) <|
 idx true q3 (lL s1 2) ((lI s1 0).toNat) fun (e2 : r8_) =>
 br (decide (e2.2.2.2.2.2.2.2.2.2.1 > IntKind.wrap .i64 ((lI s1 4) + 1000))) (
 some (.inr (0, [.b false, .l (lL s1 1), .l (lL s1 2), .l (lL s1 3), .i (lI s1 4)]))) (
 some (.inl [.i (IntKind.wrap .i64 ((lI s1 0) + 1)), .l (lL s1 1), .l (lL s1 2), .l (lL s1 3), .i (lI s1 4)]))) (
 some (.inr (1, [.l (lL s1 1), .l (lL s1 2), .l (lL s1 3), .i (lI s1 4)])))) [.i 0, .l a, .l c, .l d, .i f] fun r3 =>
 if r3.1 = 0 then
 k (lB r3.2 0)
 else
 F40 _ (lL r3.2 1) fun b4 =>
 k b4
def F27 : T27 := P27 F40
def X27 : Exits := fun i => lookN i [] [(2, [(.ret, xk 26 [(1, .ptr 1 0), (2, .bool false)] [(1, .agg [.sl 2 false [], .sl 10 true [], .sl 4 true [], .int .i64 0])]), (.exit 0, xk 26 [(1, .ptr 1 0)] [(1, .agg [.sl 2 false [], .sl 10 true [], .sl 4 true [], .int .i64 0])])])]
abbrev s27 : List (Bool × List CK) := s17
abbrev G27 := G15
abbrev W27 (F : T27) : WT := wrap s27 (G27 F)
theorem k27 (F40 : T40) : KO [(40, W40 F40)] X27 27 Tryz.f27 s27 (G27 (P27 F40)) := fun _ _ _ => by kernel_rfl
theorem ok27 : FnOk D 27 (W27 F27) := oW Tryz.func27 (tc ok40 tn) (k27 F40 )
abbrev T10 : Type 1 := T6
def P10 (F6 : T6) (F25 : T25) (F26 : T26) (F27 : T27) (F28 : T28) : T10 := fun β a b c d f g h i j l m n o p q r s t u v w x y z a1 c1 d1 f1 g1 h1 i1 j1 l1 k =>
 F6 _ a b c d f g h i j l m n o p q r s t u v w x y z a1 c1 d1 f1 g1 h1 i1 j1 l1 fun b1 =>
 br b1 (
 F25 _ f g fun b2 =>
 br b2 (
 F26 _ a b c d fun b3 =>
 br b3 (
 F27 _ a b c d fun b4 =>
 br b4 (
 br (!h) (
 k true) (
 F28 _ i j l m n o p q r s t u v w x y z a1 c1 d1 f1 g1 fun b5 =>
 k b5)) (
 k false)) (
 k false)) (
 k false)) (
 k false)
def F10 : T10 := P10 F6 F25 F26 F27 F28
abbrev s10 : List (Bool × List CK) := s7
abbrev G10 := G6
abbrev W10 (F : T10) : WT := wrap s10 (G10 F)
theorem k10 (F6 : T6) (F25 : T25) (F26 : T26) (F27 : T27) (F28 : T28) : KO [(6, W6 F6), (25, W25 F25), (26, W26 F26), (27, W27 F27), (28, W28 F28)] noX 10 Tryz.f10 s10 (G10 (P10 F6 F25 F26 F27 F28)) := fun _ _ _ => by kernel_rfl
theorem ok10 : FnOk D 10 (W10 F10) := oW Tryz.func10 (tc ok6 (tc ok25 (tc ok26 (tc ok27 (tc ok28 tn))))) (k10 F6 F25 F26 F27 F28 )
abbrev T132 : Type 1 := T144
def F132 : T132 := sortPrK
abbrev s132 : List (Bool × List CK) := s176
abbrev G132 := G176
abbrev W132 (F : T132) : WT := wrap s132 (G132 F)
theorem ok132 : FnOk D 132 (W132 F132) := ok_sortPr (fun _ => rfl)
abbrev T68 : Type 1 := T59
def P68 (F132 : T132) : T68 := fun β b c d f g h i j l m n o p q r s t u v a w x k =>
 F132 _ a fun l1 =>
 k ((l1.length : Int) == (a.length : Int))
def F68 : T68 := P68 F132
abbrev s68 : List (Bool × List CK) := s46
abbrev G68 := G59
abbrev W68 (F : T68) : WT := wrap s68 (G68 F)
theorem k68 (F132 : T132) : KO [(132, W132 F132)] noX 68 Tryz.f68 s68 (G68 (P68 F132)) := fun _ _ _ => by kernel_rfl
theorem ok68 : FnOk D 68 (W68 F68) := oW Tryz.func68 (tc ok132 tn) (k68 F132 )
abbrev T169 : Type 1 := T90
def P169 : T169 := fun β name k =>
 br (name == [105, 109, 103]) (
 k true) (
 k (name == [108, 105, 110, 107]))
def F169 : T169 := P169
abbrev s169 : List (Bool × List CK) := s90
abbrev G169 := G90
abbrev W169 (F : T169) : WT := wrap s169 (G169 F)
theorem k169 : KO [] noX 169 Tryz.f169 s169 (G169 (P169)) := fun _ _ _ => by kernel_rfl
theorem ok169 : FnOk D 169 (W169 F169) := oW Tryz.func169 (tn) (k169 )
abbrev T133 : Type 1 := T129
def P133 (F169 : T169) : T133 := fun β a b n k =>
 br (decide (n ≥ 0)) (
 br (decide (n < (a.length : Int))) (
 chk (0 ≤ n) <|
 idx true q7 a n.toNat fun (e1 : r6_) =>
 br (!(e1.1 == [])) (
 chk (0 ≤ n) <|
 idx true q7 a n.toNat fun (e2 : r6_) =>
 F169 _ e2.1 fun b3 =>
 k (!b3)) (
 k false)) (
 k false)) (
 k false)
def F133 : T133 := P133 F169
abbrev s133 : List (Bool × List CK) := s82
abbrev G133 := G129
abbrev W133 (F : T133) : WT := wrap s133 (G133 F)
theorem k133 (F169 : T169) : KO [(169, W169 F169)] noX 133 Tryz.f133 s133 (G133 (P133 F169)) := fun _ _ _ => by kernel_rfl
theorem ok133 : FnOk D 133 (W133 F133) := oW Tryz.func133 (tc ok169 tn) (k133 F169 )
abbrev T69 : Type 1 := T158
def P69 (F50 : T50) (F110 : T110) (F133 : T133) : T69 := fun β a c k =>
 F50 _ (a.length : Int) 1 40 fun b1 =>
 br (!b1) (
 k false) (
 F50 _ (c.length : Int) 1 8 fun b2 =>
 br (!b2) (
 k false) (
 idx false [.int .i64] c 0 fun (e3 : Int × Unit) =>
 br (e3.1 != 0) (
 k false) (
 idx true q7 a 0 fun (e4 : r6_) =>
 br (!(e4.1 == [112, 97, 103, 101])) (
 k false) (
 br (e4.2.2.1 != (-1)) (
 k false) (
 br (!(e4.2.1 == [])) (
 k false) (
 br (decide ((e4.2.2.2.1.length : Int) > 0)) (
 k false) (
 whileK (fun s5 =>
 br (decide ((lI s5 2) < (lI s5 1))) (
 chk (0 ≤ (lI s5 2)) <|
 idx true q7 (lL s5 0) ((lI s5 2).toNat) fun (e6 : r6_) =>
 br ((lI s5 2) == 0) (
 some (.inl [.l (lL s5 0), .i (lI s5 1), .i (IntKind.wrap .i64 ((lI s5 2) + 1)), .l (lL s5 3), .l (lL s5 4)])) (
 F110 _ e6.1 fun b7 =>
 br b7 (
 br (e6.1 == []) (
 br (!(e6.2.1 == [])) (
 br (decide (e6.2.2.1 ≥ (lI s5 2))) (
 some (.inr (0, [.b false, .l (lL s5 3), .l (lL s5 4)]))) (
 F133 _ (lL s5 3) (lL s5 4) e6.2.2.1 fun b8 =>
 br (!b8) (
 some (.inr (0, [.b false, .l (lL s5 3), .l (lL s5 4)]))) (
 br (!(e6.2.1 == [])) (
 br (!((e6.2.2.2.1.length : Int) == 0)) (
 some (.inr (0, [.b false, .l (lL s5 3), .l (lL s5 4)]))) (
 some (.inl [.l (lL s5 0), .i (lI s5 1), .i (IntKind.wrap .i64 ((lI s5 2) + 1)), .l (lL s5 3), .l (lL s5 4)]))) (
 some (.inl [.l (lL s5 0), .i (lI s5 1), .i (IntKind.wrap .i64 ((lI s5 2) + 1)), .l (lL s5 3), .l (lL s5 4)]))))) (
 br (decide (e6.2.2.1 ≥ (lI s5 2))) (
 some (.inr (0, [.b false, .l (lL s5 3), .l (lL s5 4)]))) (
 F133 _ (lL s5 3) (lL s5 4) e6.2.2.1 fun b9 =>
 br (!b9) (
 some (.inr (0, [.b false, .l (lL s5 3), .l (lL s5 4)]))) (
 br (!(e6.2.1 == [])) (
 some (.inr (0, [.b false, .l (lL s5 3), .l (lL s5 4)]))) (
 some (.inl [.l (lL s5 0), .i (lI s5 1), .i (IntKind.wrap .i64 ((lI s5 2) + 1)), .l (lL s5 3), .l (lL s5 4)])))))) (
 br (decide (e6.2.2.1 ≥ (lI s5 2))) (
 some (.inr (0, [.b false, .l (lL s5 3), .l (lL s5 4)]))) (
 F133 _ (lL s5 3) (lL s5 4) e6.2.2.1 fun b10 =>
 br (!b10) (
 some (.inr (0, [.b false, .l (lL s5 3), .l (lL s5 4)]))) (
 br (!(e6.2.1 == [])) (
 some (.inr (0, [.b false, .l (lL s5 3), .l (lL s5 4)]))) (
 some (.inl [.l (lL s5 0), .i (lI s5 1), .i (IntKind.wrap .i64 ((lI s5 2) + 1)), .l (lL s5 3), .l (lL s5 4)])))))) (
 br (e6.1 == []) (
 br (!(e6.2.1 == [])) (
 br (decide (e6.2.2.1 ≥ (lI s5 2))) (
 some (.inr (0, [.b false, .l (lL s5 3), .l (lL s5 4)]))) (
 F133 _ (lL s5 3) (lL s5 4) e6.2.2.1 fun b11 =>
 br (!b11) (
 some (.inr (0, [.b false, .l (lL s5 3), .l (lL s5 4)]))) (
 br (!((e6.2.2.2.1.length : Int) == 0)) (
 some (.inr (0, [.b false, .l (lL s5 3), .l (lL s5 4)]))) (
 some (.inl [.l (lL s5 0), .i (lI s5 1), .i (IntKind.wrap .i64 ((lI s5 2) + 1)), .l (lL s5 3), .l (lL s5 4)]))))) (
 br (decide (e6.2.2.1 ≥ (lI s5 2))) (
 some (.inr (0, [.b false, .l (lL s5 3), .l (lL s5 4)]))) (
 F133 _ (lL s5 3) (lL s5 4) e6.2.2.1 fun b12 =>
 br (!b12) (
 some (.inr (0, [.b false, .l (lL s5 3), .l (lL s5 4)]))) (
 some (.inr (0, [.b false, .l (lL s5 3), .l (lL s5 4)])))))) (
 br (decide (e6.2.2.1 ≥ (lI s5 2))) (
 some (.inr (0, [.b false, .l (lL s5 3), .l (lL s5 4)]))) (
 F133 _ (lL s5 3) (lL s5 4) e6.2.2.1 fun b13 =>
 br (!b13) (
 some (.inr (0, [.b false, .l (lL s5 3), .l (lL s5 4)]))) (
 some (.inr (0, [.b false, .l (lL s5 3), .l (lL s5 4)])))))))) (
 some (.inr (1, [.l (lL s5 3), .l (lL s5 4)])))) [.l a, .i (a.length : Int), .i 0, .l a, .l c] fun r14 =>
 if r14.1 = 0 then
 k (lB r14.2 0)
 else
 whileK (fun s15 =>
 br (decide ((lI s15 2) < (lI s15 1))) (
 chk (0 ≤ (lI s15 2)) <|
 idx false [.int .i64] (lL s15 0) ((lI s15 2).toNat) fun (e16 : Int × Unit) =>
 br (decide ((lI s15 2) > 0)) (
 F133 _ (lL s15 3) (lL s15 4) e16.1 fun b17 =>
 br (!b17) (
 some (.inr (0, [.b false]))) (
 chk (0 ≤ e16.1) <|
 idx true q7 (lL s15 3) e16.1.toNat fun (e18 : r6_) =>
 chk (0 ≤ IntKind.wrap .i64 ((lI s15 2) - 1)) <|
 idx false [.int .i64] (lL s15 4) ((IntKind.wrap .i64 ((lI s15 2) - 1)).toNat) fun (e19 : Int × Unit) =>
 br (e18.2.2.1 != e19.1) (
 some (.inr (0, [.b false]))) (
 some (.inl [.l (lL s15 0), .i (lI s15 1), .i (IntKind.wrap .i64 ((lI s15 2) + 1)), .l (lL s15 3), .l (lL s15 4)])))) (
 some (.inl [.l (lL s15 0), .i (lI s15 1), .i (IntKind.wrap .i64 ((lI s15 2) + 1)), .l (lL s15 3), .l (lL s15 4)]))) (
 some (.inr (1, [])))) [.l (lL r14.2 1), .i ((lL r14.2 1).length : Int), .i 0, .l (lL r14.2 0), .l (lL r14.2 1)] fun r20 =>
 if r20.1 = 0 then
 k (lB r20.2 0)
 else
 k true)))))))
def F69 : T69 := P69 F50 F110 F133
def X69 : Exits := fun i => lookN i [] [(7, [(.ret, xk 136 [(1, .ptr 1 0), (2, .bool false)] [(1, .agg [.sl 4 false [], .sl 1 true []])]), (.exit 0, xk 136 [(1, .ptr 1 0)] [(1, .agg [.sl 4 false [], .sl 1 true []])])]), (16, [(.ret, xk 136 [(2, .bool false)] []), (.exit 2, xk 136 [] [])])]
abbrev s69 : List (Bool × List CK) := s102
abbrev G69 := G60
abbrev W69 (F : T69) : WT := wrap s69 (G69 F)
theorem k69 (F50 : T50) (F110 : T110) (F133 : T133) : KO [(50, W50 F50), (110, W110 F110), (133, W133 F133)] X69 69 Tryz.f69 s69 (G69 (P69 F50 F110 F133)) := fun _ _ _ => by kernel_rfl
theorem ok69 : FnOk D 69 (W69 F69) := oW Tryz.func69 (tc ok50 (tc ok110 (tc ok133 tn))) (k69 F50 F110 F133 )
abbrev T70 : Type 1 := T59
def P70 : T70 := fun β f g h i j l m n a b o p q r s c d t u v w x k =>
 br b (
 br ((a.length : Int) == 0) (
 br (c == 0) (
 k (d == 0)) (
 k false)) (
 k false)) (
 k false)
def F70 : T70 := P70
abbrev s70 : List (Bool × List CK) := s46
abbrev G70 := G59
abbrev W70 (F : T70) : WT := wrap s70 (G70 F)
theorem k70 : KO [] noX 70 Tryz.f70 s70 (G70 (P70)) := fun _ _ _ => by kernel_rfl
theorem ok70 : FnOk D 70 (W70 F70) := oW Tryz.func70 (tn) (k70 )
abbrev T71 : Type 1 := T62
def P71 : T71 := fun β b c d f g h j m n o p q a r s t u v w x y z k =>
 whileK (fun s1 =>
 br (decide ((lI s1 3) < (lI s1 2))) (
 chk (0 ≤ (lI s1 3)) <|
 idx true q5 (lL s1 1) ((lI s1 3).toNat) fun (e2 : r0_) =>
 br (!e2.2.2.2.2.2.1) (
 chk (((lL s1 0).length + ([.int .i64 (lI s1 3)] : LV).length) * 8 ≤ 140737488355328 ∧ (lL s1 0).length + ([.int .i64 (lI s1 3)] : LV).length ≤ 140737488355328) <|
 some (.inl [.l ((lL s1 0) ++ ([.int .i64 (lI s1 3)] : LV)), .l (lL s1 1), .i (lI s1 2), .i (IntKind.wrap .i64 ((lI s1 3) + 1))])) (
 some (.inl [.l (lL s1 0), .l (lL s1 1), .i (lI s1 2), .i (IntKind.wrap .i64 ((lI s1 3) + 1))]))) (
 some (.inr (0, [.l (lL s1 0)])))) [.l [], .l a, .i (a.length : Int), .i 0] fun r3 =>
 k (lL r3.2 0)
def F71 : T71 := P71
def X71 : Exits := fun i => lookN i [] [(3, [(.exit 0, xk 24 [(3, .own 1000000 1 .flat [])] [])])]
abbrev s71 : List (Bool × List CK) := s46
abbrev G71 := G62
abbrev W71 (F : T71) : WT := wrap s71 (G71 F)
theorem k71 : KO [] X71 71 Tryz.f71 s71 (G71 (P71)) := fun _ _ _ => by kernel_rfl
theorem ok71 : FnOk D 71 (W71 F71) := oW Tryz.func71 (tn) (k71 )
abbrev T72 : Type 1 := T62
def P72 : T72 := fun β b c d f g h j m n o p q r a s t u v w x y z k =>
 whileK (fun s1 =>
 br (decide ((lI s1 3) < (lI s1 2))) (
 chk (0 ≤ (lI s1 3)) <|
 idx true q10 (lL s1 1) ((lI s1 3).toNat) fun (e2 : r4_) =>
 br (!e2.2.2.1) (
 chk (((lL s1 0).length + ([.int .i64 (lI s1 3)] : LV).length) * 8 ≤ 140737488355328 ∧ (lL s1 0).length + ([.int .i64 (lI s1 3)] : LV).length ≤ 140737488355328) <|
 some (.inl [.l ((lL s1 0) ++ ([.int .i64 (lI s1 3)] : LV)), .l (lL s1 1), .i (lI s1 2), .i (IntKind.wrap .i64 ((lI s1 3) + 1))])) (
 some (.inl [.l (lL s1 0), .l (lL s1 1), .i (lI s1 2), .i (IntKind.wrap .i64 ((lI s1 3) + 1))]))) (
 some (.inr (0, [.l (lL s1 0)])))) [.l [], .l a, .i (a.length : Int), .i 0] fun r3 =>
 k (lL r3.2 0)
def F72 : T72 := P72
def X72 : Exits := fun i => lookN i [] [(3, [(.exit 0, xk 24 [(3, .own 1000000 1 .flat [])] [])])]
abbrev s72 : List (Bool × List CK) := s46
abbrev G72 := G62
abbrev W72 (F : T72) : WT := wrap s72 (G72 F)
theorem k72 : KO [] X72 72 Tryz.f72 s72 (G72 (P72)) := fun _ _ _ => by kernel_rfl
theorem ok72 : FnOk D 72 (W72 F72) := oW Tryz.func72 (tn) (k72 )
abbrev T134 : Type 1 := T89
def P134 : T134 := fun β s v k =>
 whileK (fun s1 =>
 br (decide ((lI s1 3) < (lI s1 2))) (
 chk (0 ≤ (lI s1 3)) <|
 idx false [.str] (lL s1 0) ((lI s1 3).toNat) fun (e2 : r12_) =>
 br ((lS s1 1) == e2.1) (
 some (.inr (0, [.i (lI s1 3)]))) (
 some (.inl [.l (lL s1 0), .s (lS s1 1), .i (lI s1 2), .i (IntKind.wrap .i64 ((lI s1 3) + 1))]))) (
 some (.inr (1, [])))) [.l s, .s v, .i (s.length : Int), .i 0] fun r3 =>
 if r3.1 = 0 then
 k (lI r3.2 0)
 else
 k (-1)
def F134 : T134 := P134
def X134 : Exits := fun i => lookN i [] [(2, [(.ret, xk 19 [(4, .int .i64 0)] []), (.exit 0, xk 19 [] [])])]
abbrev s134 : List (Bool × List CK) := s197
def G134 (F : T134) (β : Type) (e : argsT s134) (k : V → Option β) : Option β := F β e.1.1 e.2.1.1 (fun y1 => k (.int .i64 y1))
abbrev W134 (F : T134) : WT := wrap s134 (G134 F)
theorem k134 : KO [] X134 134 Tryz.f134 s134 (G134 (P134)) := fun _ _ _ => by kernel_rfl
theorem ok134 : FnOk D 134 (W134 F134) := oW Tryz.func134 (tn) (k134 )
abbrev T73 : Type 1 := T64
def P73 (F134 : T134) : T73 := fun β s v k =>
 F134 _ s v fun n1 =>
 k (decide (n1 ≥ 0))
def F73 : T73 := P73 F134
abbrev s73 : List (Bool × List CK) := s197
abbrev G73 := G64
abbrev W73 (F : T73) : WT := wrap s73 (G73 F)
theorem k73 (F134 : T134) : KO [(134, W134 F134)] noX 73 Tryz.f73 s73 (G73 (P73 F134)) := fun _ _ _ => by kernel_rfl
theorem ok73 : FnOk D 73 (W73 F73) := oW Tryz.func73 (tc ok134 tn) (k73 F134 )
abbrev T32 : Type 1 := T59
def P32 (F68 : T68) (F69 : T69) (F70 : T70) (F71 : T71) (F72 : T72) (F73 : T73) : T32 := fun β c d f g h j m n o p q r a t u v w x y z a1 b1 k =>
 whileK (fun s1 =>
 br (decide ((lI s1 2) < (lI s1 1))) (
 chk (0 ≤ (lI s1 2)) <|
 idx true q5 (lL s1 0) ((lI s1 2).toNat) fun (e2 : r0_) =>
 br (e2.2.2.2.2.2.2.1 != 1) (
 br (!(e2.2.2.2.2.2.2.2.1 == [])) (
 some (.inr (0, [.b false, .s (lS s1 3), .s (lS s1 4), .b (lB s1 5), .l (lL s1 6), .l (lL s1 7), .l (lL s1 8), .s (lS s1 9), .s (lS s1 10), .l (lL s1 11), .b (lB s1 12), .l (lL s1 13), .l (lL s1 14), .l (lL s1 15), .l (lL s1 16), .l (lL s1 17), .i (lI s1 18), .i (lI s1 19), .i (lI s1 20), .i (lI s1 21), .l (lL s1 22), .l (lL s1 23), .b (lB s1 24)]))) (
 some (.inl [.l (lL s1 0), .i (lI s1 1), .i (IntKind.wrap .i64 ((lI s1 2) + 1)), .s (lS s1 3), .s (lS s1 4), .b (lB s1 5), .l (lL s1 6), .l (lL s1 7), .l (lL s1 8), .s (lS s1 9), .s (lS s1 10), .l (lL s1 11), .b (lB s1 12), .l (lL s1 13), .l (lL s1 14), .l (lL s1 15), .l (lL s1 16), .l (lL s1 17), .i (lI s1 18), .i (lI s1 19), .i (lI s1 20), .i (lI s1 21), .l (lL s1 22), .l (lL s1 23), .b (lB s1 24)]))) (
 some (.inl [.l (lL s1 0), .i (lI s1 1), .i (IntKind.wrap .i64 ((lI s1 2) + 1)), .s (lS s1 3), .s (lS s1 4), .b (lB s1 5), .l (lL s1 6), .l (lL s1 7), .l (lL s1 8), .s (lS s1 9), .s (lS s1 10), .l (lL s1 11), .b (lB s1 12), .l (lL s1 13), .l (lL s1 14), .l (lL s1 15), .l (lL s1 16), .l (lL s1 17), .i (lI s1 18), .i (lI s1 19), .i (lI s1 20), .i (lI s1 21), .l (lL s1 22), .l (lL s1 23), .b (lB s1 24)]))) (
 some (.inr (1, [.s (lS s1 3), .s (lS s1 4), .b (lB s1 5), .l (lL s1 6), .l (lL s1 7), .l (lL s1 8), .s (lS s1 9), .s (lS s1 10), .l (lL s1 11), .b (lB s1 12), .l (lL s1 13), .l (lL s1 14), .l (lL s1 15), .l (lL s1 16), .l (lL s1 17), .i (lI s1 18), .i (lI s1 19), .i (lI s1 20), .i (lI s1 21), .l (lL s1 22), .l (lL s1 23), .b (lB s1 24)])))) [.l a, .i (a.length : Int), .i 0, .s c, .s d, .b f, .l g, .l h, .l j, .s m, .s n, .l o, .b p, .l q, .l r, .l a, .l t, .l u, .i v, .i w, .i x, .i y, .l z, .l a1, .b b1] fun r3 =>
 if r3.1 = 0 then
 k (lB r3.2 0)
 else
 whileK (fun s4 =>
 br (decide ((lI s4 2) < (lI s4 1))) (
 chk (0 ≤ (lI s4 2)) <|
 idx true q10 (lL s4 0) ((lI s4 2).toNat) fun (e5 : r4_) =>
 br (e5.2.2.2.1 != 1) (
 br (!(e5.2.2.2.2.1 == [])) (
 some (.inr (0, [.b false, .s (lS s4 3), .s (lS s4 4), .b (lB s4 5), .l (lL s4 6), .l (lL s4 7), .l (lL s4 8), .s (lS s4 9), .s (lS s4 10), .l (lL s4 11), .b (lB s4 12), .l (lL s4 13), .l (lL s4 14), .l (lL s4 15), .l (lL s4 16), .l (lL s4 17), .i (lI s4 18), .i (lI s4 19), .i (lI s4 20), .i (lI s4 21), .l (lL s4 22), .l (lL s4 23), .b (lB s4 24)]))) (
 some (.inl [.l (lL s4 0), .i (lI s4 1), .i (IntKind.wrap .i64 ((lI s4 2) + 1)), .s (lS s4 3), .s (lS s4 4), .b (lB s4 5), .l (lL s4 6), .l (lL s4 7), .l (lL s4 8), .s (lS s4 9), .s (lS s4 10), .l (lL s4 11), .b (lB s4 12), .l (lL s4 13), .l (lL s4 14), .l (lL s4 15), .l (lL s4 16), .l (lL s4 17), .i (lI s4 18), .i (lI s4 19), .i (lI s4 20), .i (lI s4 21), .l (lL s4 22), .l (lL s4 23), .b (lB s4 24)]))) (
 some (.inl [.l (lL s4 0), .i (lI s4 1), .i (IntKind.wrap .i64 ((lI s4 2) + 1)), .s (lS s4 3), .s (lS s4 4), .b (lB s4 5), .l (lL s4 6), .l (lL s4 7), .l (lL s4 8), .s (lS s4 9), .s (lS s4 10), .l (lL s4 11), .b (lB s4 12), .l (lL s4 13), .l (lL s4 14), .l (lL s4 15), .l (lL s4 16), .l (lL s4 17), .i (lI s4 18), .i (lI s4 19), .i (lI s4 20), .i (lI s4 21), .l (lL s4 22), .l (lL s4 23), .b (lB s4 24)]))) (
 some (.inr (1, [.s (lS s4 3), .s (lS s4 4), .b (lB s4 5), .l (lL s4 6), .l (lL s4 7), .l (lL s4 8), .s (lS s4 9), .s (lS s4 10), .l (lL s4 11), .b (lB s4 12), .l (lL s4 13), .l (lL s4 14), .l (lL s4 15), .l (lL s4 16), .l (lL s4 17), .i (lI s4 18), .i (lI s4 19), .i (lI s4 20), .i (lI s4 21), .l (lL s4 22), .l (lL s4 23), .b (lB s4 24)])))) [.l (lL r3.2 13), .i ((lL r3.2 13).length : Int), .i 0, .s (lS r3.2 0), .s (lS r3.2 1), .b (lB r3.2 2), .l (lL r3.2 3), .l (lL r3.2 4), .l (lL r3.2 5), .s (lS r3.2 6), .s (lS r3.2 7), .l (lL r3.2 8), .b (lB r3.2 9), .l (lL r3.2 10), .l (lL r3.2 11), .l (lL r3.2 12), .l (lL r3.2 13), .l (lL r3.2 14), .i (lI r3.2 15), .i (lI r3.2 16), .i (lI r3.2 17), .i (lI r3.2 18), .l (lL r3.2 19), .l (lL r3.2 20), .b (lB r3.2 21)] fun r6 =>
 if r6.1 = 0 then
 k (lB r6.2 0)
 else
 F68 _ (lS r6.2 0) (lS r6.2 1) (lB r6.2 2) (lL r6.2 3) (lL r6.2 4) (lL r6.2 5) (lS r6.2 6) (lS r6.2 7) (lL r6.2 8) (lB r6.2 9) (lL r6.2 10) (lL r6.2 11) (lL r6.2 12) (lL r6.2 13) (lL r6.2 14) (lI r6.2 15) (lI r6.2 16) (lI r6.2 17) (lI r6.2 18) (lL r6.2 19) (lL r6.2 20) (lB r6.2 21) fun b7 =>
 br (!b7) (
 k false) (
 F69 _ (lL r6.2 10) (lL r6.2 11) fun b8 =>
 br (!b8) (
 k false) (
 br (!(lB r6.2 21)) (
 k true) (
 F70 _ (lS r6.2 0) (lS r6.2 1) (lB r6.2 2) (lL r6.2 3) (lL r6.2 4) (lL r6.2 5) (lS r6.2 6) (lS r6.2 7) (lL r6.2 8) (lB r6.2 9) (lL r6.2 10) (lL r6.2 11) (lL r6.2 12) (lL r6.2 13) (lL r6.2 14) (lI r6.2 15) (lI r6.2 16) (lI r6.2 17) (lI r6.2 18) (lL r6.2 19) (lL r6.2 20) (lB r6.2 21) fun b9 =>
 br b9 (
 F71 _ (lS r6.2 0) (lS r6.2 1) (lB r6.2 2) (lL r6.2 3) (lL r6.2 4) (lL r6.2 5) (lS r6.2 6) (lS r6.2 7) (lL r6.2 8) (lB r6.2 9) (lL r6.2 10) (lL r6.2 11) (lL r6.2 12) (lL r6.2 13) (lL r6.2 14) (lI r6.2 15) (lI r6.2 16) (lI r6.2 17) (lI r6.2 18) (lL r6.2 19) (lL r6.2 20) (lB r6.2 21) fun l10 =>
 br ((l10.length : Int) == 0) (
 F72 _ (lS r6.2 0) (lS r6.2 1) (lB r6.2 2) (lL r6.2 3) (lL r6.2 4) (lL r6.2 5) (lS r6.2 6) (lS r6.2 7) (lL r6.2 8) (lB r6.2 9) (lL r6.2 10) (lL r6.2 11) (lL r6.2 12) (lL r6.2 13) (lL r6.2 14) (lI r6.2 15) (lI r6.2 16) (lI r6.2 17) (lI r6.2 18) (lL r6.2 19) (lL r6.2 20) (lB r6.2 21) fun l11 =>
 br ((l11.length : Int) == 0) (
 F73 _ (lL r6.2 20) [108, 111, 97, 100] fun b12 =>
 br b12 (
 k true) (
 k (((lL r6.2 20).length : Int) == 40))) (
 k false)) (
 k false)) (
 k false))))
def F32 : T32 := P32 F68 F69 F70 F71 F72 F73
def X32 : Exits := fun i => lookN i [] [(2, [(.ret, xk 76 [(1, .ptr 1 0), (2, .bool false)] [(1, .agg [.str [], .str [], .bool false, .sl 1 true [], .sl 1 true [], .sl 1 true [], .str [], .str [], .sl 4 false [], .bool false, .sl 4 false [], .sl 1 true [], .sl 8 true [], .sl 5 true [], .sl 2 true [], .int .i64 0, .int .i64 0, .int .i64 0, .int .i64 0, .sl 2 true [], .sl 1 true [], .bool false])]), (.exit 0, xk 76 [(1, .ptr 1 0)] [(1, .agg [.str [], .str [], .bool false, .sl 1 true [], .sl 1 true [], .sl 1 true [], .str [], .str [], .sl 4 false [], .bool false, .sl 4 false [], .sl 1 true [], .sl 8 true [], .sl 5 true [], .sl 2 true [], .int .i64 0, .int .i64 0, .int .i64 0, .int .i64 0, .sl 2 true [], .sl 1 true [], .bool false])])]), (8, [(.ret, xk 76 [(1, .ptr 1 0), (2, .bool false)] [(1, .agg [.str [], .str [], .bool false, .sl 1 true [], .sl 1 true [], .sl 1 true [], .str [], .str [], .sl 4 false [], .bool false, .sl 4 false [], .sl 1 true [], .sl 8 true [], .sl 5 true [], .sl 2 true [], .int .i64 0, .int .i64 0, .int .i64 0, .int .i64 0, .sl 2 true [], .sl 1 true [], .bool false])]), (.exit 2, xk 76 [(1, .ptr 1 0)] [(1, .agg [.str [], .str [], .bool false, .sl 1 true [], .sl 1 true [], .sl 1 true [], .str [], .str [], .sl 4 false [], .bool false, .sl 4 false [], .sl 1 true [], .sl 8 true [], .sl 5 true [], .sl 2 true [], .int .i64 0, .int .i64 0, .int .i64 0, .int .i64 0, .sl 2 true [], .sl 1 true [], .bool false])])])]
abbrev s32 : List (Bool × List CK) := s46
abbrev G32 := G59
abbrev W32 (F : T32) : WT := wrap s32 (G32 F)
theorem k32 (F68 : T68) (F69 : T69) (F70 : T70) (F71 : T71) (F72 : T72) (F73 : T73) : KO [(68, W68 F68), (69, W69 F69), (70, W70 F70), (71, W71 F71), (72, W72 F72), (73, W73 F73)] X32 32 Tryz.f32 s32 (G32 (P32 F68 F69 F70 F71 F72 F73)) := fun _ _ _ => by kernel_rfl
theorem ok32 : FnOk D 32 (W32 F32) := oW Tryz.func32 (tc ok68 (tc ok69 (tc ok70 (tc ok71 (tc ok72 (tc ok73 tn)))))) (k32 F68 F69 F70 F71 F72 F73 )
abbrev T29 : Type 1 := T16
def P29 (F32 : T32) (F21 : T21) : T29 := fun β a c k =>
 whileK (fun s1 =>
 br (decide ((lI s1 2) < (lI s1 1))) (
 chk (0 ≤ (lI s1 2)) <|
 idx true q0 (lL s1 0) ((lI s1 2).toNat) fun (e2 : r9_) =>
 br e2.2.2.2.2.2.2.2.2.2.2.2.2.2.2.2.2.2.2.2.2.2.2.2.2.1 (
 br (decide ((e2.2.2.2.2.2.2.2.2.2.2.2.2.1.length : Int) > 0)) (
 F32 _ e2.2.2.1 e2.2.2.2.1 e2.2.2.2.2.1 e2.2.2.2.2.2.1 e2.2.2.2.2.2.2.1 e2.2.2.2.2.2.2.2.1 e2.2.2.2.2.2.2.2.2.1 e2.2.2.2.2.2.2.2.2.2.1 e2.2.2.2.2.2.2.2.2.2.2.1 e2.2.2.2.2.2.2.2.2.2.2.2.1 e2.2.2.2.2.2.2.2.2.2.2.2.2.1 e2.2.2.2.2.2.2.2.2.2.2.2.2.2.1 e2.2.2.2.2.2.2.2.2.2.2.2.2.2.2.1 e2.2.2.2.2.2.2.2.2.2.2.2.2.2.2.2.1 e2.2.2.2.2.2.2.2.2.2.2.2.2.2.2.2.2.1 e2.2.2.2.2.2.2.2.2.2.2.2.2.2.2.2.2.2.1 e2.2.2.2.2.2.2.2.2.2.2.2.2.2.2.2.2.2.2.1 e2.2.2.2.2.2.2.2.2.2.2.2.2.2.2.2.2.2.2.2.1 e2.2.2.2.2.2.2.2.2.2.2.2.2.2.2.2.2.2.2.2.2.1 e2.2.2.2.2.2.2.2.2.2.2.2.2.2.2.2.2.2.2.2.2.2.1 e2.2.2.2.2.2.2.2.2.2.2.2.2.2.2.2.2.2.2.2.2.2.2.1 e2.2.2.2.2.2.2.2.2.2.2.2.2.2.2.2.2.2.2.2.2.2.2.2.1 fun b3 =>
 br (!b3) (
 some (.inr (0, [.b false, .l (lL s1 3), .i (lI s1 4)]))) (
 some (.inl [.l (lL s1 0), .i (lI s1 1), .i (IntKind.wrap .i64 ((lI s1 2) + 1)), .l (lL s1 3), .i (lI s1 4)]))) (
 some (.inl [.l (lL s1 0), .i (lI s1 1), .i (IntKind.wrap .i64 ((lI s1 2) + 1)), .l (lL s1 3), .i (lI s1 4)]))) (
 some (.inl [.l (lL s1 0), .i (lI s1 1), .i (IntKind.wrap .i64 ((lI s1 2) + 1)), .l (lL s1 3), .i (lI s1 4)]))) (
 some (.inr (1, [.l (lL s1 3), .i (lI s1 4)])))) [.l a, .i (a.length : Int), .i 0, .l a, .i c] fun r4 =>
 if r4.1 = 0 then
 k (lB r4.2 0)
 else
 F21 _ (lL r4.2 0) (lI r4.2 1) fun b5 =>
 k b5
def F29 : T29 := P29 F32 F21
def X29 : Exits := fun i => lookN i [] [(2, [(.ret, xk 31 [(1, .ptr 1 0), (2, .bool false)] [(1, .agg [.sl 25 false [], .int .i64 0])]), (.exit 0, xk 31 [(1, .ptr 1 0)] [(1, .agg [.sl 25 false [], .int .i64 0])])])]
abbrev s29 : List (Bool × List CK) := s18
abbrev G29 := G16
abbrev W29 (F : T29) : WT := wrap s29 (G29 F)
theorem k29 (F32 : T32) (F21 : T21) : KO [(32, W32 F32), (21, W21 F21)] X29 29 Tryz.f29 s29 (G29 (P29 F32 F21)) := fun _ _ _ => by kernel_rfl
theorem ok29 : FnOk D 29 (W29 F29) := oW Tryz.func29 (tc ok32 (tc ok21 tn)) (k29 F32 F21 )
abbrev T67 : Type 1 := T58
def P67 : T67 := fun β a b d c k =>
 br (!c) (
 k true) (
 k (b == a))
def F67 : T67 := P67
abbrev s67 : List (Bool × List CK) := s96
abbrev G67 := G58
abbrev W67 (F : T67) : WT := wrap s67 (G67 F)
theorem k67 : KO [] noX 67 Tryz.f67 s67 (G67 (P67)) := fun _ _ _ => by kernel_rfl
theorem ok67 : FnOk D 67 (W67 F67) := oW Tryz.func67 (tn) (k67 )
abbrev T66 : Type 1 := T58
def P66 (F67 : T67) : T66 := fun β a b c d k =>
 F67 _ a b c d fun b1 =>
 k (!b1)
def F66 : T66 := P66 F67
abbrev s66 : List (Bool × List CK) := s96
abbrev G66 := G58
abbrev W66 (F : T66) : WT := wrap s66 (G66 F)
theorem k66 (F67 : T67) : KO [(67, W67 F67)] noX 66 Tryz.f66 s66 (G66 (P66 F67)) := fun _ _ _ => by kernel_rfl
theorem ok66 : FnOk D 66 (W66 F66) := oW Tryz.func66 (tc ok67 tn) (k66 F67 )
abbrev T131c66 : Type 1 := (β : Type) → LV → (Int → Option β) → Option β
def P131c66 (F66 : T66) : T131c66 := fun β s k =>
 whileK (fun s1 =>
 br (decide ((lI s1 2) < (lI s1 1))) (
 chk (0 ≤ (lI s1 2)) <|
 idx true q12 (lL s1 0) ((lI s1 2).toNat) fun (e2 : LU × LU × LU × Bool × Unit) =>
 F66 _ e2.1 e2.2.1 e2.2.2.1 e2.2.2.2.1 fun b3 =>
 br b3 (
 some (.inr (0, [.i (lI s1 2)]))) (
 some (.inl [.l (lL s1 0), .i (lI s1 1), .i (IntKind.wrap .i64 ((lI s1 2) + 1))]))) (
 some (.inr (1, [])))) [.l s, .i (s.length : Int), .i 0] fun (r4 : Nat × List Leaf) =>
 if r4.1 = 0 then
 k (lI r4.2 0)
 else
 k (-1)
def F131c66 : T131c66 := P131c66 F66
def X131c66 : Exits := fun i => lookN i [] [(2, [(.ret, xk 19 [(4, .int .i64 0)] []), (.exit 0, xk 19 [] [])])]
def W131c66 (F : T131c66) : (β : Type) → LV → (V → Option β) → Option β := fun β args k => match args with
 | [.sl 4 true s, .clo 66 []] => F β s (fun y1 => k (.int .i64 y1))
 | _ => none
theorem k131c66 (F66 : T66) {β : Type} (s : LV) (k : V → Option β) : fnK cfg (tabL [(66, W66 F66)]) X131c66 131 Tryz.f131 β [.sl 4 true s, .clo 66 []] k = P131c66 F66 β s (fun y1 => k (.int .i64 y1)) := by kernel_rfl
theorem ok131c66 : FnOk D 131 (W131c66 F131c66) := fn_ok (l := [(66, W66 F66)]) (X := X131c66) (fun _ => rfl) Tryz.func131 rfl (tc ok66 tn) (fun β args k r h => by
 unfold W131c66 at h
 split at h
 ·rw [← h]; exact k131c66 F66 _ k
 ·cases h)
abbrev T65c66 : Type 1 := (β : Type) → LV → (Bool → Option β) → Option β
def P65c66 (F131c66 : T131c66) : T65c66 := fun β s k =>
 F131c66 _ s fun n1 =>
 k (decide (n1 ≥ 0))
def F65c66 : T65c66 := P65c66 F131c66
def W65c66 (F : T65c66) : (β : Type) → LV → (V → Option β) → Option β := fun β args k => match args with
 | [.sl 4 true s, .clo 66 []] => F β s (fun y1 => k (.bool y1))
 | _ => none
theorem k65c66 (F131c66 : T131c66) {β : Type} (s : LV) (k : V → Option β) : fnK cfg (tabL [(131, W131c66 F131c66)]) noX 65 Tryz.f65 β [.sl 4 true s, .clo 66 []] k = P65c66 F131c66 β s (fun y1 => k (.bool y1)) := by kernel_rfl
theorem ok65c66 : FnOk D 65 (W65c66 F65c66) := fn_ok (l := [(131, W131c66 F131c66)]) (X := noX) (fun _ => rfl) Tryz.func65 rfl (tc ok131c66 tn) (fun β args k r h => by
 unfold W65c66 at h
 split at h
 ·rw [← h]; exact k65c66 F131c66 _ k
 ·cases h)
abbrev T30 : Type 1 := T15
def P30 (F65c66 : T65c66) : T30 := fun β b c a d k =>
 F65c66 _ a fun b1 =>
 k (!b1)
def F30 : T30 := P30 F65c66
abbrev s30 : List (Bool × List CK) := s17
abbrev G30 := G15
abbrev W30 (F : T30) : WT := wrap s30 (G30 F)
theorem k30 (F65c66 : T65c66) (β : Type) (e : argsT s30) (k : V → Option β) : fnK cfg (tabL [(65, W65c66 F65c66)]) noX 30 Tryz.f30 β (argsEnc s30 e) k = G30 (P30 F65c66 ) β e k := by kernel_rfl
theorem ok30 : FnOk D 30 (W30 F30) := oW Tryz.func30 (tc ok65c66 tn) (k30 F65c66 )
abbrev T31 : Type 1 := T15
def P31 (F49 : T49) : T31 := fun β c a d f k =>
 whileK (fun s1 =>
 br (decide ((lI s1 2) < (lI s1 1))) (
 chk (0 ≤ (lI s1 2)) <|
 idx true q3 (lL s1 0) ((lI s1 2).toNat) fun (e2 : r8_) =>
 br (decide (e2.2.2.2.2.2.2.2.2.2.1 > IntKind.wrap .i64 ((lI s1 6) + 1000))) (
 some (.inr (0, [.b false, .l (lL s1 3), .l (lL s1 4), .l (lL s1 5), .i (lI s1 6)]))) (
 some (.inl [.l (lL s1 0), .i (lI s1 1), .i (IntKind.wrap .i64 ((lI s1 2) + 1)), .l (lL s1 3), .l (lL s1 4), .l (lL s1 5), .i (lI s1 6)]))) (
 some (.inr (1, [.l (lL s1 3), .l (lL s1 4), .l (lL s1 5), .i (lI s1 6)])))) [.l a, .i (a.length : Int), .i 0, .l c, .l a, .l d, .i f] fun r3 =>
 if r3.1 = 0 then
 k (lB r3.2 0)
 else
 F49 _ (lL r3.2 1) fun b4 =>
 k b4
def F31 : T31 := P31 F49
def X31 : Exits := fun i => lookN i [] [(2, [(.ret, xk 23 [(1, .ptr 1 0), (2, .bool false)] [(1, .agg [.sl 2 false [], .sl 10 true [], .sl 4 true [], .int .i64 0])]), (.exit 0, xk 23 [(1, .ptr 1 0)] [(1, .agg [.sl 2 false [], .sl 10 true [], .sl 4 true [], .int .i64 0])])])]
abbrev s31 : List (Bool × List CK) := s17
abbrev G31 := G15
abbrev W31 (F : T31) : WT := wrap s31 (G31 F)
theorem k31 (F49 : T49) : KO [(49, W49 F49)] X31 31 Tryz.f31 s31 (G31 (P31 F49)) := fun _ _ _ => by kernel_rfl
theorem ok31 : FnOk D 31 (W31 F31) := oW Tryz.func31 (tc ok49 tn) (k31 F49 )
abbrev T11 : Type 1 := T6
def P11 (F8 : T8) (F29 : T29) (F30 : T30) (F31 : T31) (F32 : T32) : T11 := fun β a b c d f g h i j l m n o p q r s t u v w x y z a1 c1 d1 f1 g1 h1 i1 j1 l1 k =>
 F8 _ a b c d f g h i j l m n o p q r s t u v w x y z a1 c1 d1 f1 g1 h1 i1 j1 l1 fun b1 =>
 br b1 (
 F29 _ f g fun b2 =>
 br b2 (
 F30 _ a b c d fun b3 =>
 br b3 (
 F31 _ a b c d fun b4 =>
 br b4 (
 br (!h) (
 k true) (
 F32 _ i j l m n o p q r s t u v w x y z a1 c1 d1 f1 g1 fun b5 =>
 k b5)) (
 k false)) (
 k false)) (
 k false)) (
 k false)
def F11 : T11 := P11 F8 F29 F30 F31 F32
abbrev s11 : List (Bool × List CK) := s7
abbrev G11 := G6
abbrev W11 (F : T11) : WT := wrap s11 (G11 F)
theorem k11 (F8 : T8) (F29 : T29) (F30 : T30) (F31 : T31) (F32 : T32) : KO [(8, W8 F8), (29, W29 F29), (30, W30 F30), (31, W31 F31), (32, W32 F32)] noX 11 Tryz.f11 s11 (G11 (P11 F8 F29 F30 F31 F32)) := fun _ _ _ => by kernel_rfl
theorem ok11 : FnOk D 11 (W11 F11) := oW Tryz.func11 (tc ok8 (tc ok29 (tc ok30 (tc ok31 (tc ok32 tn))))) (k11 F8 F29 F30 F31 F32 )
abbrev T4 : Type 1 := T6
def P4 (F5 : T5) (F7 : T7) (F10 : T10) (F11 : T11) (F9 : T9) : T4 := fun β a b c d f g h i j l m n o p q r s t u v w x y z a1 b1 c1 d1 f1 g1 h1 i1 j1 k =>
 F5 _ a b c d f g h i j l m n o p q r s t u v w x y z a1 b1 c1 d1 f1 g1 h1 i1 j1 1048576 fun n1 =>
 br (decide (n1 < 0)) (
 k true) (
 F7 _ a b c d f g h i j l m n o p q r s t u v w x y z a1 b1 c1 d1 f1 g1 h1 i1 j1 fun l2 l3 l4 n5 l6 n7 b8 t9 t10 b11 l12 l13 l14 t15 t16 l17 b18 l19 l20 l21 l22 l23 n24 n25 n26 n27 l28 l29 b30 l31 l32 n33 b34 =>
 F10 _ l2 l3 l4 n5 l6 n7 b8 t9 t10 b11 l12 l13 l14 t15 t16 l17 b18 l19 l20 l21 l22 l23 n24 n25 n26 n27 l28 l29 b30 l31 l32 n33 b34 fun b35 =>
 F7 _ a b c d f g h i j l m n o p q r s t u v w x y z a1 b1 c1 d1 f1 g1 h1 i1 j1 fun l36 l37 l38 n39 l40 n41 b42 t43 t44 b45 l46 l47 l48 t49 t50 l51 b52 l53 l54 l55 l56 l57 n58 n59 n60 n61 l62 l63 b64 l65 l66 n67 b68 =>
 F11 _ l36 l37 l38 n39 l40 n41 b42 t43 t44 b45 l46 l47 l48 t49 t50 l51 b52 l53 l54 l55 l56 l57 n58 n59 n60 n61 l62 l63 b64 l65 l66 n67 b68 fun b69 =>
 br (!(b69 == b35)) (
 k false) (
 F7 _ a b c d f g h i j l m n o p q r s t u v w x y z a1 b1 c1 d1 f1 g1 h1 i1 j1 fun l70 l71 l72 n73 l74 n75 b76 t77 t78 b79 l80 l81 l82 t83 t84 l85 b86 l87 l88 l89 l90 l91 n92 n93 n94 n95 l96 l97 b98 l99 l100 n101 b102 =>
 F9 _ l36 l37 l38 n39 l40 n41 b42 t43 t44 b45 l46 l47 l48 t49 t50 l51 b52 l53 l54 l55 l56 l57 n58 n59 n60 n61 l62 l63 b64 l65 l66 n67 b68 l70 l71 l72 n73 l74 n75 b76 t77 t78 b79 l80 l81 l82 t83 t84 l85 b86 l87 l88 l89 l90 l91 n92 n93 n94 n95 l96 l97 b98 l99 l100 n101 b102 fun b103 =>
 br (!b103) (
 k false) (
 k true)))
def F4 : T4 := P4 F5 F7 F10 F11 F9
abbrev s4 : List (Bool × List CK) := s7
abbrev G4 := G6
abbrev W4 (F : T4) : WT := wrap s4 (G4 F)
theorem k4 (F5 : T5) (F7 : T7) (F10 : T10) (F11 : T11) (F9 : T9) : KO [(5, W5 F5), (7, W7 F7), (10, W10 F10), (11, W11 F11), (9, W9 F9)] noX 4 Tryz.f4 s4 (G4 (P4 F5 F7 F10 F11 F9)) := fun _ _ _ => by kernel_rfl
theorem ok4 : FnOk D 4 (W4 F4) := oW Tryz.func4 (tc ok5 (tc ok7 (tc ok10 (tc ok11 (tc ok9 tn))))) (k4 F5 F7 F10 F11 F9 )
end
end Go.Am

/-
  What laws.sz..S, laws.to..S and laws.eq..S compute on a list of structures, told once for all structures.
-/
import Derived.Test.YthncjpkjmgmdlaaGreatqsAmCfg
import Derived.Test.YthncjpkjmgmdlaaGreatqsAmEvOk2
import Derived.KernelRfl
import Derived.Test.YthncjpkjmgmdlaaGreatqsFlp0
import Derived.Test.YthncjpkjmgmdlaaGreatqsAmTyped
import Derived.Test.YthncjpkjmgmdlaaGreatqsAmPure
section
set_option maxRecDepth 10000
set_option linter.unusedVariables false
namespace Go.Am
open Go Go.Proofs
noncomputable section
abbrev T206 : Type 1 := T70
def P206 (F232 : T232) : T206 := fun β a b k =>
 br ((a.length : Int) != (b.length : Int)) (
 k false) (
 whileK (fun s1 =>
 br (decide ((lI s1 2) < ((lL s1 0).length : Int))) (
 chk (0 ≤ (lI s1 2)) <|
 idx true q4 (lL s1 0) ((lI s1 2).toNat) fun (e2 : r9_) =>
 chk (0 ≤ (lI s1 2)) <|
 idx true q4 (lL s1 1) ((lI s1 2).toNat) fun (e3 : r9_) =>
 F232 _ e2.1 e2.2.1 e2.2.2.1 e2.2.2.2.1 e2.2.2.2.2.1 e2.2.2.2.2.2.1 e2.2.2.2.2.2.2.1 e2.2.2.2.2.2.2.2.1 e2.2.2.2.2.2.2.2.2.1 e2.2.2.2.2.2.2.2.2.2.1 e3.1 e3.2.1 e3.2.2.1 e3.2.2.2.1 e3.2.2.2.2.1 e3.2.2.2.2.2.1 e3.2.2.2.2.2.2.1 e3.2.2.2.2.2.2.2.1 e3.2.2.2.2.2.2.2.2.1 e3.2.2.2.2.2.2.2.2.2.1 fun b4 =>
 br (!b4) (
 some (.inr (0, [.b false]))) (
 some (.inl [.l (lL s1 0), .l (lL s1 1), .i (IntKind.wrap .i64 ((lI s1 2) + 1))]))) (
 some (.inr (1, [])))) [.l a, .l b, .i 0] fun r5 =>
 if r5.1 = 0 then
 k (lB r5.2 0)
 else
 k true)
def F206 : T206 := P206 F232
def X206 : Exits := fun i => lookN i [] [(4, [(.ret, xk 27 [(4, .bool false)] []), (.exit 0, xk 27 [] [])])]
abbrev s206 : List (Bool × List CK) := [(false, [.sl 10 true]), (false, [.sl 10 true])]
def G206 (F : T206) (β : Type) (e : argsT s206) (k : V → Option β) : Option β := F β e.1.1 e.2.1.1 (fun y1 => k (.bool y1))
abbrev W206 (F : T206) : WT := wrap s206 (G206 F)
theorem k206 (F232 : T232) : KO [(232, W232 F232)] X206 206 Tryz.f206 s206 (G206 (P206 F232)) := fun _ _ _ => by kernel_rfl
theorem ok206 : FnOk D 206 (W206 F206) := oW Tryz.func206 (tc ok232 tn) (k206 F232 )
abbrev T169 : Type 1 := T70
def P169 (F206 : T206) : T169 := fun β a b k =>
 F206 _ a b fun b1 =>
 br (!b1) (
 k false) (
 k true)
def F169 : T169 := P169 F206
abbrev s169 : List (Bool × List CK) := [(true, [.sl 10 true]), (true, [.sl 10 true])]
def G169 (F : T169) (β : Type) (e : argsT s169) (k : V → Option β) : Option β := F β e.1.1 e.2.1.1 (fun y1 => k (.bool y1))
abbrev W169 (F : T169) : WT := wrap s169 (G169 F)
theorem k169 (F206 : T206) : KO [(206, W206 F206)] noX 169 Tryz.f169 s169 (G169 (P169 F206)) := fun _ _ _ => by kernel_rfl
theorem ok169 : FnOk D 169 (W169 F169) := oW Tryz.func169 (tc ok206 tn) (k169 F206 )
abbrev T207 : Type 1 := (β : Type) → LU → LU → LU → Bool → LU → LU → LU → Bool → (Bool → Option β) → Option β
def P207 (F63 : T63) : T207 := fun β a b c d f g h i k =>
 br (!(a == f)) (
 k false) (
 F63 _ b c g h fun b1 =>
 br (!b1) (
 k false) (
 br (!(d == i)) (
 k false) (
 k true)))
def F207 : T207 := P207 F63
abbrev s207 : List (Bool × List CK) := [(true, q15), (true, q15)]
def G207 (F : T207) (β : Type) (e : argsT s207) (k : V → Option β) : Option β := F β e.1.1 e.1.2.1 e.1.2.2.1 e.1.2.2.2.1 e.2.1.1 e.2.1.2.1 e.2.1.2.2.1 e.2.1.2.2.2.1 (fun y1 => k (.bool y1))
abbrev W207 (F : T207) : WT := wrap s207 (G207 F)
theorem k207 (F63 : T63) : KO [(63, W63 F63)] noX 207 Tryz.f207 s207 (G207 (P207 F63)) := fun _ _ _ => by kernel_rfl
theorem ok207 : FnOk D 207 (W207 F207) := oW Tryz.func207 (tc ok63 tn) (k207 F63 )
abbrev T170 : Type 1 := T70
def P170 (F207 : T207) : T170 := fun β a b k =>
 br ((a.length : Int) != (b.length : Int)) (
 k false) (
 whileK (fun s1 =>
 br (decide ((lI s1 2) < ((lL s1 0).length : Int))) (
 chk (0 ≤ (lI s1 2)) <|
 idx true q15 (lL s1 0) ((lI s1 2).toNat) fun (e2 : r8_) =>
 chk (0 ≤ (lI s1 2)) <|
 idx true q15 (lL s1 1) ((lI s1 2).toNat) fun (e3 : r8_) =>
 F207 _ e2.1 e2.2.1 e2.2.2.1 e2.2.2.2.1 e3.1 e3.2.1 e3.2.2.1 e3.2.2.2.1 fun b4 =>
 br (!b4) (
 some (.inr (0, [.b false]))) (
 some (.inl [.l (lL s1 0), .l (lL s1 1), .i (IntKind.wrap .i64 ((lI s1 2) + 1))]))) (
 some (.inr (1, [])))) [.l a, .l b, .i 0] fun r5 =>
 if r5.1 = 0 then
 k (lB r5.2 0)
 else
 k true)
def F170 : T170 := P170 F207
def X170 : Exits := fun i => lookN i [] [(4, [(.ret, xk 27 [(4, .bool false)] []), (.exit 0, xk 27 [] [])])]
abbrev s170 : List (Bool × List CK) := [(false, [.sl 4 true]), (false, [.sl 4 true])]
def G170 (F : T170) (β : Type) (e : argsT s170) (k : V → Option β) : Option β := F β e.1.1 e.2.1.1 (fun y1 => k (.bool y1))
abbrev W170 (F : T170) : WT := wrap s170 (G170 F)
theorem k170 (F207 : T207) : KO [(207, W207 F207)] X170 170 Tryz.f170 s170 (G170 (P170 F207)) := fun _ _ _ => by kernel_rfl
theorem ok170 : FnOk D 170 (W170 F170) := oW Tryz.func170 (tc ok207 tn) (k170 F207 )
abbrev T102 : Type 1 := (β : Type) → LsV → LsV → LsV → Int → LsV → LsV → LsV → Int → (Bool → Option β) → Option β
def P102 (F94 : T94) (F169 : T169) (F170 : T170) : T102 := fun β a b c d f g h i k =>
 F94 _ a f fun b1 =>
 br (!b1) (
 k false) (
 F169 _ b g fun b2 =>
 br (!b2) (
 k false) (
 F170 _ c h fun b3 =>
 br (!b3) (
 k false) (
 br (d != i) (
 k false) (
 k true))))
def F102 : T102 := P102 F94 F169 F170
abbrev s102 : List (Bool × List CK) := [(true, q12), (true, q12)]
def G102 (F : T102) (β : Type) (e : argsT s102) (k : V → Option β) : Option β := F β e.1.1 e.1.2.1 e.1.2.2.1 e.1.2.2.2.1 e.2.1.1 e.2.1.2.1 e.2.1.2.2.1 e.2.1.2.2.2.1 (fun y1 => k (.bool y1))
abbrev W102 (F : T102) : WT := wrap s102 (G102 F)
theorem k102 (F94 : T94) (F169 : T169) (F170 : T170) : KO [(94, W94 F94), (169, W169 F169), (170, W170 F170)] noX 102 Tryz.f102 s102 (G102 (P102 F94 F169 F170)) := fun _ _ _ => by kernel_rfl
theorem ok102 : FnOk D 102 (W102 F102) := oW Tryz.func102 (tc ok94 (tc ok169 (tc ok170 tn))) (k102 F94 F169 F170 )
abbrev T158 : Type 1 := (β : Type) → LU → LU → Int → Int → LU → Int → Bool → LU → LU → LU → Int → Int → LU → Int → Bool → LU → (Bool → Option β) → Option β
def P158 (F63 : T63) (F196 : T196) : T158 := fun β a b c d f g h i j l m n o p q r k =>
 F63 _ a b j l fun b1 =>
 br (!b1) (
 k false) (
 F196 _ c d f g h i m n o p q r fun b2 =>
 br (!b2) (
 k false) (
 k true))
def F158 : T158 := P158 F63 F196
abbrev s158 : List (Bool × List CK) := [(true, q6), (true, q6)]
def G158 (F : T158) (β : Type) (e : argsT s158) (k : V → Option β) : Option β := let a:=e.1;let b:=a.2;let c:=b.2;let d:=c.2;let f:=d.2;let g:=f.2;let h:=g.2;let i:=h.2;let j:=e.2.1;let l:=j.2;let m:=l.2;let n:=m.2;let o:=n.2;let p:=o.2;let q:=p.2;let r:=q.2;F β a.1 b.1 c.1 d.1 f.1 g.1 h.1 i.1 j.1 l.1 m.1 n.1 o.1 p.1 q.1 r.1 (fun y1 => k (.bool y1))
abbrev W158 (F : T158) : WT := wrap s158 (G158 F)
theorem k158 (F63 : T63) (F196 : T196) : KO [(63, W63 F63), (196, W196 F196)] noX 158 Tryz.f158 s158 (G158 (P158 F63 F196)) := fun _ _ _ => by kernel_rfl
theorem ok158 : FnOk D 158 (W158 F158) := oW Tryz.func158 (tc ok63 (tc ok196 tn)) (k158 F63 F196 )
abbrev T93 : Type 1 := T70
def P93 (F158 : T158) : T93 := fun β a b k =>
 br ((a.length : Int) != (b.length : Int)) (
 k false) (
 whileK (fun s1 =>
 br (decide ((lI s1 2) < ((lL s1 0).length : Int))) (
 chk (0 ≤ (lI s1 2)) <|
 idx true q6 (lL s1 0) ((lI s1 2).toNat) fun (e2 : r6_) =>
 chk (0 ≤ (lI s1 2)) <|
 idx true q6 (lL s1 1) ((lI s1 2).toNat) fun (e3 : r6_) =>
 F158 _ e2.1 e2.2.1 e2.2.2.1 e2.2.2.2.1 e2.2.2.2.2.1 e2.2.2.2.2.2.1 e2.2.2.2.2.2.2.1 e2.2.2.2.2.2.2.2.1 e3.1 e3.2.1 e3.2.2.1 e3.2.2.2.1 e3.2.2.2.2.1 e3.2.2.2.2.2.1 e3.2.2.2.2.2.2.1 e3.2.2.2.2.2.2.2.1 fun b4 =>
 br (!b4) (
 some (.inr (0, [.b false]))) (
 some (.inl [.l (lL s1 0), .l (lL s1 1), .i (IntKind.wrap .i64 ((lI s1 2) + 1))]))) (
 some (.inr (1, [])))) [.l a, .l b, .i 0] fun r5 =>
 if r5.1 = 0 then
 k (lB r5.2 0)
 else
 k true)
def F93 : T93 := P93 F158
def X93 : Exits := fun i => lookN i [] [(4, [(.ret, xk 27 [(4, .bool false)] []), (.exit 0, xk 27 [] [])])]
abbrev s93 : List (Bool × List CK) := s68
abbrev G93 := G68
abbrev W93 (F : T93) : WT := wrap s93 (G93 F)
theorem k93 (F158 : T158) : KO [(158, W158 F158)] X93 93 Tryz.f93 s93 (G93 (P93 F158)) := fun _ _ _ => by kernel_rfl
theorem ok93 : FnOk D 93 (W93 F93) := oW Tryz.func93 (tc ok158 tn) (k93 F158 )
abbrev T25 : Type 1 := (β : Type) → Bool → LU → LU → Bool → LsV → LsV → LsV → LU → LU → LsV → Bool → LsV → LsV → LsV → LsV → LsV → Int → Int → Int → Int → LsV → LsV → Bool → LsV → LsV → Int → Bool → LU → LU → Bool → LsV → LsV → LsV → LU → LU → LsV → Bool → LsV → LsV → LsV → LsV → LsV → Int → Int → Int → Int → LsV → LsV → Bool → LsV → LsV → Int → (Bool → Option β) → Option β
def P25 (F14 : T14) (F93 : T93) (F94 : T94) : T25 := fun β a b c d f g h i j l m n o p q r s t u v w x y z a1 c1 d1 f1 g1 h1 i1 j1 l1 m1 n1 o1 p1 q1 r1 s1 t1 u1 v1 w1 x1 y1 z1 a2 c2 d2 f2 g2 k =>
 br (!(a == d1)) (
 k false) (
 F14 _ b c d f g h i j l m n o p q r s t u v w x y f1 g1 h1 i1 j1 l1 m1 n1 o1 p1 q1 r1 s1 t1 u1 v1 w1 x1 y1 z1 a2 c2 fun b1 =>
 br (!b1) (
 k false) (
 F93 _ z d2 fun b2 =>
 br (!b2) (
 k false) (
 F94 _ a1 f2 fun b3 =>
 br (!b3) (
 k false) (
 br (c1 != g2) (
 k false) (
 k true)))))
def F25 : T25 := P25 F14 F93 F94
abbrev s25 : List (Bool × List CK) := [(true, q3), (true, q3)]
def G25 (F : T25) (β : Type) (e : argsT s25) (k : V → Option β) : Option β := let a:=e.1;let b:=a.2;let c:=b.2;let d:=c.2;let f:=d.2;let g:=f.2;let h:=g.2;let i:=h.2;let j:=i.2;let l:=j.2;let m:=l.2;let n:=m.2;let o:=n.2;let p:=o.2;let q:=p.2;let r:=q.2;let s:=r.2;let t:=s.2;let u:=t.2;let v:=u.2;let w:=v.2;let x:=w.2;let y:=x.2;let z:=y.2;let a1:=z.2;let b1:=a1.2;let c1:=e.2.1;let d1:=c1.2;let f1:=d1.2;let g1:=f1.2;let h1:=g1.2;let i1:=h1.2;let j1:=i1.2;let l1:=j1.2;let m1:=l1.2;let n1:=m1.2;let o1:=n1.2;let p1:=o1.2;let q1:=p1.2;let r1:=q1.2;let s1:=r1.2;let t1:=s1.2;let u1:=t1.2;let v1:=u1.2;let w1:=v1.2;let x1:=w1.2;let y1:=x1.2;let z1:=y1.2;let a2:=z1.2;let b2:=a2.2;let c2:=b2.2;let d2:=c2.2;F β a.1 b.1 c.1 d.1 f.1 g.1 h.1 i.1 j.1 l.1 m.1 n.1 o.1 p.1 q.1 r.1 s.1 t.1 u.1 v.1 w.1 x.1 y.1 z.1 a1.1 b1.1 c1.1 d1.1 f1.1 g1.1 h1.1 i1.1 j1.1 l1.1 m1.1 n1.1 o1.1 p1.1 q1.1 r1.1 s1.1 t1.1 u1.1 v1.1 w1.1 x1.1 y1.1 z1.1 a2.1 b2.1 c2.1 d2.1 (fun y1 => k (.bool y1))
abbrev W25 (F : T25) : WT := wrap s25 (G25 F)
theorem k25 (F14 : T14) (F93 : T93) (F94 : T94) : KO [(14, W14 F14), (93, W93 F93), (94, W94 F94)] noX 25 Tryz.f25 s25 (G25 (P25 F14 F93 F94)) := fun _ _ _ => by kernel_rfl
theorem ok25 : FnOk D 25 (W25 F25) := oW Tryz.func25 (tc ok14 (tc ok93 (tc ok94 tn))) (k25 F14 F93 F94 )
abbrev T33 : Type 1 := (β : Type) → LsV → LsV → LsV → Int → LsV → Int → Bool → LU → LU → Bool → LsV → LsV → LsV → LU → LU → LsV → Bool → LsV → LsV → LsV → LsV → LsV → Int → Int → Int → Int → LsV → LsV → Bool → LsV → LsV → Int → Bool → LsV → LsV → LsV → Int → LsV → Int → Bool → LU → LU → Bool → LsV → LsV → LsV → LU → LU → LsV → Bool → LsV → LsV → LsV → LsV → LsV → Int → Int → Int → Int → LsV → LsV → Bool → LsV → LsV → Int → Bool → (Bool → Option β) → Option β
def P33 (F102 : T102) (F13 : T13) (F25 : T25) : T33 := fun β a b c d f g h i j l m n o p q r s t u v w x y z a1 c1 d1 f1 g1 h1 i1 j1 l1 m1 n1 o1 p1 q1 r1 s1 t1 u1 v1 w1 x1 y1 z1 a2 c2 d2 f2 g2 h2 i2 j2 l2 m2 n2 o2 p2 q2 r2 s2 t2 u2 v2 k =>
 F102 _ a b c d m1 n1 o1 p1 fun b1 =>
 br (!b1) (
 k false) (
 F13 _ f g q1 r1 fun b2 =>
 br (!b2) (
 k false) (
 F25 _ h i j l m n o p q r s t u v w x y z a1 c1 d1 f1 g1 h1 i1 j1 s1 t1 u1 v1 w1 x1 y1 z1 a2 c2 d2 f2 g2 h2 i2 j2 l2 m2 n2 o2 p2 q2 r2 s2 t2 u2 fun b3 =>
 br (!b3) (
 k false) (
 br (!(l1 == v2)) (
 k false) (
 k true))))
def F33 : T33 := P33 F102 F13 F25
abbrev s33 : List (Bool × List CK) := [(true, q1), (true, q1)]
def G33 (F : T33) (β : Type) (e : argsT s33) (k : V → Option β) : Option β := let a:=e.1;let b:=a.2;let c:=b.2;let d:=c.2;let f:=d.2;let g:=f.2;let h:=g.2;let i:=h.2;let j:=i.2;let l:=j.2;let m:=l.2;let n:=m.2;let o:=n.2;let p:=o.2;let q:=p.2;let r:=q.2;let s:=r.2;let t:=s.2;let u:=t.2;let v:=u.2;let w:=v.2;let x:=w.2;let y:=x.2;let z:=y.2;let a1:=z.2;let b1:=a1.2;let c1:=b1.2;let d1:=c1.2;let f1:=d1.2;let g1:=f1.2;let h1:=g1.2;let i1:=h1.2;let j1:=i1.2;let l1:=e.2.1;let m1:=l1.2;let n1:=m1.2;let o1:=n1.2;let p1:=o1.2;let q1:=p1.2;let r1:=q1.2;let s1:=r1.2;let t1:=s1.2;let u1:=t1.2;let v1:=u1.2;let w1:=v1.2;let x1:=w1.2;let y1:=x1.2;let z1:=y1.2;let a2:=z1.2;let b2:=a2.2;let c2:=b2.2;let d2:=c2.2;let f2:=d2.2;let g2:=f2.2;let h2:=g2.2;let i2:=h2.2;let j2:=i2.2;let l2:=j2.2;let m2:=l2.2;let n2:=m2.2;let o2:=n2.2;let p2:=o2.2;let q2:=p2.2;let r2:=q2.2;let s2:=r2.2;let t2:=s2.2;F β a.1 b.1 c.1 d.1 f.1 g.1 h.1 i.1 j.1 l.1 m.1 n.1 o.1 p.1 q.1 r.1 s.1 t.1 u.1 v.1 w.1 x.1 y.1 z.1 a1.1 b1.1 c1.1 d1.1 f1.1 g1.1 h1.1 i1.1 j1.1 l1.1 m1.1 n1.1 o1.1 p1.1 q1.1 r1.1 s1.1 t1.1 u1.1 v1.1 w1.1 x1.1 y1.1 z1.1 a2.1 b2.1 c2.1 d2.1 f2.1 g2.1 h2.1 i2.1 j2.1 l2.1 m2.1 n2.1 o2.1 p2.1 q2.1 r2.1 s2.1 t2.1 (fun y1 => k (.bool y1))
abbrev W33 (F : T33) : WT := wrap s33 (G33 F)
theorem k33 (F102 : T102) (F13 : T13) (F25 : T25) : KO [(102, W102 F102), (13, W13 F13), (25, W25 F25)] noX 33 Tryz.f33 s33 (G33 (P33 F102 F13 F25)) := fun _ _ _ => by kernel_rfl
theorem ok33 : FnOk D 33 (W33 F33) := oW Tryz.func33 (tc ok102 (tc ok13 (tc ok25 tn))) (k33 F102 F13 F25 )
abbrev T200 : Type 1 := T58
def P200 : T200 := fun β l k =>
 whileK (fun s1 =>
 br (decide ((lI s1 2) < ((lL s1 0).length : Int))) (
 chk (0 ≤ (lI s1 2)) <|
 idx true [.str, .sl 7 true] (lL s1 0) ((lI s1 2).toNat) fun (e2 : r12_) =>
 chk (0 ≤ (lI s1 2)) <|
 idx true [.str, .sl 7 true] (lL s1 0) ((lI s1 2).toNat) fun (e3 : r12_) =>
 chk ((([] : LsV).length + e3.2.1.length) * 80 ≤ 140737488355328 ∧ ([] : LsV).length + e3.2.1.length ≤ 140737488355328) <|
 chk (((lL s1 1).length + ([.agg [.str e2.1, .sl 7 true (([] : LsV) ++ e3.2.1)]] : LsV).length) * 40 ≤ 140737488355328 ∧ (lL s1 1).length + ([.agg [.str e2.1, .sl 7 true (([] : LsV) ++ e3.2.1)]] : LsV).length ≤ 140737488355328) <|
 some (.inl [.l (lL s1 0), .l ((lL s1 1) ++ ([.agg [.str e2.1, .sl 7 true (([] : LsV) ++ e3.2.1)]] : LsV)), .i (IntKind.wrap .i64 ((lI s1 2) + 1))])) (
 some (.inr (0, [.l (lL s1 1)])))) [.l l, .l [], .i 0] fun r4 =>
 k (lL r4.2 0)
def F200 : T200 := P200
def X200 : Exits := fun i => lookN i [] [(3, [(.exit 0, xk 29 [(3, .own 1000000 2 .clean [])] [])])]
abbrev s200 : List (Bool × List CK) := s90
abbrev G200 := G90
abbrev W200 (F : T200) : WT := wrap s200 (G200 F)
theorem k200 : KO [] X200 200 Tryz.f200 s200 (G200 (P200)) := fun _ _ _ => by kernel_rfl
theorem ok200 : FnOk D 200 (W200 F200) := oW Tryz.func200 (tn) (k200 )
abbrev T201 : Type 1 := T58
def P201 : T201 := fun β a k =>
 chk ((([] : LsV).length + a.length) * 120 ≤ 140737488355328 ∧ ([] : LsV).length + a.length ≤ 140737488355328) <|
 k (([] : LsV) ++ a)
def F201 : T201 := P201
abbrev s201 : List (Bool × List CK) := s165
abbrev G201 := G165
abbrev W201 (F : T201) : WT := wrap s201 (G201 F)
theorem k201 : KO [] noX 201 Tryz.f201 s201 (G201 (P201)) := fun _ _ _ => by kernel_rfl
theorem ok201 : FnOk D 201 (W201 F201) := oW Tryz.func201 (tn) (k201 )
abbrev T163 : Type 1 := T100
def P163 (F200 : T200) (F201 : T201) : T163 := fun β b c a d k =>
 F200 _ b fun l1 =>
 F201 _ c fun l2 =>
 chk ((([] : LsV).length + a.length) * 56 ≤ 140737488355328 ∧ ([] : LsV).length + a.length ≤ 140737488355328) <|
 k l1 l2 (([] : LsV) ++ a) d
def F163 : T163 := P163 F200 F201
abbrev s163 : List (Bool × List CK) := s100
abbrev G163 := G100
abbrev W163 (F : T163) : WT := wrap s163 (G163 F)
theorem k163 (F200 : T200) (F201 : T201) : KO [(200, W200 F200), (201, W201 F201)] noX 163 Tryz.f163 s163 (G163 (P163 F200 F201)) := fun _ _ _ => by kernel_rfl
theorem ok163 : FnOk D 163 (W163 F163) := oW Tryz.func163 (tc ok200 (tc ok201 tn)) (k163 F200 F201 )
abbrev T164 : Type 1 := T22
def P164 (F48 : T48) (F200 : T200) : T164 := fun β b c d f g h i j l m n o p q r s t u v w x y z a a1 b1 k =>
 F48 _ c d f g h i j l m n o p q r s t u v w x y z fun t1 t2 b3 l4 l5 l6 t7 t8 l9 b10 l11 l12 l13 l14 l15 n16 n17 n18 n19 l20 l21 b22 =>
 chk ((([] : LsV).length + a.length) * 96 ≤ 140737488355328 ∧ ([] : LsV).length + a.length ≤ 140737488355328) <|
 F200 _ a1 fun l23 =>
 k b t1 t2 b3 l4 l5 l6 t7 t8 l9 b10 l11 l12 l13 l14 l15 n16 n17 n18 n19 l20 l21 b22 (([] : LsV) ++ a) l23 b1
def F164 : T164 := P164 F48 F200
abbrev s164 : List (Bool × List CK) := s22
abbrev G164 := G22
abbrev W164 (F : T164) : WT := wrap s164 (G164 F)
theorem k164 (F48 : T48) (F200 : T200) : KO [(48, W48 F48), (200, W200 F200)] noX 164 Tryz.f164 s164 (G164 (P164 F48 F200)) := fun _ _ _ => by kernel_rfl
theorem ok164 : FnOk D 164 (W164 F164) := oW Tryz.func164 (tc ok48 (tc ok200 tn)) (k164 F48 F200 )
abbrev T99 : Type 1 := T31
def P99 (F163 : T163) (F46 : T46) (F164 : T164) : T99 := fun β a b c d f g h i j l m n o p q r s t u v w x y z a1 b1 c1 d1 f1 g1 h1 i1 j1 k =>
 F163 _ a b c d fun l1 l2 l3 n4 =>
 F46 _ f g fun l5 n6 =>
 F164 _ h i j l m n o p q r s t u v w x y z a1 b1 c1 d1 f1 g1 h1 i1 fun b7 t8 t9 b10 l11 l12 l13 t14 t15 l16 b17 l18 l19 l20 l21 l22 n23 n24 n25 n26 l27 l28 b29 l30 l31 n32 =>
 k l1 l2 l3 n4 l5 n6 b7 t8 t9 b10 l11 l12 l13 t14 t15 l16 b17 l18 l19 l20 l21 l22 n23 n24 n25 n26 l27 l28 b29 l30 l31 n32 j1
def F99 : T99 := P99 F163 F46 F164
abbrev s99 : List (Bool × List CK) := s31
abbrev G99 := G31
abbrev W99 (F : T99) : WT := wrap s99 (G99 F)
theorem k99 (F163 : T163) (F46 : T46) (F164 : T164) : KO [(163, W163 F163), (46, W46 F46), (164, W164 F164)] noX 99 Tryz.f99 s99 (G99 (P99 F163 F46 F164)) := fun _ _ _ => by kernel_rfl
theorem ok99 : FnOk D 99 (W99 F99) := oW Tryz.func99 (tc ok163 (tc ok46 (tc ok164 tn))) (k99 F163 F46 F164 )
abbrev T30 : Type 1 := T31
def P30 (F99 : T99) : T30 := fun β a b c d f g h i j l m n o p q r s t u v w x y z a1 b1 c1 d1 f1 g1 h1 i1 j1 k =>
 F99 _ a b c d f g h i j l m n o p q r s t u v w x y z a1 b1 c1 d1 f1 g1 h1 i1 j1 fun l1 l2 l3 n4 l5 n6 b7 t8 t9 b10 l11 l12 l13 t14 t15 l16 b17 l18 l19 l20 l21 l22 n23 n24 n25 n26 l27 l28 b29 l30 l31 n32 b33 =>
 k l1 l2 l3 n4 l5 n6 false [] [] false [] [] [] [] [] [] false [] [] [] [] [] 0 0 0 0 [] [] false [] [] 0 false
def F30 : T30 := P30 F99
abbrev s30 : List (Bool × List CK) := s31
abbrev G30 := G31
abbrev W30 (F : T30) : WT := wrap s30 (G30 F)
theorem k30 (F99 : T99) : KO [(99, W99 F99)] noX 30 Tryz.f30 s30 (G30 (P30 F99)) := fun _ _ _ => by kernel_rfl
theorem ok30 : FnOk D 30 (W30 F30) := oW Tryz.func30 (tc ok99 tn) (k30 F99 )
abbrev T204 : Type 1 := T58
def P204 : T204 := fun β l k =>
 whileK (fun s1 =>
 br (decide ((lI s1 3) < (lI s1 2))) (
 chk (0 ≤ (lI s1 3)) <|
 idx true [.str, .sl 7 true] (lL s1 1) ((lI s1 3).toNat) fun (e2 : r12_) =>
 chk ((([] : LsV).length + e2.2.1.length) * 80 ≤ 140737488355328 ∧ ([] : LsV).length + e2.2.1.length ≤ 140737488355328) <|
 chk (((lL s1 0).length + ([.agg [.str e2.1, .sl 7 true (([] : LsV) ++ e2.2.1)]] : LsV).length) * 40 ≤ 140737488355328 ∧ (lL s1 0).length + ([.agg [.str e2.1, .sl 7 true (([] : LsV) ++ e2.2.1)]] : LsV).length ≤ 140737488355328) <|
 some (.inl [.l ((lL s1 0) ++ ([.agg [.str e2.1, .sl 7 true (([] : LsV) ++ e2.2.1)]] : LsV)), .l (lL s1 1), .i (lI s1 2), .i (IntKind.wrap .i64 ((lI s1 3) + 1))])) (
 some (.inr (0, [.l (lL s1 0)])))) [.l [], .l l, .i (l.length : Int), .i 0] fun r3 =>
 k (lL r3.2 0)
def F204 : T204 := P204
def X204 : Exits := fun i => lookN i [] [(3, [(.exit 0, xk 25 [(3, .own 1000000 2 .clean [])] [])])]
abbrev s204 : List (Bool × List CK) := s90
abbrev G204 := G90
abbrev W204 (F : T204) : WT := wrap s204 (G204 F)
theorem k204 : KO [] X204 204 Tryz.f204 s204 (G204 (P204)) := fun _ _ _ => by kernel_rfl
theorem ok204 : FnOk D 204 (W204 F204) := oW Tryz.func204 (tn) (k204 )
abbrev T205 : Type 1 := T58
def P205 : T205 := fun β a k =>
 chk ((([] : LsV).length + a.length) * 120 ≤ 140737488355328 ∧ ([] : LsV).length + a.length ≤ 140737488355328) <|
 k (([] : LsV) ++ a)
def F205 : T205 := P205
abbrev s205 : List (Bool × List CK) := s165
abbrev G205 := G165
abbrev W205 (F : T205) : WT := wrap s205 (G205 F)
theorem k205 : KO [] noX 205 Tryz.f205 s205 (G205 (P205)) := fun _ _ _ => by kernel_rfl
theorem ok205 : FnOk D 205 (W205 F205) := oW Tryz.func205 (tn) (k205 )
abbrev T167 : Type 1 := T100
def P167 (F204 : T204) (F205 : T205) : T167 := fun β b c a d k =>
 F204 _ b fun l1 =>
 F205 _ c fun l2 =>
 chk ((([] : LsV).length + a.length) * 56 ≤ 140737488355328 ∧ ([] : LsV).length + a.length ≤ 140737488355328) <|
 k l1 l2 (([] : LsV) ++ a) d
def F167 : T167 := P167 F204 F205
abbrev s167 : List (Bool × List CK) := s100
abbrev G167 := G100
abbrev W167 (F : T167) : WT := wrap s167 (G167 F)
theorem k167 (F204 : T204) (F205 : T205) : KO [(204, W204 F204), (205, W205 F205)] noX 167 Tryz.f167 s167 (G167 (P167 F204 F205)) := fun _ _ _ => by kernel_rfl
theorem ok167 : FnOk D 167 (W167 F167) := oW Tryz.func167 (tc ok204 (tc ok205 tn)) (k167 F204 F205 )
abbrev T168 : Type 1 := T22
def P168 (F61 : T61) (F204 : T204) : T168 := fun β b c d f g h i j l m n o p q r s t u v w x y z a a1 b1 k =>
 F61 _ c d f g h i j l m n o p q r s t u v w x y z fun t1 t2 b3 l4 l5 l6 t7 t8 l9 b10 l11 l12 l13 l14 l15 n16 n17 n18 n19 l20 l21 b22 =>
 chk ((([] : LsV).length + a.length) * 96 ≤ 140737488355328 ∧ ([] : LsV).length + a.length ≤ 140737488355328) <|
 F204 _ a1 fun l23 =>
 k b t1 t2 b3 l4 l5 l6 t7 t8 l9 b10 l11 l12 l13 l14 l15 n16 n17 n18 n19 l20 l21 b22 (([] : LsV) ++ a) l23 b1
def F168 : T168 := P168 F61 F204
abbrev s168 : List (Bool × List CK) := s22
abbrev G168 := G22
abbrev W168 (F : T168) : WT := wrap s168 (G168 F)
theorem k168 (F61 : T61) (F204 : T204) : KO [(61, W61 F61), (204, W204 F204)] noX 168 Tryz.f168 s168 (G168 (P168 F61 F204)) := fun _ _ _ => by kernel_rfl
theorem ok168 : FnOk D 168 (W168 F168) := oW Tryz.func168 (tc ok61 (tc ok204 tn)) (k168 F61 F204 )
abbrev T101 : Type 1 := T31
def P101 (F167 : T167) (F59 : T59) (F168 : T168) : T101 := fun β a b c d f g h i j l m n o p q r s t u v w x y z a1 b1 c1 d1 f1 g1 h1 i1 j1 k =>
 F167 _ a b c d fun l1 l2 l3 n4 =>
 F59 _ f g fun l5 n6 =>
 F168 _ h i j l m n o p q r s t u v w x y z a1 b1 c1 d1 f1 g1 h1 i1 fun b7 t8 t9 b10 l11 l12 l13 t14 t15 l16 b17 l18 l19 l20 l21 l22 n23 n24 n25 n26 l27 l28 b29 l30 l31 n32 =>
 k l1 l2 l3 n4 l5 n6 b7 t8 t9 b10 l11 l12 l13 t14 t15 l16 b17 l18 l19 l20 l21 l22 n23 n24 n25 n26 l27 l28 b29 l30 l31 n32 j1
def F101 : T101 := P101 F167 F59 F168
abbrev s101 : List (Bool × List CK) := s31
abbrev G101 := G31
abbrev W101 (F : T101) : WT := wrap s101 (G101 F)
theorem k101 (F167 : T167) (F59 : T59) (F168 : T168) : KO [(167, W167 F167), (59, W59 F59), (168, W168 F168)] noX 101 Tryz.f101 s101 (G101 (P101 F167 F59 F168)) := fun _ _ _ => by kernel_rfl
theorem ok101 : FnOk D 101 (W101 F101) := oW Tryz.func101 (tc ok167 (tc ok59 (tc ok168 tn))) (k101 F167 F59 F168 )
abbrev T32 : Type 1 := T31
def P32 (F101 : T101) : T32 := fun β a b c d f g h i j l m n o p q r s t u v w x y z a1 b1 c1 d1 f1 g1 h1 i1 j1 k =>
 F101 _ a b c d f g h i j l m n o p q r s t u v w x y z a1 b1 c1 d1 f1 g1 h1 i1 j1 fun l1 l2 l3 n4 l5 n6 b7 t8 t9 b10 l11 l12 l13 t14 t15 l16 b17 l18 l19 l20 l21 l22 n23 n24 n25 n26 l27 l28 b29 l30 l31 n32 b33 =>
 k l1 l2 l3 n4 l5 n6 false [] [] false [] [] [] [] [] [] false [] [] [] [] [] 0 0 0 0 [] [] false [] [] 0 false
def F32 : T32 := P32 F101
abbrev s32 : List (Bool × List CK) := s31
abbrev G32 := G31
abbrev W32 (F : T32) : WT := wrap s32 (G32 F)
theorem k32 (F101 : T101) : KO [(101, W101 F101)] noX 32 Tryz.f32 s32 (G32 (P32 F101)) := fun _ _ _ => by kernel_rfl
theorem ok32 : FnOk D 32 (W32 F32) := oW Tryz.func32 (tc ok101 tn) (k32 F101 )
abbrev T97 : Type 1 := (β : Type) → Int → (LU → Option β) → Option β
def P97 : T97 := fun β xk k =>
 br (decide (xk ≤ 0)) (
 k [109, 48]) (
 whileK (fun s1 =>
 br (decide ((lI s1 0) > 0)) (
 strO [.int .u8 (IntKind.wrap .u8 (IntKind.wrap .i64 (48 + (Int.tmod (lI s1 0) 10))))] fun t2 =>
 chk (t2.length + (lS s1 1).length ≤ 9223372036854775807) <|
 some (.inl [.i (IntKind.wrap .i64 (Int.tdiv (lI s1 0) 10)), .s (t2 ++ (lS s1 1))])) (
 some (.inr (0, [.s (lS s1 1)])))) [.i xk, .s []] fun r3 =>
 chk (([109] : LU).length + (lS r3.2 0).length ≤ 9223372036854775807) <|
 k ([109] ++ (lS r3.2 0)))
def F97 : T97 := P97
def X97 : Exits := fun i => lookN i [] [(4, [(.exit 0, xk 20 [(3, .str [])] [])])]
abbrev s97 : List (Bool × List CK) := [(false, [.int .i64])]
def G97 (F : T97) (β : Type) (e : argsT s97) (k : V → Option β) : Option β := F β e.1.1 (fun y1 => k (.str y1))
abbrev W97 (F : T97) : WT := wrap s97 (G97 F)
theorem k97 : KO [] X97 97 Tryz.f97 s97 (G97 (P97)) := fun _ _ _ => by kernel_rfl
theorem ok97 : FnOk D 97 (W97 F97) := oW Tryz.func97 (tn) (k97 )
end
end Go.Am
end
section
set_option linter.unusedVariables false
set_option linter.unusedSimpArgs false
namespace Go.Am
open Go
section
variable {P : Program} {fl : Nat → Bool} {n t e : Nat} {vs : List V}
theorem cn_bool (h : Cn P fl n t vs) (hu : P.underlying t = some .bool) : ∃ b, vs = [.bool b] := by
 cases n with
 | zero => cases h
 | succ n => unfold Cn at h; rw [hu] at h; exact h
theorem cn_int {k : IntKind} (h : Cn P fl n t vs) (hu : P.underlying t = some (.int k)) : ∃ m, vs = [.int k m] ∧ (Lit.int k m).wf = true := by
 cases n with
 | zero => cases h
 | succ n => unfold Cn at h; rw [hu] at h; exact h
theorem cn_str (h : Cn P fl n t vs) (hu : P.underlying t = some .string) : ∃ s, vs = [.str s] ∧ s.length ≤ maxLen := by
 cases n with
 | zero => cases h
 | succ n => unfold Cn at h; rw [hu] at h; exact h
def fieldsC (P : Program) (fl : Nat → Bool) (n : Nat) (vs : List V) : List Field → Prop
 | [] => True
 | f :: fs => Cn P fl n f.type ((vs.drop f.offset).take (P.cellsOf f.type)) ∧ fieldsC P fl n vs fs
theorem cn_struct {fs : Array Field} (h : Cn P fl n t vs) (hu : P.underlying t = some (.struct fs)) : ∃ m, vs.length = P.cellsOf t ∧ fieldsC P fl m vs fs.toList := by
 cases n with
 | zero => cases h
 | succ n =>
  unfold Cn at h
  rw [hu] at h
  refine ⟨n, h.1, ?_⟩
  have : ∀ l : List Field, (∀ f ∈ l, Cn P fl n f.type ((vs.drop f.offset).take (P.cellsOf f.type))) → fieldsC P fl n vs l := by
   intro l
   induction l with
   | nil => intro _; trivial
   | cons f l ih => intro g; exact ⟨g f (by simp), ih (fun f hf => g f (by simp [hf]))⟩
  exact this _ h.2
theorem cn_rows {fs : Array Field} (h : Cn P fl n t vs) (hu : P.underlying t = some (.slice e)) (he : P.underlying e = some (.struct fs)) : ∃ m rows, vs = [.sl (P.cellsOf e) (fl e) rows] ∧ rows.length ≤ maxLen ∧ ∀ r ∈ rows, ∃ us, Cn P fl m e us ∧ r = .agg us := by
 cases n with
 | zero => cases h
 | succ n =>
  unfold Cn at h
  rw [hu] at h
  obtain ⟨rows, h1, h2, h3⟩ := h
  refine ⟨n, rows, h1, h2, fun r hr => ?_⟩
  obtain ⟨us, _, g2, g3⟩ := h3 r hr
  rw [he] at g3
  exact ⟨us, g2, g3⟩
theorem cn_rows1 (h : Cn P fl n t vs) (hu : P.underlying t = some (.slice e)) (he : ∀ fs, P.underlying e ≠ some (.struct fs)) : ∃ m rows, vs = [.sl (P.cellsOf e) (fl e) rows] ∧ rows.length ≤ maxLen ∧ ∀ r ∈ rows, ∃ us, Cn P fl m e us ∧ r = us.headD .undef := by
 cases n with
 | zero => cases h
 | succ n =>
  unfold Cn at h
  rw [hu] at h
  obtain ⟨rows, h1, h2, h3⟩ := h
  refine ⟨n, rows, h1, h2, fun r hr => ?_⟩
  obtain ⟨us, _, g2, g3⟩ := h3 r hr
  refine ⟨us, g2, ?_⟩
  rw [g3]
  cases hd : P.underlying e with
  | none => rfl
  | some d => cases d <;> first | rfl | exact absurd hd (he _)
theorem pack_struct {fs : Array Field} (hu : P.underlying t = some (.struct fs)) : packT P t vs = .agg vs := by unfold packT; rw [hu]
theorem rows_of {T : Type} {ks : List CK} {g : T → cellsT ks} {ok : T → Prop} {l : List V} (h : ∀ r ∈ l, ∃ y, ok y ∧ r = rowEnc true ks (g y)) : ∃ ys, l = rows ks g ys ∧ ∀ y ∈ ys, ok y := by
 induction l with
 | nil => exact ⟨[], rfl, fun y hy => by cases hy⟩
 | cons r l ih =>
  obtain ⟨ys, h1, h2⟩ := ih (fun r hr => h r (by simp [hr]))
  obtain ⟨y, g1, g2⟩ := h r (by simp)
  exact ⟨y :: ys, by rw [g2, h1]; rfl, fun z hz => (List.mem_cons.1 hz).elim (fun e => e ▸ g1) (fun hz => h2 z hz)⟩
theorem rows1_of {T : Type} {kd : CK} {g : T → kd.T} {ok : T → Prop} {l : List V} (h : ∀ r ∈ l, ∃ y, ok y ∧ r = kd.enc (g y)) : ∃ ys, l = rows1 kd g ys ∧ ∀ y ∈ ys, ok y := by
 induction l with
 | nil => exact ⟨[], rfl, fun y hy => by cases hy⟩
 | cons r l ih =>
  obtain ⟨ys, h1, h2⟩ := ih (fun r hr => h r (by simp [hr]))
  obtain ⟨y, g1, g2⟩ := h r (by simp)
  exact ⟨y :: ys, by rw [g2, h1]; rfl, fun z hz => (List.mem_cons.1 hz).elim (fun e => e ▸ g1) (fun hz => h2 z hz)⟩
end
end Go.Am
end
section
set_option linter.unusedVariables false
set_option linter.unusedSimpArgs false
namespace Go.Am
open Go
section
variable {β T : Type} {ks : List CK} {g : T → cellsT ks} {size : T → Nat} {ok : T → Prop} {z : T} {zero : V} {C : Int}
abbrev OLf := Option (List Leaf ⊕ (Nat × List Leaf))
theorem szS_g (F : cellsT ks → Int → (Int → OLf) → OLf) (hF : ∀ y m, 0 ≤ m → m ≤ 1048576 → ok y → ∀ k, F (g y) m k = k (szL m (size y))) (a : List T) (l : Int) (h0 : 0 ≤ l) (h1 : l ≤ 1048576) (h : okL ok a) (k : Int → Option β) :
  br (decide (IntKind.wrap .i64 (l - ((rows ks g a).length : Int)) < 0)) (
   k (-1)) (
   whileK (fun s1 =>
   br (decide ((lI s1 2) < ((lL s1 0).length : Int))) (
   chk (0 ≤ (lI s1 2)) <|
   idx true ks (lL s1 0) ((lI s1 2).toNat) fun e2 =>
   F e2 (lI s1 1) fun n3 =>
   br (decide (n3 < 0)) (
   some (.inr (0, [.i n3, .i (-1)]))) (
   some (.inl [.l (lL s1 0), .i n3, .i (IntKind.wrap .i64 ((lI s1 2) + 1))]))) (
   some (.inr (1, [.i (lI s1 1)])))) [.l (rows ks g a), .i (IntKind.wrap .i64 (l - ((rows ks g a).length : Int))), .i 0] fun (r4 : Nat × List Leaf) =>
   if r4.1 = 0 then
   k (lI r4.2 1)
   else
   k (lI r4.2 0)) = k (szL l (a.length + sumL size a)) := by
 simp only [rows_len]
 refine szCut h0 h1 h.1 (fun m e h0 h1 => ?_)
 rw [e]
 refine while_sz (fun (i : Nat) (m : Int) => ([.l (rows ks g a), .i m, .i (i : Int)] : List Leaf)) a size (fun m => (1, [.i m])) (fun i y m hi hm0 hm1 => ?_) (fun m => brN rirr rfl) (fun m => rfl) h0 h1 rfl
 have hlt : i < a.length := (gs_ hi).1
 have hb := h.1
 unfold maxLen at hb
 rcases @szCase m (size y) with ⟨c, e⟩ | ⟨c, e⟩
 ·exact .inl ⟨_, c, brE (rlt hlt) (chkE (Int.natCast_nonneg _) (idxE (i := i) hi ((hF y m hm0 hm1 (h.2 y (List.mem_of_getElem? hi)) _).trans (brE (by rw [e]; decide) rfl)))), rfl⟩
 ·exact .inr ⟨c, brE (rlt hlt) (chkE (Int.natCast_nonneg _) (idxE (i := i) hi ((hF y m hm0 hm1 (h.2 y (List.mem_of_getElem? hi)) _).trans (brN (by rw [e]; omega) (two (fun m j : Int => (some (Sum.inl ([.l (rows ks g a), .i m, .i j] : List Leaf)) : OLf)) e (wrapS (i := i) (by omega)))))))⟩
theorem toS_g (F : cellsT ks → (List V → OLf) → OLf) (hF : ∀ y, size y ≤ 1048576 → ∀ k, F (g y) k = k (cellsEnc ks (g y))) (hC : C ≤ 134217728 ∧ 0 ≤ C) (hz : zero = rowEnc true ks (g z)) (a : List T) (h : a.length + sumL size a ≤ 1048576) (k : List V → Option β) :
  chk (0 ≤ ((rows ks g a).length : Int) ∧ ((rows ks g a).length : Int) ≤ ((rows ks g a).length : Int) ∧ ((rows ks g a).length : Int) * C ≤ 140737488355328 ∧ ((rows ks g a).length : Int) ≤ 140737488355328) (
   whileK (fun s1 =>
   br (decide ((lI s1 2) < ((lL s1 0).length : Int))) (
   chk (0 ≤ (lI s1 2)) <|
   idx true ks (lL s1 0) ((lI s1 2).toNat) fun e2 =>
   F e2 fun new =>
   chk (0 ≤ (lI s1 2) ∧ (lI s1 2).toNat < (lL s1 1).length) <|
   storeO (lL s1 1) ((lI s1 2).toNat) 0 new fun l10 =>
   some (.inl [.l (lL s1 0), .l l10, .i (IntKind.wrap .i64 ((lI s1 2) + 1))])) (
   some (.inr (0, [.l (lL s1 1)])))) [.l (rows ks g a), .l (List.replicate (((rows ks g a).length : Int).toNat) zero), .i 0] fun (r11 : Nat × List Leaf) =>
   k (lL r11.2 0)) = k (rows ks g a) := by
 have hm : (a.length : Int) * C ≤ 140737488355328 := Int.le_trans (Int.mul_le_mul (show (a.length : Int) ≤ 1048576 by omega) hC.1 hC.2 (by omega)) (by decide)
 simp only [rows_len, whileK, Int.toNat_natCast]
 refine chkE ⟨by omega, by omega, hm, by omega⟩ ?_
 rw [while_each (fun i : Nat => ([.l (rows ks g a), .l (rows ks g (copyS a z i)), .i (i : Int)] : List Leaf)) a (0, [.l (rows ks g a)]) ?h1 ?h2 _ ?hs]
 case hs => rw [← rows_copy0 hz]; rfl
 case h1 =>
  intro i y hi
  have hlt : i < a.length := (gs_ hi).1
  have hl := copyS_len (a := a) (n := z) (i := i) (by omega)
  have hm := sumL_mem (f := size) (List.mem_of_getElem? hi)
  refine brE (rlt hlt) (chkE (Int.natCast_nonneg _) (idxE (i := i) hi ((hF y (by omega) _).trans (chkE ⟨Int.natCast_nonneg _, ?_⟩ (storeE (g := g) (y := y) (i := i) rfl (Nat.lt_of_lt_of_eq hlt hl.symm) ?_)))))
  ·show (Int.toNat (i : Int)) < (rows ks g (copyS a z i)).length
   rw [rows_len]; exact Nat.lt_of_lt_of_eq hlt hl.symm
  ·exact two (fun (c : List T) (j : Int) => (some (Sum.inl ([.l (rows ks g a), .l (rows ks g c), .i j] : List Leaf)) : OLf)) (copyS_set hi) (wrapS (i := i) (by omega))
 case h2 =>
  rw [copyS_end]
  exact brN rirr rfl
 ·rfl
theorem eqS_g [DecidableEq T] (F : cellsT ks → cellsT ks → (Bool → OLf) → OLf) (hF : ∀ x y, ok x → ∀ k, F (g x) (g y) k = k (decide (x = y))) (a b : List T) (h : okL ok a) (k : Bool → Option β) :
  br (((rows ks g a).length : Int) != ((rows ks g b).length : Int)) (
   k false) (
   whileK (fun s1 =>
   br (decide ((lI s1 2) < ((lL s1 0).length : Int))) (
   chk (0 ≤ (lI s1 2)) <|
   idx true ks (lL s1 0) ((lI s1 2).toNat) fun e2 =>
   chk (0 ≤ (lI s1 2)) <|
   idx true ks (lL s1 1) ((lI s1 2).toNat) fun e3 =>
   F e2 e3 fun b4 =>
   br (!b4) (
   some (.inr (0, [.b false]))) (
   some (.inl [.l (lL s1 0), .l (lL s1 1), .i (IntKind.wrap .i64 ((lI s1 2) + 1))]))) (
   some (.inr (1, [])))) [.l (rows ks g a), .l (rows ks g b), .i 0] fun (r5 : Nat × List Leaf) =>
   if r5.1 = 0 then
   k (lB r5.2 0)
   else
   k true) = k (decide (a = b)) := by
 refine eqLen (rows_len ..) (rows_len ..) (fun hl => ?_)
 refine while_eq (fun i : Nat => ([.l (rows ks g a), .l (rows ks g b), .i (i : Int)] : List Leaf)) a b hl (fun i x y hi hx hy => ?_) (brN rirr rfl) rfl rfl rfl
 have hb := h.1
 unfold maxLen at hb
 exact brE (rlt hi) (chkE (Int.natCast_nonneg _) (idxE (i := i) hx (chkE (Int.natCast_nonneg _) (idxE (i := i) hy ((hF x y (h.2 x (List.mem_of_getElem? hx)) _).trans (brB rfl rfl (congrArg (fun j : Int => (some (Sum.inl ([.l (rows ks g a), .l (rows ks g b), .i j] : List Leaf)) : OLf)) (wrapS (i := i) (by omega)))))))))
end
section
variable {P : Program} {fl : Nat → Bool} {n : Nat} {t e c : TypeId} {b : Bool} {vs : List V} {T : Type} {ks : List CK} {g : T → cellsT ks} {ok : T → Prop} {F : T → List V} {fs : Array Field}
theorem fBool (h : Cn P fl n t vs) (hu : P.underlying t = some .bool) : ∃ y : Bool, True ∧ vs = [.bool y] := by
 obtain ⟨y, z⟩ := cn_bool h hu
 exact ⟨y, trivial, z⟩
theorem fInt (h : Cn P fl n t vs) (hu : P.underlying t = some (.int .i64)) : ∃ y : Int, okI y ∧ vs = [.int .i64 y] := by
 obtain ⟨y, z, o⟩ := cn_int h hu
 exact ⟨y, okI_of o, z⟩
theorem fStr (h : Cn P fl n t vs) (hu : P.underlying t = some .string) : ∃ y : List UInt8, okS y ∧ vs = [.str y] := by
 obtain ⟨y, z, o⟩ := cn_str h hu
 exact ⟨y, o, z⟩
theorem fRows (h : Cn P fl n t vs) (hu : P.underlying t = some (.slice e)) (he : P.underlying e = some (.struct fs)) (hc : P.cellsOf e = c) (hb : fl e = b) (ho : ∀ {m : Nat} {us : List V}, Cn P fl m e us → ∃ a : T, ok a ∧ us = F a) (hr : ∀ a, V.agg (F a) = rowEnc true ks (g a)) :
  ∃ y : List T, okL ok y ∧ vs = [.sl c b (rows ks g y)] := by
 obtain ⟨_, r, z, l, w⟩ := cn_rows h hu he
 obtain ⟨y, rfl, v⟩ := rows_of (ks := ks) (g := g) (ok := ok) (fun r hr2 => by
  obtain ⟨us, h1, h2⟩ := w r hr2
  obtain ⟨a, h3, h4⟩ := ho h1
  exact ⟨a, h3, by rw [h2, h4]; exact hr a⟩)
 rw [hc, hb] at z
 exact ⟨y, ⟨by rw [rows_len] at l; exact l, v⟩, z⟩
theorem fStrs (h : Cn P fl n t vs) (hu : P.underlying t = some (.slice e)) (he : P.underlying e = some .string) (hc : P.cellsOf e = c) (hb : fl e = b) : ∃ y : List (List UInt8), okL okS y ∧ vs = [.sl c b (rStr y)] := by
 obtain ⟨_, r, z, l, w⟩ := cn_rows1 h hu (by rw [he]; intro fs hfs; cases hfs)
 obtain ⟨y, rfl, v⟩ := rows1_of (kd := .str) (g := fun e => e) (ok := okS) (fun r hr => by
  obtain ⟨us, h1, h2⟩ := w r hr
  obtain ⟨a, h3, h4⟩ := cn_str h1 he
  exact ⟨a, h4, by rw [h2, h3]; rfl⟩)
 rw [hc, hb] at z
 exact ⟨y, ⟨by rw [rows1_len] at l; exact l, v⟩, z⟩
theorem fInts (h : Cn P fl n t vs) (hu : P.underlying t = some (.slice e)) (he : P.underlying e = some (.int .i64)) (hc : P.cellsOf e = c) (hb : fl e = b) : ∃ y : List Int, okL okI y ∧ vs = [.sl c b (rInt y)] := by
 obtain ⟨_, r, z, l, w⟩ := cn_rows1 h hu (by rw [he]; intro fs hfs; cases hfs)
 obtain ⟨y, rfl, v⟩ := rows1_of (kd := .int .i64) (g := fun e => e) (ok := okI) (fun r hr => by
  obtain ⟨us, h1, h2⟩ := w r hr
  obtain ⟨a, h3, h4⟩ := cn_int h1 he
  exact ⟨a, okI_of h4, by rw [h2, h3]; rfl⟩)
 rw [hc, hb] at z
 exact ⟨y, ⟨by rw [rows1_len] at l; exact l, v⟩, z⟩
theorem glue {us vs ws : List V} {o m c : Nat} (hc : m = c) (h : (us.drop o).take m = vs) (h2 : us.drop (o + c) = ws) : us.drop o = vs ++ ws := by
 subst hc
 rw [← h, ← h2, ← List.drop_drop, List.take_append_drop]
end
end Go.Am
end

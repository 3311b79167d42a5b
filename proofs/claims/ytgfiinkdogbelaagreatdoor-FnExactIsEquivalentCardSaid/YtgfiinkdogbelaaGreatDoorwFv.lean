/-
  Functions of the program, extracted by program (sym.py) out of their code: what each computes, and, by the kernel's reckoning, that the machine's looking form computes just that; so what the machine answers.
-/
import Derived.Test.YtgfiinkdogbelaaGreatDoorwAmCfg
import Derived.Test.YtgfiinkdogbelaaGreatDoorwAmEvOk2
import Derived.KernelRfl
import Derived.Test.YtgfiinkdogbelaaGreatDoorwFvp0
set_option maxRecDepth 10000
set_option linter.unusedVariables false
namespace Go.Am
open Go Go.Proofs Go.Proofs.Tryz
noncomputable section
abbrev T135 := T72
def P135 : T135 := fun M s1 s2 k => br ((s1.length : Int) != (s2.length : Int)) (k false) (whileK (fun s3 => br (decide ((lI s3 3) < (lI s3 2))) (chk (0 <= (lI s3 3)) <| idx true [.str, .str] (lL s3 0) ((lI s3 3).toNat) fun (e4 : r11_) => chk (0 <= (lI s3 3)) <| idx true [.str, .str] (lL s3 1) ((lI s3 3).toNat) fun (e5 : r11_) => br (!((e4.1 == e5.1) && ((e4.2.1 == e5.2.1) && true))) (some (.inr (0, [.b false]))) (some (.inl [.l (lL s3 0), .l (lL s3 1), .i (lI s3 2), .i (IntKind.wrap .i64 ((lI s3 3) + 1))]))) (some (.inr (1, [])))) [.l s1, .l s2, .i (s1.length : Int), .i 0] fun r6 => if r6.1 = 0 then k (lB r6.2 0) else k true)
def F135 : T135 := P135
def X135 : Exits := fun i => lookN i [] [(4, [(.ret, xk 26 [(4, .bool false)] []), (.exit 0, xk 26 [] [])])]
abbrev s135 : LSh := [(false, [.sl 2 true]), (false, [.sl 2 true])]
def G135 (F : T135) : GTy s135 := fun M e k => F M e.1.1 e.2.1.1 (fun y1 => k (.bool y1))
abbrev W135 (F : T135) : WT := wrap s135 (G135 F)
theorem k135 : KO [] X135 135 f135 s135 (G135 (P135)) := fun _ _ _ => by kernel_rfl
theorem ok135 : FnOk D 135 (W135 F135) := oW func135 tn (k135)
abbrev T81 := T73
def P81 (F135 : T135) : T81 := fun M a b c d f g h i k => br (a == f) (br (b == g) (br (c == h) (F135 _ d i fun b1 => k b1) (k false)) (k false)) (k false)
def F81 : T81 := P81 F135
abbrev s81 : LSh := s73
abbrev G81 := G73
abbrev W81 (F : T81) : WT := wrap s81 (G81 F)
theorem k81 (F135 : T135) : KO [(135, W135 F135)] noX 81 f81 s81 (G81 (P81 F135)) := fun _ _ _ => by kernel_rfl
theorem ok81 : FnOk D 81 (W81 F81) := oW func81 (tc ok135 tn) (k81 F135)
abbrev T80c81 : Type 1 := (M : Type) -> LsV -> LsV -> (Bool -> Option M) -> Option M
def P80c81 (F81 : T81) : T80c81 := fun M s1 s2 k => br ((s1.length : Int) != (s2.length : Int)) (k false) (whileK (fun s3 => br (decide ((lI s3 3) < (lI s3 2))) (chk (0 <= (lI s3 3)) <| idx true q7 (lL s3 1) ((lI s3 3).toNat) fun (e4 : LU × LU × Int × LsV × Unit) => chk (0 <= (lI s3 3)) <| idx true q7 (lL s3 0) ((lI s3 3).toNat) fun (e5 : LU × LU × Int × LsV × Unit) => F81 _ e4.1 e4.2.1 e4.2.2.1 e4.2.2.2.1 e5.1 e5.2.1 e5.2.2.1 e5.2.2.2.1 fun b6 => br (!b6) (some (.inr (0, [.b false]))) (some (.inl [.l (lL s3 0), .l (lL s3 1), .i (lI s3 2), .i (IntKind.wrap .i64 ((lI s3 3) + 1))]))) (some (.inr (1, [])))) [.l s2, .l s1, .i (s1.length : Int), .i 0] fun (r7 : Nat × List Leaf) => if r7.1 = 0 then k (lB r7.2 0) else k true)
def F80c81 : T80c81 := P80c81 F81
def X80c81 : Exits := fun i => lookN i [] [(4, [(.ret, xk 32 [(6, .bool false)] []), (.exit 0, xk 32 [] [])])]
def W80c81 (F : T80c81) : (M : Type) -> LsV -> (V -> Option M) -> Option M := fun M args k => match args with
 | [.sl 4 false s1, .sl 4 false s2, .clo 81 []] => F M s1 s2 (fun y1 => k (.bool y1))
 | _ => none
theorem k80c81 (F81 : T81) {M : Type} (s1 : LsV) (s2 : LsV) (k : V -> Option M) : fnK cfg (tabL [(81, W81 F81)]) X80c81 80 f80 M [.sl 4 false s1, .sl 4 false s2, .clo 81 []] k = P80c81 F81 M s1 s2 (fun y1 => k (.bool y1)) := by kernel_rfl
theorem ok80c81 : FnOk D 80 (W80c81 F80c81) := fn_ok (l := [(81, W81 F81)]) (X := X80c81) (fun _ => rfl) func80 rfl (tc ok81 tn) (fun M args k r h => by
 unfold W80c81 at h
 split at h
 ·rw [<- h]; exact k80c81 F81 _ _ k
 ·cases h)
abbrev T82 := T72
def P82 : T82 := fun M s1 s2 k => br ((s1.length : Int) != (s2.length : Int)) (k false) (whileK (fun s3 => br (decide ((lI s3 3) < (lI s3 2))) (chk (0 <= (lI s3 3)) <| idx false [.int .i64] (lL s3 0) ((lI s3 3).toNat) fun (e4 : Int × Unit) => chk (0 <= (lI s3 3)) <| idx false [.int .i64] (lL s3 1) ((lI s3 3).toNat) fun (e5 : Int × Unit) => br (e4.1 != e5.1) (some (.inr (0, [.b false]))) (some (.inl [.l (lL s3 0), .l (lL s3 1), .i (lI s3 2), .i (IntKind.wrap .i64 ((lI s3 3) + 1))]))) (some (.inr (1, [])))) [.l s1, .l s2, .i (s1.length : Int), .i 0] fun r6 => if r6.1 = 0 then k (lB r6.2 0) else k true)
def F82 : T82 := P82
def X82 : Exits := fun i => lookN i [] [(4, [(.ret, xk 26 [(4, .bool false)] []), (.exit 0, xk 26 [] [])])]
abbrev s82 : LSh := s72
abbrev G82 := G72
abbrev W82 (F : T82) : WT := wrap s82 (G82 F)
theorem k82 : KO [] X82 82 f82 s82 (G82 (P82)) := fun _ _ _ => by kernel_rfl
theorem ok82 : FnOk D 82 (W82 F82) := oW func82 tn (k82)
abbrev T43 := T35
def P43 (F80c81 : T80c81) (F82 : T82) : T43 := fun M a b c d k => F80c81 _ a c fun b1 => br b1 (F82 _ b d fun b2 => k b2) (k false)
def F43 : T43 := P43 F80c81 F82
abbrev s43 : LSh := s35
abbrev G43 := G35
abbrev W43 (F : T43) : WT := wrap s43 (G43 F)
theorem k43 (F80c81 : T80c81) (F82 : T82) (M : Type) (e : argsT s43) (k : V -> Option M) : fnK cfg (tabL [(80, W80c81 F80c81), (82, W82 F82)]) noX 43 f43 M (argsEnc s43 e) k = G43 (P43 F80c81 F82) M e k := by kernel_rfl
theorem ok43 : FnOk D 43 (W43 F43) := oW func43 (tc ok80c81 (tc ok82 tn)) (k43 F80c81 F82)
abbrev T44 := T72
def P44 : T44 := fun M s1 s2 k => br ((s1.length : Int) != (s2.length : Int)) (k false) (whileK (fun s3 => br (decide ((lI s3 3) < (lI s3 2))) (chk (0 <= (lI s3 3)) <| idx false [.str] (lL s3 0) ((lI s3 3).toNat) fun (e4 : r13_) => chk (0 <= (lI s3 3)) <| idx false [.str] (lL s3 1) ((lI s3 3).toNat) fun (e5 : r13_) => br (!(e4.1 == e5.1)) (some (.inr (0, [.b false]))) (some (.inl [.l (lL s3 0), .l (lL s3 1), .i (lI s3 2), .i (IntKind.wrap .i64 ((lI s3 3) + 1))]))) (some (.inr (1, [])))) [.l s1, .l s2, .i (s1.length : Int), .i 0] fun r6 => if r6.1 = 0 then k (lB r6.2 0) else k true)
def F44 : T44 := P44
def X44 : Exits := fun i => lookN i [] [(4, [(.ret, xk 26 [(4, .bool false)] []), (.exit 0, xk 26 [] [])])]
abbrev s44 : LSh := s72
abbrev G44 := G72
abbrev W44 (F : T44) : WT := wrap s44 (G44 F)
theorem k44 : KO [] X44 44 f44 s44 (G44 (P44)) := fun _ _ _ => by kernel_rfl
theorem ok44 : FnOk D 44 (W44 F44) := oW func44 tn (k44)
abbrev T83 := T72
def P83 : T83 := fun M s1 s2 k => br ((s1.length : Int) != (s2.length : Int)) (k false) (whileK (fun s3 => br (decide ((lI s3 3) < (lI s3 2))) (chk (0 <= (lI s3 3)) <| idx true [.str, .int .i64] (lL s3 0) ((lI s3 3).toNat) fun (e4 : r4_) => chk (0 <= (lI s3 3)) <| idx true [.str, .int .i64] (lL s3 1) ((lI s3 3).toNat) fun (e5 : r4_) => br (!((e4.1 == e5.1) && ((e4.2.1 == e5.2.1) && true))) (some (.inr (0, [.b false]))) (some (.inl [.l (lL s3 0), .l (lL s3 1), .i (lI s3 2), .i (IntKind.wrap .i64 ((lI s3 3) + 1))]))) (some (.inr (1, [])))) [.l s1, .l s2, .i (s1.length : Int), .i 0] fun r6 => if r6.1 = 0 then k (lB r6.2 0) else k true)
def F83 : T83 := P83
def X83 : Exits := fun i => lookN i [] [(4, [(.ret, xk 26 [(4, .bool false)] []), (.exit 0, xk 26 [] [])])]
abbrev s83 : LSh := s135
abbrev G83 := G135
abbrev W83 (F : T83) : WT := wrap s83 (G83 F)
theorem k83 : KO [] X83 83 f83 s83 (G83 (P83)) := fun _ _ _ => by kernel_rfl
theorem ok83 : FnOk D 83 (W83 F83) := oW func83 tn (k83)
abbrev T45 := T72
def P45 (F83 : T83) : T45 := fun M a b k => F83 _ a b fun b1 => k b1
def F45 : T45 := P45 F83
abbrev s45 : LSh := [(true, [.sl 2 true]), (true, [.sl 2 true])]
def G45 (F : T45) : GTy s45 := fun M e k => F M e.1.1 e.2.1.1 (fun y1 => k (.bool y1))
abbrev W45 (F : T45) : WT := wrap s45 (G45 F)
theorem k45 (F83 : T83) : KO [(83, W83 F83)] noX 45 f45 s45 (G45 (P45 F83)) := fun _ _ _ => by kernel_rfl
theorem ok45 : FnOk D 45 (W45 F45) := oW func45 (tc ok83 tn) (k45 F83)
abbrev T21 := T16
def P21 (F43 : T43) (F44 : T44) (F45 : T45) : T21 := fun M a b c d f g h i j l m n k => F43 _ a b h i fun b1 => br b1 (F44 _ c j fun b2 => br b2 (F44 _ d l fun b3 => br b3 (F45 _ f m fun b4 => br b4 (k (g == n)) (k false)) (k false)) (k false)) (k false)
def F21 : T21 := P21 F43 F44 F45
abbrev s21 : LSh := s16
abbrev G21 := G16
abbrev W21 (F : T21) : WT := wrap s21 (G21 F)
theorem k21 (F43 : T43) (F44 : T44) (F45 : T45) : KO [(43, W43 F43), (44, W44 F44), (45, W45 F45)] noX 21 f21 s21 (G21 (P21 F43 F44 F45)) := fun _ _ _ => by kernel_rfl
theorem ok21 : FnOk D 21 (W21 F21) := oW func21 (tc ok43 (tc ok44 (tc ok45 tn))) (k21 F43 F44 F45)
abbrev T20 := (M : Type) -> LU -> LU -> LU -> LU -> Bool -> LsV -> LsV -> LsV -> LU -> LU -> LsV -> Bool -> LsV -> LsV -> LsV -> LsV -> LsV -> Int -> Int -> Int -> Int -> LsV -> LsV -> Bool -> Bool -> LU -> LU -> LU -> LU -> Bool -> LsV -> LsV -> LsV -> LU -> LU -> LsV -> Bool -> LsV -> LsV -> LsV -> LsV -> LsV -> Int -> Int -> Int -> Int -> LsV -> LsV -> Bool -> Bool -> (Bool -> Option M) -> Option M
def P20 (F22 : T22) (F21 : T21) : T20 := fun M a b c d f g h i j l m n o p q r s t u v w x y z a1 b1 c1 d1 f1 g1 h1 i1 j1 m1 n1 o1 p1 q1 r1 s1 t1 u1 v1 w1 x1 y1 z1 a2 b2 c2 k => br ((a == b1) && ((b == c1) && true)) (br (a1 == c2) (F22 _ c d f g h i j l m n o p q r s t u v w x y z fun l1 l2 l3 l4 l5 b6 => F22 _ d1 f1 g1 h1 i1 j1 m1 n1 o1 p1 q1 r1 s1 t1 u1 v1 w1 x1 y1 z1 a2 b2 fun l7 l8 l9 l10 l11 b12 => F21 _ l1 l2 l3 l4 l5 b6 l7 l8 l9 l10 l11 b12 fun b13 => k b13) (k false)) (k false)
def F20 : T20 := P20 F22 F21
abbrev s20 : LSh := [(true, q1), (true, q1)]
def G20 (F : T20) : GTy s20 := fun M e k => let a:=e.1;let b:=a.2;let c:=b.2;let d:=c.2;let f:=d.2;let g:=f.2;let h:=g.2;let i:=h.2;let j:=i.2;let l:=j.2;let m:=l.2;let n:=m.2;let o:=n.2;let p:=o.2;let q:=p.2;let r:=q.2;let s:=r.2;let t:=s.2;let u:=t.2;let v:=u.2;let w:=v.2;let x:=w.2;let y:=x.2;let z:=y.2;let a1:=z.2;let b1:=e.2.1;let c1:=b1.2;let d1:=c1.2;let f1:=d1.2;let g1:=f1.2;let h1:=g1.2;let i1:=h1.2;let j1:=i1.2;let l1:=j1.2;let m1:=l1.2;let n1:=m1.2;let o1:=n1.2;let p1:=o1.2;let q1:=p1.2;let r1:=q1.2;let s1:=r1.2;let t1:=s1.2;let u1:=t1.2;let v1:=u1.2;let w1:=v1.2;let x1:=w1.2;let y1:=x1.2;let z1:=y1.2;let a2:=z1.2;let b2:=a2.2;F M a.1 b.1 c.1 d.1 f.1 g.1 h.1 i.1 j.1 l.1 m.1 n.1 o.1 p.1 q.1 r.1 s.1 t.1 u.1 v.1 w.1 x.1 y.1 z.1 a1.1 b1.1 c1.1 d1.1 f1.1 g1.1 h1.1 i1.1 j1.1 l1.1 m1.1 n1.1 o1.1 p1.1 q1.1 r1.1 s1.1 t1.1 u1.1 v1.1 w1.1 x1.1 y1.1 z1.1 a2.1 b2.1 (fun y1 => k (.bool y1))
abbrev W20 (F : T20) : WT := wrap s20 (G20 F)
theorem k20 (F22 : T22) (F21 : T21) : KO [(22, W22 F22), (21, W21 F21)] noX 20 f20 s20 (G20 (P20 F22 F21)) := fun _ _ _ => by kernel_rfl
theorem ok20 : FnOk D 20 (W20 F20) := oW func20 (tc ok22 (tc ok21 tn)) (k20 F22 F21)
abbrev T19c20 : Type 1 := (M : Type) -> LsV -> LsV -> (Bool -> Option M) -> Option M
def P19c20 (F20 : T20) : T19c20 := fun M s1 s2 k => br ((s1.length : Int) != (s2.length : Int)) (k false) (whileK (fun s3 => br (decide ((lI s3 3) < (lI s3 2))) (chk (0 <= (lI s3 3)) <| idx true q1 (lL s3 1) ((lI s3 3).toNat) fun (e4 : LU × LU × LU × LU × Bool × LsV × LsV × LsV × LU × LU × LsV × Bool × LsV × LsV × LsV × LsV × LsV × Int × Int × Int × Int × LsV × LsV × Bool × Bool × Unit) => chk (0 <= (lI s3 3)) <| idx true q1 (lL s3 0) ((lI s3 3).toNat) fun (e5 : LU × LU × LU × LU × Bool × LsV × LsV × LsV × LU × LU × LsV × Bool × LsV × LsV × LsV × LsV × LsV × Int × Int × Int × Int × LsV × LsV × Bool × Bool × Unit) => F20 _ e4.1 e4.2.1 e4.2.2.1 e4.2.2.2.1 e4.2.2.2.2.1 e4.2.2.2.2.2.1 e4.2.2.2.2.2.2.1 e4.2.2.2.2.2.2.2.1 e4.2.2.2.2.2.2.2.2.1 e4.2.2.2.2.2.2.2.2.2.1 e4.2.2.2.2.2.2.2.2.2.2.1 e4.2.2.2.2.2.2.2.2.2.2.2.1 e4.2.2.2.2.2.2.2.2.2.2.2.2.1 e4.2.2.2.2.2.2.2.2.2.2.2.2.2.1 e4.2.2.2.2.2.2.2.2.2.2.2.2.2.2.1 e4.2.2.2.2.2.2.2.2.2.2.2.2.2.2.2.1 e4.2.2.2.2.2.2.2.2.2.2.2.2.2.2.2.2.1 e4.2.2.2.2.2.2.2.2.2.2.2.2.2.2.2.2.2.1 e4.2.2.2.2.2.2.2.2.2.2.2.2.2.2.2.2.2.2.1 e4.2.2.2.2.2.2.2.2.2.2.2.2.2.2.2.2.2.2.2.1 e4.2.2.2.2.2.2.2.2.2.2.2.2.2.2.2.2.2.2.2.2.1 e4.2.2.2.2.2.2.2.2.2.2.2.2.2.2.2.2.2.2.2.2.2.1 e4.2.2.2.2.2.2.2.2.2.2.2.2.2.2.2.2.2.2.2.2.2.2.1 e4.2.2.2.2.2.2.2.2.2.2.2.2.2.2.2.2.2.2.2.2.2.2.2.1 e4.2.2.2.2.2.2.2.2.2.2.2.2.2.2.2.2.2.2.2.2.2.2.2.2.1 e5.1 e5.2.1 e5.2.2.1 e5.2.2.2.1 e5.2.2.2.2.1 e5.2.2.2.2.2.1 e5.2.2.2.2.2.2.1 e5.2.2.2.2.2.2.2.1 e5.2.2.2.2.2.2.2.2.1 e5.2.2.2.2.2.2.2.2.2.1 e5.2.2.2.2.2.2.2.2.2.2.1 e5.2.2.2.2.2.2.2.2.2.2.2.1 e5.2.2.2.2.2.2.2.2.2.2.2.2.1 e5.2.2.2.2.2.2.2.2.2.2.2.2.2.1 e5.2.2.2.2.2.2.2.2.2.2.2.2.2.2.1 e5.2.2.2.2.2.2.2.2.2.2.2.2.2.2.2.1 e5.2.2.2.2.2.2.2.2.2.2.2.2.2.2.2.2.1 e5.2.2.2.2.2.2.2.2.2.2.2.2.2.2.2.2.2.1 e5.2.2.2.2.2.2.2.2.2.2.2.2.2.2.2.2.2.2.1 e5.2.2.2.2.2.2.2.2.2.2.2.2.2.2.2.2.2.2.2.1 e5.2.2.2.2.2.2.2.2.2.2.2.2.2.2.2.2.2.2.2.2.1 e5.2.2.2.2.2.2.2.2.2.2.2.2.2.2.2.2.2.2.2.2.2.1 e5.2.2.2.2.2.2.2.2.2.2.2.2.2.2.2.2.2.2.2.2.2.2.1 e5.2.2.2.2.2.2.2.2.2.2.2.2.2.2.2.2.2.2.2.2.2.2.2.1 e5.2.2.2.2.2.2.2.2.2.2.2.2.2.2.2.2.2.2.2.2.2.2.2.2.1 fun b6 => br (!b6) (some (.inr (0, [.b false]))) (some (.inl [.l (lL s3 0), .l (lL s3 1), .i (lI s3 2), .i (IntKind.wrap .i64 ((lI s3 3) + 1))]))) (some (.inr (1, [])))) [.l s2, .l s1, .i (s1.length : Int), .i 0] fun (r7 : Nat × List Leaf) => if r7.1 = 0 then k (lB r7.2 0) else k true)
def F19c20 : T19c20 := P19c20 F20
def X19c20 : Exits := fun i => lookN i [] [(4, [(.ret, xk 32 [(6, .bool false)] []), (.exit 0, xk 32 [] [])])]
def W19c20 (F : T19c20) : (M : Type) -> LsV -> (V -> Option M) -> Option M := fun M args k => match args with
 | [.sl 25 false s1, .sl 25 false s2, .clo 20 []] => F M s1 s2 (fun y1 => k (.bool y1))
 | _ => none
theorem k19c20 (F20 : T20) {M : Type} (s1 : LsV) (s2 : LsV) (k : V -> Option M) : fnK cfg (tabL [(20, W20 F20)]) X19c20 19 f19 M [.sl 25 false s1, .sl 25 false s2, .clo 20 []] k = P19c20 F20 M s1 s2 (fun y1 => k (.bool y1)) := by kernel_rfl
theorem ok19c20 : FnOk D 19 (W19c20 F19c20) := fn_ok (l := [(20, W20 F20)]) (X := X19c20) (fun _ => rfl) func19 rfl (tc ok20 tn) (fun M args k r h => by
 unfold W19c20 at h
 split at h
 ·rw [<- h]; exact k19c20 F20 _ _ k
 ·cases h)
abbrev T8 := T6
def P8 (F19c20 : T19c20) : T8 := fun M a b c d k => br (b == d) (F19c20 _ a c fun b1 => k b1) (k false)
def F8 : T8 := P8 F19c20
abbrev s8 : LSh := s6
abbrev G8 := G6
abbrev W8 (F : T8) : WT := wrap s8 (G8 F)
theorem k8 (F19c20 : T19c20) (M : Type) (e : argsT s8) (k : V -> Option M) : fnK cfg (tabL [(19, W19c20 F19c20)]) noX 8 f8 M (argsEnc s8 e) k = G8 (P8 F19c20) M e k := by kernel_rfl
theorem ok8 : FnOk D 8 (W8 F8) := oW func8 (tc ok19c20 tn) (k8 F19c20)
abbrev T162 := (M : Type) -> LsV -> LU -> LU -> LU -> Int -> Int -> LU -> Int -> Bool -> LU -> Int -> (Int -> Option M) -> Option M
def P162 : T162 := fun M s a c d f g h j m n o k => whileK (fun s1 => br (decide ((lI s1 2) < (lI s1 1))) (chk (0 <= (lI s1 2)) <| idx true q3 (lL s1 0) ((lI s1 2).toNat) fun (e2 : r9_) => br (((lS s1 3) == e2.1) && (((lS s1 4) == e2.2.1) && (((lS s1 5) == e2.2.2.1) && (((lI s1 6) == e2.2.2.2.1) && (((lI s1 7) == e2.2.2.2.2.1) && (((lS s1 8) == e2.2.2.2.2.2.1) && (((lI s1 9) == e2.2.2.2.2.2.2.1) && (((lB s1 10) == e2.2.2.2.2.2.2.2.1) && (((lS s1 11) == e2.2.2.2.2.2.2.2.2.1) && (((lI s1 12) == e2.2.2.2.2.2.2.2.2.2.1) && true)))))))))) (some (.inr (0, [.i (lI s1 2)]))) (some (.inl [.l (lL s1 0), .i (lI s1 1), .i (IntKind.wrap .i64 ((lI s1 2) + 1)), .s (lS s1 3), .s (lS s1 4), .s (lS s1 5), .i (lI s1 6), .i (lI s1 7), .s (lS s1 8), .i (lI s1 9), .b (lB s1 10), .s (lS s1 11), .i (lI s1 12)]))) (some (.inr (1, [])))) [.l s, .i (s.length : Int), .i 0, .s a, .s c, .s d, .i f, .i g, .s h, .i j, .b m, .s n, .i o] fun r3 => if r3.1 = 0 then k (lI r3.2 0) else k (-1)
def F162 : T162 := P162
def X162 : Exits := fun i => lookN i [] [(2, [(.ret, xk 19 [(4, .int .i64 0)] []), (.exit 0, xk 19 [] [])])]
abbrev s162 : LSh := [(false, [.sl 10 true]), (true, q3)]
def G162 (F : T162) : GTy s162 := fun M e k => let a:=e.2.1;let b:=a.2;let c:=b.2;let d:=c.2;let f:=d.2;let g:=f.2;let h:=g.2;let i:=h.2;let j:=i.2;let l:=j.2;F M e.1.1 a.1 b.1 c.1 d.1 f.1 g.1 h.1 i.1 j.1 l.1 (fun y1 => k (.int .i64 y1))
abbrev W162 (F : T162) : WT := wrap s162 (G162 F)
theorem k162 : KO [] X162 162 f162 s162 (G162 (P162)) := fun _ _ _ => by kernel_rfl
theorem ok162 : FnOk D 162 (W162 F162) := oW func162 tn (k162)
abbrev T115 := T56
def P115 (F162 : T162) : T115 := fun M s a b c d f g h i j l k => F162 _ s a b c d f g h i j l fun n1 => k (decide (n1 >= 0))
def F115 : T115 := P115 F162
abbrev s115 : LSh := s162
def G115 (F : T115) : GTy s115 := fun M e k => let a:=e.2.1;let b:=a.2;let c:=b.2;let d:=c.2;let f:=d.2;let g:=f.2;let h:=g.2;let i:=h.2;let j:=i.2;let l:=j.2;F M e.1.1 a.1 b.1 c.1 d.1 f.1 g.1 h.1 i.1 j.1 l.1 (fun y1 => k (.bool y1))
abbrev W115 (F : T115) : WT := wrap s115 (G115 F)
theorem k115 (F162 : T162) : KO [(162, W162 F162)] noX 115 f115 s115 (G115 (P115 F162)) := fun _ _ _ => by kernel_rfl
theorem ok115 : FnOk D 115 (W115 F115) := oW func115 (tc ok162 tn) (k115 F162)
abbrev T62 := T72
def P62 (F115 : T115) : T62 := fun M a c k => whileK (fun s1 => br (decide ((lI s1 2) < (lI s1 1))) (chk (0 <= (lI s1 2)) <| idx true q3 (lL s1 0) ((lI s1 2).toNat) fun (e2 : r9_) => F115 _ (lL s1 3) e2.1 e2.2.1 e2.2.2.1 e2.2.2.2.1 e2.2.2.2.2.1 e2.2.2.2.2.2.1 e2.2.2.2.2.2.2.1 e2.2.2.2.2.2.2.2.1 e2.2.2.2.2.2.2.2.2.1 e2.2.2.2.2.2.2.2.2.2.1 fun b3 => br (!b3) (some (.inr (0, [.b false]))) (some (.inl [.l (lL s1 0), .i (lI s1 1), .i (IntKind.wrap .i64 ((lI s1 2) + 1)), .l (lL s1 3)]))) (some (.inr (1, [])))) [.l a, .i (a.length : Int), .i 0, .l c] fun r4 => if r4.1 = 0 then k (lB r4.2 0) else k true
def F62 : T62 := P62 F115
def X62 : Exits := fun i => lookN i [] [(2, [(.ret, xk 20 [(4, .bool false)] []), (.exit 0, xk 20 [] [])])]
abbrev s62 : LSh := s26
abbrev G62 := G26
abbrev W62 (F : T62) : WT := wrap s62 (G62 F)
theorem k62 (F115 : T115) : KO [(115, W115 F115)] X62 62 f62 s62 (G62 (P62 F115)) := fun _ _ _ => by kernel_rfl
theorem ok62 : FnOk D 62 (W62 F62) := oW func62 (tc ok115 tn) (k62 F115)
abbrev T30 := T72
def P30 (F62 : T62) : T30 := fun M a b k => F62 _ a b fun b1 => br b1 (F62 _ b a fun b2 => k b2) (k false)
def F30 : T30 := P30 F62
abbrev s30 : LSh := s26
abbrev G30 := G26
abbrev W30 (F : T30) : WT := wrap s30 (G30 F)
theorem k30 (F62 : T62) : KO [(62, W62 F62)] noX 30 f30 s30 (G30 (P30 F62)) := fun _ _ _ => by kernel_rfl
theorem ok30 : FnOk D 30 (W30 F30) := oW func30 (tc ok62 tn) (k30 F62)
abbrev T65 := T72
def P65 : T65 := fun M s1 s2 k => br ((s1.length : Int) != (s2.length : Int)) (k false) (whileK (fun s3 => br (decide ((lI s3 3) < (lI s3 2))) (chk (0 <= (lI s3 3)) <| idx true q6 (lL s3 0) ((lI s3 3).toNat) fun (e4 : r3_) => chk (0 <= (lI s3 3)) <| idx true q6 (lL s3 1) ((lI s3 3).toNat) fun (e5 : r3_) => br (!((e4.1 == e5.1) && ((e4.2.1 == e5.2.1) && ((e4.2.2.1 == e5.2.2.1) && ((e4.2.2.2.1 == e5.2.2.2.1) && ((e4.2.2.2.2.1 == e5.2.2.2.2.1) && ((e4.2.2.2.2.2.1 == e5.2.2.2.2.2.1) && ((e4.2.2.2.2.2.2.1 == e5.2.2.2.2.2.2.1) && true)))))))) (some (.inr (0, [.b false]))) (some (.inl [.l (lL s3 0), .l (lL s3 1), .i (lI s3 2), .i (IntKind.wrap .i64 ((lI s3 3) + 1))]))) (some (.inr (1, [])))) [.l s1, .l s2, .i (s1.length : Int), .i 0] fun r6 => if r6.1 = 0 then k (lB r6.2 0) else k true)
def F65 : T65 := P65
def X65 : Exits := fun i => lookN i [] [(4, [(.ret, xk 26 [(4, .bool false)] []), (.exit 0, xk 26 [] [])])]
abbrev s65 : LSh := [(false, [.sl 7 true]), (false, [.sl 7 true])]
def G65 (F : T65) : GTy s65 := fun M e k => F M e.1.1 e.2.1.1 (fun y1 => k (.bool y1))
abbrev W65 (F : T65) : WT := wrap s65 (G65 F)
theorem k65 : KO [] X65 65 f65 s65 (G65 (P65)) := fun _ _ _ => by kernel_rfl
theorem ok65 : FnOk D 65 (W65 F65) := oW func65 tn (k65)
abbrev T64 := (M : Type) -> LU -> LsV -> LU -> LsV -> (Bool -> Option M) -> Option M
def P64 (F65 : T65) : T64 := fun M a b c d k => br (a == c) (F65 _ b d fun b1 => k b1) (k false)
def F64 : T64 := P64 F65
abbrev s64 : LSh := [(true, [.str, .sl 7 true]), (true, [.str, .sl 7 true])]
def G64 (F : T64) : GTy s64 := fun M e k => F M e.1.1 e.1.2.1 e.2.1.1 e.2.1.2.1 (fun y1 => k (.bool y1))
abbrev W64 (F : T64) : WT := wrap s64 (G64 F)
theorem k64 (F65 : T65) : KO [(65, W65 F65)] noX 64 f64 s64 (G64 (P64 F65)) := fun _ _ _ => by kernel_rfl
theorem ok64 : FnOk D 64 (W64 F64) := oW func64 (tc ok65 tn) (k64 F65)
abbrev T63c64 : Type 1 := (M : Type) -> LsV -> LsV -> (Bool -> Option M) -> Option M
def P63c64 (F64 : T64) : T63c64 := fun M s1 s2 k => br ((s1.length : Int) != (s2.length : Int)) (k false) (whileK (fun s3 => br (decide ((lI s3 3) < (lI s3 2))) (chk (0 <= (lI s3 3)) <| idx true [.str, .sl 7 true] (lL s3 1) ((lI s3 3).toNat) fun (e4 : LU × LsV × Unit) => chk (0 <= (lI s3 3)) <| idx true [.str, .sl 7 true] (lL s3 0) ((lI s3 3).toNat) fun (e5 : LU × LsV × Unit) => F64 _ e4.1 e4.2.1 e5.1 e5.2.1 fun b6 => br (!b6) (some (.inr (0, [.b false]))) (some (.inl [.l (lL s3 0), .l (lL s3 1), .i (lI s3 2), .i (IntKind.wrap .i64 ((lI s3 3) + 1))]))) (some (.inr (1, [])))) [.l s2, .l s1, .i (s1.length : Int), .i 0] fun (r7 : Nat × List Leaf) => if r7.1 = 0 then k (lB r7.2 0) else k true)
def F63c64 : T63c64 := P63c64 F64
def X63c64 : Exits := fun i => lookN i [] [(4, [(.ret, xk 32 [(6, .bool false)] []), (.exit 0, xk 32 [] [])])]
def W63c64 (F : T63c64) : (M : Type) -> LsV -> (V -> Option M) -> Option M := fun M args k => match args with
 | [.sl 2 false s1, .sl 2 false s2, .clo 64 []] => F M s1 s2 (fun y1 => k (.bool y1))
 | _ => none
theorem k63c64 (F64 : T64) {M : Type} (s1 : LsV) (s2 : LsV) (k : V -> Option M) : fnK cfg (tabL [(64, W64 F64)]) X63c64 63 f63 M [.sl 2 false s1, .sl 2 false s2, .clo 64 []] k = P63c64 F64 M s1 s2 (fun y1 => k (.bool y1)) := by kernel_rfl
theorem ok63c64 : FnOk D 63 (W63c64 F63c64) := fn_ok (l := [(64, W64 F64)]) (X := X63c64) (fun _ => rfl) func63 rfl (tc ok64 tn) (fun M args k r h => by
 unfold W63c64 at h
 split at h
 ·rw [<- h]; exact k63c64 F64 _ _ k
 ·cases h)
abbrev T31 := T72
def P31 (F63c64 : T63c64) : T31 := fun M a b k => F63c64 _ a b fun b1 => k b1
def F31 : T31 := P31 F63c64
abbrev s31 : LSh := s27
abbrev G31 := G27
abbrev W31 (F : T31) : WT := wrap s31 (G31 F)
theorem k31 (F63c64 : T63c64) (M : Type) (e : argsT s31) (k : V -> Option M) : fnK cfg (tabL [(63, W63c64 F63c64)]) noX 31 f31 M (argsEnc s31 e) k = G31 (P31 F63c64) M e k := by kernel_rfl
theorem ok31 : FnOk D 31 (W31 F31) := oW func31 (tc ok63c64 tn) (k31 F63c64)
abbrev T13 := T11
def P13 (F8 : T8) (F30 : T30) (F31 : T31) : T13 := fun M a b m c d f n o p q r s t u v w x y z a1 c1 d1 f1 g1 h1 i1 j1 l1 m1 n1 o1 p1 q1 g h r1 i j l s1 t1 u1 v1 w1 x1 y1 z1 a2 c2 d2 f2 g2 h2 i2 j2 l2 m2 n2 o2 p2 q2 r2 s2 t2 u2 v2 k => F8 _ d f j l fun b1 => br b1 (F30 _ b h fun b2 => br b2 (F31 _ a g fun b3 => br b3 (k (c == i)) (k false)) (k false)) (k false)
def F13 : T13 := P13 F8 F30 F31
abbrev s13 : LSh := s11
abbrev G13 := G11
abbrev W13 (F : T13) : WT := wrap s13 (G13 F)
theorem k13 (F8 : T8) (F30 : T30) (F31 : T31) : KO [(8, W8 F8), (30, W30 F30), (31, W31 F31)] noX 13 f13 s13 (G13 (P13 F8 F30 F31)) := fun _ _ _ => by kernel_rfl
theorem ok13 : FnOk D 13 (W13 F13) := oW func13 (tc ok8 (tc ok30 (tc ok31 tn))) (k13 F8 F30 F31)
abbrev T170 := (M : Type) -> Int -> Int -> LU -> Int -> Bool -> LU -> Int -> Int -> LU -> Int -> Bool -> LU -> (Bool -> Option M) -> Option M
def P170 : T170 := fun M a b c d f g h i j l m n k => br (a != h) (k false) (br (b != i) (k false) (br (!(c == j)) (k false) (br (d != l) (k false) (br (!(f == m)) (k false) (br (!(g == n)) (k false) (k true))))))
def F170 : T170 := P170
abbrev s170 : LSh := [(true, q14), (true, q14)]
def G170 (F : T170) : GTy s170 := fun M e k => let a:=e.1;let b:=a.2;let c:=b.2;let d:=c.2;let f:=d.2;let g:=f.2;let h:=e.2.1;let i:=h.2;let j:=i.2;let l:=j.2;let m:=l.2;let n:=m.2;F M a.1 b.1 c.1 d.1 f.1 g.1 h.1 i.1 j.1 l.1 m.1 n.1 (fun y1 => k (.bool y1))
abbrev W170 (F : T170) : WT := wrap s170 (G170 F)
theorem k170 : KO [] noX 170 f170 s170 (G170 (P170)) := fun _ _ _ => by kernel_rfl
theorem ok170 : FnOk D 170 (W170 F170) := oW func170 tn (k170)
abbrev T195 := (M : Type) -> LU -> Int -> Int -> LU -> Int -> Bool -> LU -> LU -> Int -> Int -> LU -> Int -> Bool -> LU -> (Bool -> Option M) -> Option M
def P195 (F170 : T170) : T195 := fun M a b c d f g h i j l m n o p k => br (!(a == i)) (k false) (F170 _ b c d f g h j l m n o p fun b1 => br (!b1) (k false) (k true))
def F195 : T195 := P195 F170
abbrev s195 : LSh := [(true, q6), (true, q6)]
def G195 (F : T195) : GTy s195 := fun M e k => let a:=e.1;let b:=a.2;let c:=b.2;let d:=c.2;let f:=d.2;let g:=f.2;let h:=g.2;let i:=e.2.1;let j:=i.2;let l:=j.2;let m:=l.2;let n:=m.2;let o:=n.2;let p:=o.2;F M a.1 b.1 c.1 d.1 f.1 g.1 h.1 i.1 j.1 l.1 m.1 n.1 o.1 p.1 (fun y1 => k (.bool y1))
abbrev W195 (F : T195) : WT := wrap s195 (G195 F)
theorem k195 (F170 : T170) : KO [(170, W170 F170)] noX 195 f195 s195 (G195 (P195 F170)) := fun _ _ _ => by kernel_rfl
theorem ok195 : FnOk D 195 (W195 F195) := oW func195 (tc ok170 tn) (k195 F170)
abbrev T163 := T72
def P163 (F195 : T195) : T163 := fun M a b k => br ((a.length : Int) != (b.length : Int)) (k false) (whileK (fun s1 => br (decide ((lI s1 2) < ((lL s1 0).length : Int))) (chk (0 <= (lI s1 2)) <| idx true q6 (lL s1 0) ((lI s1 2).toNat) fun (e2 : r3_) => chk (0 <= (lI s1 2)) <| idx true q6 (lL s1 1) ((lI s1 2).toNat) fun (e3 : r3_) => F195 _ e2.1 e2.2.1 e2.2.2.1 e2.2.2.2.1 e2.2.2.2.2.1 e2.2.2.2.2.2.1 e2.2.2.2.2.2.2.1 e3.1 e3.2.1 e3.2.2.1 e3.2.2.2.1 e3.2.2.2.2.1 e3.2.2.2.2.2.1 e3.2.2.2.2.2.2.1 fun b4 => br (!b4) (some (.inr (0, [.b false]))) (some (.inl [.l (lL s1 0), .l (lL s1 1), .i (IntKind.wrap .i64 ((lI s1 2) + 1))]))) (some (.inr (1, [])))) [.l a, .l b, .i 0] fun r5 => if r5.1 = 0 then k (lB r5.2 0) else k true)
def F163 : T163 := P163 F195
def X163 : Exits := fun i => lookN i [] [(4, [(.ret, xk 27 [(4, .bool false)] []), (.exit 0, xk 27 [] [])])]
abbrev s163 : LSh := s65
abbrev G163 := G65
abbrev W163 (F : T163) : WT := wrap s163 (G163 F)
theorem k163 (F195 : T195) : KO [(195, W195 F195)] X163 163 f163 s163 (G163 (P163 F195)) := fun _ _ _ => by kernel_rfl
theorem ok163 : FnOk D 163 (W163 F163) := oW func163 (tc ok195 tn) (k163 F195)
abbrev T116 := T64
def P116 (F163 : T163) : T116 := fun M a b c d k => br (!(a == c)) (k false) (F163 _ b d fun b1 => br (!b1) (k false) (k true))
def F116 : T116 := P116 F163
abbrev s116 : LSh := s64
abbrev G116 := G64
abbrev W116 (F : T116) : WT := wrap s116 (G116 F)
theorem k116 (F163 : T163) : KO [(163, W163 F163)] noX 116 f116 s116 (G116 (P116 F163)) := fun _ _ _ => by kernel_rfl
theorem ok116 : FnOk D 116 (W116 F116) := oW func116 (tc ok163 tn) (k116 F163)
abbrev T66 := T72
def P66 (F116 : T116) : T66 := fun M a b k => br ((a.length : Int) != (b.length : Int)) (k false) (whileK (fun s1 => br (decide ((lI s1 2) < ((lL s1 0).length : Int))) (chk (0 <= (lI s1 2)) <| idx true [.str, .sl 7 true] (lL s1 0) ((lI s1 2).toNat) fun (e2 : r12_) => chk (0 <= (lI s1 2)) <| idx true [.str, .sl 7 true] (lL s1 1) ((lI s1 2).toNat) fun (e3 : r12_) => F116 _ e2.1 e2.2.1 e3.1 e3.2.1 fun b4 => br (!b4) (some (.inr (0, [.b false]))) (some (.inl [.l (lL s1 0), .l (lL s1 1), .i (IntKind.wrap .i64 ((lI s1 2) + 1))]))) (some (.inr (1, [])))) [.l a, .l b, .i 0] fun r5 => if r5.1 = 0 then k (lB r5.2 0) else k true)
def F66 : T66 := P66 F116
def X66 : Exits := fun i => lookN i [] [(4, [(.ret, xk 27 [(4, .bool false)] []), (.exit 0, xk 27 [] [])])]
abbrev s66 : LSh := s27
abbrev G66 := G27
abbrev W66 (F : T66) : WT := wrap s66 (G66 F)
theorem k66 (F116 : T116) : KO [(116, W116 F116)] X66 66 f66 s66 (G66 (P66 F116)) := fun _ _ _ => by kernel_rfl
theorem ok66 : FnOk D 66 (W66 F66) := oW func66 (tc ok116 tn) (k66 F116)
abbrev T90 := (M : Type) -> LU -> LU -> LU -> LU -> (Bool -> Option M) -> Option M
def P90 : T90 := fun M a b c d k => br (!(a == c)) (k false) (br (!(b == d)) (k false) (k true))
def F90 : T90 := P90
abbrev s90 : LSh := [(true, [.str, .str]), (true, [.str, .str])]
def G90 (F : T90) : GTy s90 := fun M e k => F M e.1.1 e.1.2.1 e.2.1.1 e.2.1.2.1 (fun y1 => k (.bool y1))
abbrev W90 (F : T90) : WT := wrap s90 (G90 F)
theorem k90 : KO [] noX 90 f90 s90 (G90 (P90)) := fun _ _ _ => by kernel_rfl
theorem ok90 : FnOk D 90 (W90 F90) := oW func90 tn (k90)
abbrev T164 := (M : Type) -> LU -> LU -> LU -> Int -> Int -> LU -> Int -> Bool -> LU -> Int -> LU -> LU -> LU -> Int -> Int -> LU -> Int -> Bool -> LU -> Int -> (Bool -> Option M) -> Option M
def P164 (F90 : T90) (F170 : T170) : T164 := fun M a b c d f g h i j l m n o p q r s t u v k => br (!(a == m)) (k false) (F90 _ b c n o fun b1 => br (!b1) (k false) (F170 _ d f g h i j p q r s t u fun b2 => br (!b2) (k false) (br (l != v) (k false) (k true))))
def F164 : T164 := P164 F90 F170
abbrev s164 : LSh := [(true, q3), (true, q3)]
def G164 (F : T164) : GTy s164 := fun M e k => let a:=e.1;let b:=a.2;let c:=b.2;let d:=c.2;let f:=d.2;let g:=f.2;let h:=g.2;let i:=h.2;let j:=i.2;let l:=j.2;let m:=e.2.1;let n:=m.2;let o:=n.2;let p:=o.2;let q:=p.2;let r:=q.2;let s:=r.2;let t:=s.2;let u:=t.2;let v:=u.2;F M a.1 b.1 c.1 d.1 f.1 g.1 h.1 i.1 j.1 l.1 m.1 n.1 o.1 p.1 q.1 r.1 s.1 t.1 u.1 v.1 (fun y1 => k (.bool y1))
abbrev W164 (F : T164) : WT := wrap s164 (G164 F)
theorem k164 (F90 : T90) (F170 : T170) : KO [(90, W90 F90), (170, W170 F170)] noX 164 f164 s164 (G164 (P164 F90 F170)) := fun _ _ _ => by kernel_rfl
theorem ok164 : FnOk D 164 (W164 F164) := oW func164 (tc ok90 (tc ok170 tn)) (k164 F90 F170)
abbrev T117 := T72
def P117 (F164 : T164) : T117 := fun M a b k => br ((a.length : Int) != (b.length : Int)) (k false) (whileK (fun s1 => br (decide ((lI s1 2) < ((lL s1 0).length : Int))) (chk (0 <= (lI s1 2)) <| idx true q3 (lL s1 0) ((lI s1 2).toNat) fun (e2 : r9_) => chk (0 <= (lI s1 2)) <| idx true q3 (lL s1 1) ((lI s1 2).toNat) fun (e3 : r9_) => F164 _ e2.1 e2.2.1 e2.2.2.1 e2.2.2.2.1 e2.2.2.2.2.1 e2.2.2.2.2.2.1 e2.2.2.2.2.2.2.1 e2.2.2.2.2.2.2.2.1 e2.2.2.2.2.2.2.2.2.1 e2.2.2.2.2.2.2.2.2.2.1 e3.1 e3.2.1 e3.2.2.1 e3.2.2.2.1 e3.2.2.2.2.1 e3.2.2.2.2.2.1 e3.2.2.2.2.2.2.1 e3.2.2.2.2.2.2.2.1 e3.2.2.2.2.2.2.2.2.1 e3.2.2.2.2.2.2.2.2.2.1 fun b4 => br (!b4) (some (.inr (0, [.b false]))) (some (.inl [.l (lL s1 0), .l (lL s1 1), .i (IntKind.wrap .i64 ((lI s1 2) + 1))]))) (some (.inr (1, [])))) [.l a, .l b, .i 0] fun r5 => if r5.1 = 0 then k (lB r5.2 0) else k true)
def F117 : T117 := P117 F164
def X117 : Exits := fun i => lookN i [] [(4, [(.ret, xk 27 [(4, .bool false)] []), (.exit 0, xk 27 [] [])])]
abbrev s117 : LSh := [(false, [.sl 10 true]), (false, [.sl 10 true])]
def G117 (F : T117) : GTy s117 := fun M e k => F M e.1.1 e.2.1.1 (fun y1 => k (.bool y1))
abbrev W117 (F : T117) : WT := wrap s117 (G117 F)
theorem k117 (F164 : T164) : KO [(164, W164 F164)] X117 117 f117 s117 (G117 (P117 F164)) := fun _ _ _ => by kernel_rfl
theorem ok117 : FnOk D 117 (W117 F117) := oW func117 (tc ok164 tn) (k117 F164)
abbrev T67 := T72
def P67 (F117 : T117) : T67 := fun M a b k => F117 _ a b fun b1 => br (!b1) (k false) (k true)
def F67 : T67 := P67 F117
abbrev s67 : LSh := s26
abbrev G67 := G26
abbrev W67 (F : T67) : WT := wrap s67 (G67 F)
theorem k67 (F117 : T117) : KO [(117, W117 F117)] noX 67 f67 s67 (G67 (P67 F117)) := fun _ _ _ => by kernel_rfl
theorem ok67 : FnOk D 67 (W67 F67) := oW func67 (tc ok117 tn) (k67 F117)
abbrev T118 := (M : Type) -> LU -> LU -> LU -> Bool -> LU -> LU -> LU -> Bool -> (Bool -> Option M) -> Option M
def P118 (F90 : T90) : T118 := fun M a b c d f g h i k => br (!(a == f)) (k false) (F90 _ b c g h fun b1 => br (!b1) (k false) (br (!(d == i)) (k false) (k true)))
def F118 : T118 := P118 F90
abbrev s118 : LSh := [(true, q15), (true, q15)]
def G118 (F : T118) : GTy s118 := fun M e k => F M e.1.1 e.1.2.1 e.1.2.2.1 e.1.2.2.2.1 e.2.1.1 e.2.1.2.1 e.2.1.2.2.1 e.2.1.2.2.2.1 (fun y1 => k (.bool y1))
abbrev W118 (F : T118) : WT := wrap s118 (G118 F)
theorem k118 (F90 : T90) : KO [(90, W90 F90)] noX 118 f118 s118 (G118 (P118 F90)) := fun _ _ _ => by kernel_rfl
theorem ok118 : FnOk D 118 (W118 F118) := oW func118 (tc ok90 tn) (k118 F90)
abbrev T68 := T72
def P68 (F118 : T118) : T68 := fun M a b k => br ((a.length : Int) != (b.length : Int)) (k false) (whileK (fun s1 => br (decide ((lI s1 2) < ((lL s1 0).length : Int))) (chk (0 <= (lI s1 2)) <| idx true q15 (lL s1 0) ((lI s1 2).toNat) fun (e2 : r8_) => chk (0 <= (lI s1 2)) <| idx true q15 (lL s1 1) ((lI s1 2).toNat) fun (e3 : r8_) => F118 _ e2.1 e2.2.1 e2.2.2.1 e2.2.2.2.1 e3.1 e3.2.1 e3.2.2.1 e3.2.2.2.1 fun b4 => br (!b4) (some (.inr (0, [.b false]))) (some (.inl [.l (lL s1 0), .l (lL s1 1), .i (IntKind.wrap .i64 ((lI s1 2) + 1))]))) (some (.inr (1, [])))) [.l a, .l b, .i 0] fun r5 => if r5.1 = 0 then k (lB r5.2 0) else k true)
def F68 : T68 := P68 F118
def X68 : Exits := fun i => lookN i [] [(4, [(.ret, xk 27 [(4, .bool false)] []), (.exit 0, xk 27 [] [])])]
abbrev s68 : LSh := [(false, [.sl 4 true]), (false, [.sl 4 true])]
def G68 (F : T68) : GTy s68 := fun M e k => F M e.1.1 e.2.1.1 (fun y1 => k (.bool y1))
abbrev W68 (F : T68) : WT := wrap s68 (G68 F)
theorem k68 (F118 : T118) : KO [(118, W118 F118)] X68 68 f68 s68 (G68 (P68 F118)) := fun _ _ _ => by kernel_rfl
theorem ok68 : FnOk D 68 (W68 F68) := oW func68 (tc ok118 tn) (k68 F118)
abbrev T32 := (M : Type) -> LsV -> LsV -> LsV -> Int -> LsV -> LsV -> LsV -> Int -> (Bool -> Option M) -> Option M
def P32 (F66 : T66) (F67 : T67) (F68 : T68) : T32 := fun M a b c d f g h i k => F66 _ a f fun b1 => br (!b1) (k false) (F67 _ b g fun b2 => br (!b2) (k false) (F68 _ c h fun b3 => br (!b3) (k false) (br (d != i) (k false) (k true))))
def F32 : T32 := P32 F66 F67 F68
abbrev s32 : LSh := [(true, q16), (true, q16)]
def G32 (F : T32) : GTy s32 := fun M e k => F M e.1.1 e.1.2.1 e.1.2.2.1 e.1.2.2.2.1 e.2.1.1 e.2.1.2.1 e.2.1.2.2.1 e.2.1.2.2.2.1 (fun y1 => k (.bool y1))
abbrev W32 (F : T32) : WT := wrap s32 (G32 F)
theorem k32 (F66 : T66) (F67 : T67) (F68 : T68) : KO [(66, W66 F66), (67, W67 F67), (68, W68 F68)] noX 32 f32 s32 (G32 (P32 F66 F67 F68)) := fun _ _ _ => by kernel_rfl
theorem ok32 : FnOk D 32 (W32 F32) := oW func32 (tc ok66 (tc ok67 (tc ok68 tn))) (k32 F66 F67 F68)
abbrev T126 := T72
def P126 : T126 := fun M a b k => br ((a.length : Int) != (b.length : Int)) (k false) (whileK (fun s1 => br (decide ((lI s1 2) < ((lL s1 0).length : Int))) (chk (0 <= (lI s1 2)) <| idx false [.str] (lL s1 0) ((lI s1 2).toNat) fun (e2 : r13_) => chk (0 <= (lI s1 2)) <| idx false [.str] (lL s1 1) ((lI s1 2).toNat) fun (e3 : r13_) => br (!(e2.1 == e3.1)) (some (.inr (0, [.b false]))) (some (.inl [.l (lL s1 0), .l (lL s1 1), .i (IntKind.wrap .i64 ((lI s1 2) + 1))]))) (some (.inr (1, [])))) [.l a, .l b, .i 0] fun r4 => if r4.1 = 0 then k (lB r4.2 0) else k true)
def F126 : T126 := P126
def X126 : Exits := fun i => lookN i [] [(4, [(.ret, xk 26 [(4, .bool false)] []), (.exit 0, xk 26 [] [])])]
abbrev s126 : LSh := s72
abbrev G126 := G72
abbrev W126 (F : T126) : WT := wrap s126 (G126 F)
theorem k126 : KO [] X126 126 f126 s126 (G126 (P126)) := fun _ _ _ => by kernel_rfl
theorem ok126 : FnOk D 126 (W126 F126) := oW func126 tn (k126)
abbrev T119 := (M : Type) -> Bool -> LsV -> LsV -> LsV -> LU -> Bool -> LsV -> LsV -> LsV -> LU -> (Bool -> Option M) -> Option M
def P119 (F126 : T126) : T119 := fun M a b c d f g h i j l k => br (!(a == g)) (k false) (F126 _ b h fun b1 => br (!b1) (k false) (F126 _ c i fun b2 => br (!b2) (k false) (F126 _ d j fun b3 => br (!b3) (k false) (br (!(f == l)) (k false) (k true)))))
def F119 : T119 := P119 F126
abbrev s119 : LSh := [(true, q17), (true, q17)]
def G119 (F : T119) : GTy s119 := fun M e k => let a:=e.1;let b:=a.2;let c:=b.2;let d:=c.2;let f:=d.2;let g:=e.2.1;let h:=g.2;let i:=h.2;let j:=i.2;let l:=j.2;F M a.1 b.1 c.1 d.1 f.1 g.1 h.1 i.1 j.1 l.1 (fun y1 => k (.bool y1))
abbrev W119 (F : T119) : WT := wrap s119 (G119 F)
theorem k119 (F126 : T126) : KO [(126, W126 F126)] noX 119 f119 s119 (G119 (P119 F126)) := fun _ _ _ => by kernel_rfl
theorem ok119 : FnOk D 119 (W119 F119) := oW func119 (tc ok126 tn) (k119 F126)
abbrev T120 := T171
def P120 : T120 := fun M a b k => br (!(a == b)) (k false) (k true)
def F120 : T120 := P120
abbrev s120 : LSh := [(true, [.str]), (true, [.str])]
def G120 (F : T120) : GTy s120 := fun M e k => F M e.1.1 e.2.1.1 (fun y1 => k (.bool y1))
abbrev W120 (F : T120) : WT := wrap s120 (G120 F)
theorem k120 : KO [] noX 120 f120 s120 (G120 (P120)) := fun _ _ _ => by kernel_rfl
theorem ok120 : FnOk D 120 (W120 F120) := oW func120 tn (k120)
abbrev T213 := T90
def P213 : T213 := fun M a b c d k => br (!(a == c)) (k false) (br (!(b == d)) (k false) (k true))
def F213 : T213 := P213
abbrev s213 : LSh := s90
abbrev G213 := G90
abbrev W213 (F : T213) : WT := wrap s213 (G213 F)
theorem k213 : KO [] noX 213 f213 s213 (G213 (P213)) := fun _ _ _ => by kernel_rfl
theorem ok213 : FnOk D 213 (W213 F213) := oW func213 tn (k213)
abbrev T196 := T72
def P196 (F213 : T213) : T196 := fun M a b k => br ((a.length : Int) != (b.length : Int)) (k false) (whileK (fun s1 => br (decide ((lI s1 2) < ((lL s1 0).length : Int))) (chk (0 <= (lI s1 2)) <| idx true [.str, .str] (lL s1 0) ((lI s1 2).toNat) fun (e2 : r11_) => chk (0 <= (lI s1 2)) <| idx true [.str, .str] (lL s1 1) ((lI s1 2).toNat) fun (e3 : r11_) => F213 _ e2.1 e2.2.1 e3.1 e3.2.1 fun b4 => br (!b4) (some (.inr (0, [.b false]))) (some (.inl [.l (lL s1 0), .l (lL s1 1), .i (IntKind.wrap .i64 ((lI s1 2) + 1))]))) (some (.inr (1, [])))) [.l a, .l b, .i 0] fun r5 => if r5.1 = 0 then k (lB r5.2 0) else k true)
def F196 : T196 := P196 F213
def X196 : Exits := fun i => lookN i [] [(4, [(.ret, xk 27 [(4, .bool false)] []), (.exit 0, xk 27 [] [])])]
abbrev s196 : LSh := s135
abbrev G196 := G135
abbrev W196 (F : T196) : WT := wrap s196 (G196 F)
theorem k196 (F213 : T213) : KO [(213, W213 F213)] X196 196 f196 s196 (G196 (P196 F213)) := fun _ _ _ => by kernel_rfl
theorem ok196 : FnOk D 196 (W196 F196) := oW func196 (tc ok213 tn) (k196 F213)
abbrev T165 := (M : Type) -> Int -> LU -> LsV -> LU -> Int -> LU -> LsV -> LU -> (Bool -> Option M) -> Option M
def P165 (F196 : T196) : T165 := fun M a b c d f g h i k => br (a != f) (k false) (br (!(b == g)) (k false) (F196 _ c h fun b1 => br (!b1) (k false) (br (!(d == i)) (k false) (k true))))
def F165 : T165 := P165 F196
abbrev s165 : LSh := [(true, q10), (true, q10)]
def G165 (F : T165) : GTy s165 := fun M e k => F M e.1.1 e.1.2.1 e.1.2.2.1 e.1.2.2.2.1 e.2.1.1 e.2.1.2.1 e.2.1.2.2.1 e.2.1.2.2.2.1 (fun y1 => k (.bool y1))
abbrev W165 (F : T165) : WT := wrap s165 (G165 F)
theorem k165 (F196 : T196) : KO [(196, W196 F196)] noX 165 f165 s165 (G165 (P165 F196)) := fun _ _ _ => by kernel_rfl
theorem ok165 : FnOk D 165 (W165 F165) := oW func165 (tc ok196 tn) (k165 F196)
abbrev T121 := T72
def P121 (F165 : T165) : T121 := fun M a b k => br ((a.length : Int) != (b.length : Int)) (k false) (whileK (fun s1 => br (decide ((lI s1 2) < ((lL s1 0).length : Int))) (chk (0 <= (lI s1 2)) <| idx true q10 (lL s1 0) ((lI s1 2).toNat) fun (e2 : r1_) => chk (0 <= (lI s1 2)) <| idx true q10 (lL s1 1) ((lI s1 2).toNat) fun (e3 : r1_) => F165 _ e2.1 e2.2.1 e2.2.2.1 e2.2.2.2.1 e3.1 e3.2.1 e3.2.2.1 e3.2.2.2.1 fun b4 => br (!b4) (some (.inr (0, [.b false]))) (some (.inl [.l (lL s1 0), .l (lL s1 1), .i (IntKind.wrap .i64 ((lI s1 2) + 1))]))) (some (.inr (1, [])))) [.l a, .l b, .i 0] fun r5 => if r5.1 = 0 then k (lB r5.2 0) else k true)
def F121 : T121 := P121 F165
def X121 : Exits := fun i => lookN i [] [(4, [(.ret, xk 27 [(4, .bool false)] []), (.exit 0, xk 27 [] [])])]
abbrev s121 : LSh := [(false, [.sl 4 false]), (false, [.sl 4 false])]
def G121 (F : T121) : GTy s121 := fun M e k => F M e.1.1 e.2.1.1 (fun y1 => k (.bool y1))
abbrev W121 (F : T121) : WT := wrap s121 (G121 F)
theorem k121 (F165 : T165) : KO [(165, W165 F165)] X121 121 f121 s121 (G121 (P121 F165)) := fun _ _ _ => by kernel_rfl
theorem ok121 : FnOk D 121 (W121 F121) := oW func121 (tc ok165 tn) (k121 F165)
abbrev T197 := T73
def P197 (F196 : T196) : T197 := fun M a b c d f g h i k => br (!(a == f)) (k false) (br (!(b == g)) (k false) (br (c != h) (k false) (F196 _ d i fun b1 => br (!b1) (k false) (k true))))
def F197 : T197 := P197 F196
abbrev s197 : LSh := s73
abbrev G197 := G73
abbrev W197 (F : T197) : WT := wrap s197 (G197 F)
theorem k197 (F196 : T196) : KO [(196, W196 F196)] noX 197 f197 s197 (G197 (P197 F196)) := fun _ _ _ => by kernel_rfl
theorem ok197 : FnOk D 197 (W197 F197) := oW func197 (tc ok196 tn) (k197 F196)
abbrev T166 := T72
def P166 (F197 : T197) : T166 := fun M a b k => br ((a.length : Int) != (b.length : Int)) (k false) (whileK (fun s1 => br (decide ((lI s1 2) < ((lL s1 0).length : Int))) (chk (0 <= (lI s1 2)) <| idx true q7 (lL s1 0) ((lI s1 2).toNat) fun (e2 : r7_) => chk (0 <= (lI s1 2)) <| idx true q7 (lL s1 1) ((lI s1 2).toNat) fun (e3 : r7_) => F197 _ e2.1 e2.2.1 e2.2.2.1 e2.2.2.2.1 e3.1 e3.2.1 e3.2.2.1 e3.2.2.2.1 fun b4 => br (!b4) (some (.inr (0, [.b false]))) (some (.inl [.l (lL s1 0), .l (lL s1 1), .i (IntKind.wrap .i64 ((lI s1 2) + 1))]))) (some (.inr (1, [])))) [.l a, .l b, .i 0] fun r5 => if r5.1 = 0 then k (lB r5.2 0) else k true)
def F166 : T166 := P166 F197
def X166 : Exits := fun i => lookN i [] [(4, [(.ret, xk 27 [(4, .bool false)] []), (.exit 0, xk 27 [] [])])]
abbrev s166 : LSh := s121
abbrev G166 := G121
abbrev W166 (F : T166) : WT := wrap s166 (G166 F)
theorem k166 (F197 : T197) : KO [(197, W197 F197)] X166 166 f166 s166 (G166 (P166 F197)) := fun _ _ _ => by kernel_rfl
theorem ok166 : FnOk D 166 (W166 F166) := oW func166 (tc ok197 tn) (k166 F197)
abbrev T167 := T72
def P167 : T167 := fun M a b k => br ((a.length : Int) != (b.length : Int)) (k false) (whileK (fun s1 => br (decide ((lI s1 2) < ((lL s1 0).length : Int))) (chk (0 <= (lI s1 2)) <| idx false [.int .i64] (lL s1 0) ((lI s1 2).toNat) fun (e2 : Int × Unit) => chk (0 <= (lI s1 2)) <| idx false [.int .i64] (lL s1 1) ((lI s1 2).toNat) fun (e3 : Int × Unit) => br (e2.1 != e3.1) (some (.inr (0, [.b false]))) (some (.inl [.l (lL s1 0), .l (lL s1 1), .i (IntKind.wrap .i64 ((lI s1 2) + 1))]))) (some (.inr (1, [])))) [.l a, .l b, .i 0] fun r4 => if r4.1 = 0 then k (lB r4.2 0) else k true)
def F167 : T167 := P167
def X167 : Exits := fun i => lookN i [] [(4, [(.ret, xk 26 [(4, .bool false)] []), (.exit 0, xk 26 [] [])])]
abbrev s167 : LSh := s72
abbrev G167 := G72
abbrev W167 (F : T167) : WT := wrap s167 (G167 F)
theorem k167 : KO [] X167 167 f167 s167 (G167 (P167)) := fun _ _ _ => by kernel_rfl
theorem ok167 : FnOk D 167 (W167 F167) := oW func167 tn (k167)
abbrev T122 := T35
def P122 (F166 : T166) (F167 : T167) : T122 := fun M a b c d k => F166 _ a c fun b1 => br (!b1) (k false) (F167 _ b d fun b2 => br (!b2) (k false) (k true))
def F122 : T122 := P122 F166 F167
abbrev s122 : LSh := s35
abbrev G122 := G35
abbrev W122 (F : T122) : WT := wrap s122 (G122 F)
theorem k122 (F166 : T166) (F167 : T167) : KO [(166, W166 F166), (167, W167 F167)] noX 122 f122 s122 (G122 (P122 F166 F167)) := fun _ _ _ => by kernel_rfl
theorem ok122 : FnOk D 122 (W122 F122) := oW func122 (tc ok166 (tc ok167 tn)) (k122 F166 F167)
abbrev T168 := (M : Type) -> Int -> LU -> LU -> LU -> Int -> Bool -> Int -> LU -> Int -> LU -> LU -> LU -> Int -> Bool -> Int -> LU -> (Bool -> Option M) -> Option M
def P168 (F90 : T90) : T168 := fun M a b c d f g h i j l m n o p q r k => br (a != j) (k false) (F90 _ b c l m fun b1 => br (!b1) (k false) (br (!(d == n)) (k false) (br (f != o) (k false) (br (!(g == p)) (k false) (br (h != q) (k false) (br (!(i == r)) (k false) (k true)))))))
def F168 : T168 := P168 F90
abbrev s168 : LSh := [(true, q5), (true, q5)]
def G168 (F : T168) : GTy s168 := fun M e k => let a:=e.1;let b:=a.2;let c:=b.2;let d:=c.2;let f:=d.2;let g:=f.2;let h:=g.2;let i:=h.2;let j:=e.2.1;let l:=j.2;let m:=l.2;let n:=m.2;let o:=n.2;let p:=o.2;let q:=p.2;let r:=q.2;F M a.1 b.1 c.1 d.1 f.1 g.1 h.1 i.1 j.1 l.1 m.1 n.1 o.1 p.1 q.1 r.1 (fun y1 => k (.bool y1))
abbrev W168 (F : T168) : WT := wrap s168 (G168 F)
theorem k168 (F90 : T90) : KO [(90, W90 F90)] noX 168 f168 s168 (G168 (P168 F90)) := fun _ _ _ => by kernel_rfl
theorem ok168 : FnOk D 168 (W168 F168) := oW func168 (tc ok90 tn) (k168 F90)
abbrev T123 := T72
def P123 (F168 : T168) : T123 := fun M a b k => br ((a.length : Int) != (b.length : Int)) (k false) (whileK (fun s1 => br (decide ((lI s1 2) < ((lL s1 0).length : Int))) (chk (0 <= (lI s1 2)) <| idx true q5 (lL s1 0) ((lI s1 2).toNat) fun (e2 : r0_) => chk (0 <= (lI s1 2)) <| idx true q5 (lL s1 1) ((lI s1 2).toNat) fun (e3 : r0_) => F168 _ e2.1 e2.2.1 e2.2.2.1 e2.2.2.2.1 e2.2.2.2.2.1 e2.2.2.2.2.2.1 e2.2.2.2.2.2.2.1 e2.2.2.2.2.2.2.2.1 e3.1 e3.2.1 e3.2.2.1 e3.2.2.2.1 e3.2.2.2.2.1 e3.2.2.2.2.2.1 e3.2.2.2.2.2.2.1 e3.2.2.2.2.2.2.2.1 fun b4 => br (!b4) (some (.inr (0, [.b false]))) (some (.inl [.l (lL s1 0), .l (lL s1 1), .i (IntKind.wrap .i64 ((lI s1 2) + 1))]))) (some (.inr (1, [])))) [.l a, .l b, .i 0] fun r5 => if r5.1 = 0 then k (lB r5.2 0) else k true)
def F123 : T123 := P123 F168
def X123 : Exits := fun i => lookN i [] [(4, [(.ret, xk 27 [(4, .bool false)] []), (.exit 0, xk 27 [] [])])]
abbrev s123 : LSh := [(false, [.sl 8 true]), (false, [.sl 8 true])]
def G123 (F : T123) : GTy s123 := fun M e k => F M e.1.1 e.2.1.1 (fun y1 => k (.bool y1))
abbrev W123 (F : T123) : WT := wrap s123 (G123 F)
theorem k123 (F168 : T168) : KO [(168, W168 F168)] X123 123 f123 s123 (G123 (P123 F168)) := fun _ _ _ => by kernel_rfl
theorem ok123 : FnOk D 123 (W123 F123) := oW func123 (tc ok168 tn) (k123 F168)
abbrev T169 := (M : Type) -> LU -> LU -> Bool -> Int -> LU -> LU -> LU -> Bool -> Int -> LU -> (Bool -> Option M) -> Option M
def P169 (F90 : T90) : T169 := fun M a b c d f g h i j l k => F90 _ a b g h fun b1 => br (!b1) (k false) (br (!(c == i)) (k false) (br (d != j) (k false) (br (!(f == l)) (k false) (k true))))
def F169 : T169 := P169 F90
abbrev s169 : LSh := [(true, q9), (true, q9)]
def G169 (F : T169) : GTy s169 := fun M e k => let a:=e.1;let b:=a.2;let c:=b.2;let d:=c.2;let f:=d.2;let g:=e.2.1;let h:=g.2;let i:=h.2;let j:=i.2;let l:=j.2;F M a.1 b.1 c.1 d.1 f.1 g.1 h.1 i.1 j.1 l.1 (fun y1 => k (.bool y1))
abbrev W169 (F : T169) : WT := wrap s169 (G169 F)
theorem k169 (F90 : T90) : KO [(90, W90 F90)] noX 169 f169 s169 (G169 (P169 F90)) := fun _ _ _ => by kernel_rfl
theorem ok169 : FnOk D 169 (W169 F169) := oW func169 (tc ok90 tn) (k169 F90)
abbrev T124 := T72
def P124 (F169 : T169) : T124 := fun M a b k => br ((a.length : Int) != (b.length : Int)) (k false) (whileK (fun s1 => br (decide ((lI s1 2) < ((lL s1 0).length : Int))) (chk (0 <= (lI s1 2)) <| idx true q9 (lL s1 0) ((lI s1 2).toNat) fun (e2 : r5_) => chk (0 <= (lI s1 2)) <| idx true q9 (lL s1 1) ((lI s1 2).toNat) fun (e3 : r5_) => F169 _ e2.1 e2.2.1 e2.2.2.1 e2.2.2.2.1 e2.2.2.2.2.1 e3.1 e3.2.1 e3.2.2.1 e3.2.2.2.1 e3.2.2.2.2.1 fun b4 => br (!b4) (some (.inr (0, [.b false]))) (some (.inl [.l (lL s1 0), .l (lL s1 1), .i (IntKind.wrap .i64 ((lI s1 2) + 1))]))) (some (.inr (1, [])))) [.l a, .l b, .i 0] fun r5 => if r5.1 = 0 then k (lB r5.2 0) else k true)
def F124 : T124 := P124 F169
def X124 : Exits := fun i => lookN i [] [(4, [(.ret, xk 27 [(4, .bool false)] []), (.exit 0, xk 27 [] [])])]
abbrev s124 : LSh := [(false, [.sl 5 true]), (false, [.sl 5 true])]
def G124 (F : T124) : GTy s124 := fun M e k => F M e.1.1 e.2.1.1 (fun y1 => k (.bool y1))
abbrev W124 (F : T124) : WT := wrap s124 (G124 F)
theorem k124 (F169 : T169) : KO [(169, W169 F169)] X124 124 f124 s124 (G124 (P124 F169)) := fun _ _ _ => by kernel_rfl
theorem ok124 : FnOk D 124 (W124 F124) := oW func124 (tc ok169 tn) (k124 F169)
abbrev T125 := T72
def P125 (F90 : T90) : T125 := fun M a b k => br ((a.length : Int) != (b.length : Int)) (k false) (whileK (fun s1 => br (decide ((lI s1 2) < ((lL s1 0).length : Int))) (chk (0 <= (lI s1 2)) <| idx true [.str, .str] (lL s1 0) ((lI s1 2).toNat) fun (e2 : r11_) => chk (0 <= (lI s1 2)) <| idx true [.str, .str] (lL s1 1) ((lI s1 2).toNat) fun (e3 : r11_) => F90 _ e2.1 e2.2.1 e3.1 e3.2.1 fun b4 => br (!b4) (some (.inr (0, [.b false]))) (some (.inl [.l (lL s1 0), .l (lL s1 1), .i (IntKind.wrap .i64 ((lI s1 2) + 1))]))) (some (.inr (1, [])))) [.l a, .l b, .i 0] fun r5 => if r5.1 = 0 then k (lB r5.2 0) else k true)
def F125 : T125 := P125 F90
def X125 : Exits := fun i => lookN i [] [(4, [(.ret, xk 27 [(4, .bool false)] []), (.exit 0, xk 27 [] [])])]
abbrev s125 : LSh := s135
abbrev G125 := G135
abbrev W125 (F : T125) : WT := wrap s125 (G125 F)
theorem k125 (F90 : T90) : KO [(90, W90 F90)] X125 125 f125 s125 (G125 (P125 F90)) := fun _ _ _ => by kernel_rfl
theorem ok125 : FnOk D 125 (W125 F125) := oW func125 (tc ok90 tn) (k125 F90)
abbrev T69 := (M : Type) -> LU -> LU -> Bool -> LsV -> LsV -> LsV -> LU -> LU -> LsV -> Bool -> LsV -> LsV -> LsV -> LsV -> LsV -> Int -> Int -> Int -> Int -> LsV -> LsV -> Bool -> LU -> LU -> Bool -> LsV -> LsV -> LsV -> LU -> LU -> LsV -> Bool -> LsV -> LsV -> LsV -> LsV -> LsV -> Int -> Int -> Int -> Int -> LsV -> LsV -> Bool -> (Bool -> Option M) -> Option M
def P69 (F90 : T90) (F119 : T119) (F120 : T120) (F121 : T121) (F122 : T122) (F123 : T123) (F124 : T124) (F125 : T125) (F126 : T126) : T69 := fun M a b c d f g h i j l m n o p q r s t u v w x y z a1 c1 d1 f1 g1 h1 i1 j1 l1 m1 n1 o1 p1 q1 r1 s1 t1 u1 v1 w1 k => F90 _ a b y z fun b1 => br (!b1) (k false) (F119 _ c d f g h a1 c1 d1 f1 g1 fun b2 => br (!b2) (k false) (F120 _ i h1 fun b3 => br (!b3) (k false) (F121 _ j i1 fun b4 => br (!b4) (k false) (br (!(l == j1)) (k false) (F122 _ m n l1 m1 fun b5 => br (!b5) (k false) (F123 _ o n1 fun b6 => br (!b6) (k false) (F124 _ p o1 fun b7 => br (!b7) (k false) (F125 _ q p1 fun b8 => br (!b8) (k false) (br (r != q1) (k false) (br (s != r1) (k false) (br (t != s1) (k false) (br (u != t1) (k false) (F125 _ v u1 fun b9 => br (!b9) (k false) (F126 _ w v1 fun b10 => br (!b10) (k false) (br (!(x == w1)) (k false) (k true))))))))))))))))
def F69 : T69 := P69 F90 F119 F120 F121 F122 F123 F124 F125 F126
abbrev s69 : LSh := [(true, q2), (true, q2)]
def G69 (F : T69) : GTy s69 := fun M e k => let a:=e.1;let b:=a.2;let c:=b.2;let d:=c.2;let f:=d.2;let g:=f.2;let h:=g.2;let i:=h.2;let j:=i.2;let l:=j.2;let m:=l.2;let n:=m.2;let o:=n.2;let p:=o.2;let q:=p.2;let r:=q.2;let s:=r.2;let t:=s.2;let u:=t.2;let v:=u.2;let w:=v.2;let x:=w.2;let y:=e.2.1;let z:=y.2;let a1:=z.2;let b1:=a1.2;let c1:=b1.2;let d1:=c1.2;let f1:=d1.2;let g1:=f1.2;let h1:=g1.2;let i1:=h1.2;let j1:=i1.2;let l1:=j1.2;let m1:=l1.2;let n1:=m1.2;let o1:=n1.2;let p1:=o1.2;let q1:=p1.2;let r1:=q1.2;let s1:=r1.2;let t1:=s1.2;let u1:=t1.2;let v1:=u1.2;F M a.1 b.1 c.1 d.1 f.1 g.1 h.1 i.1 j.1 l.1 m.1 n.1 o.1 p.1 q.1 r.1 s.1 t.1 u.1 v.1 w.1 x.1 y.1 z.1 a1.1 b1.1 c1.1 d1.1 f1.1 g1.1 h1.1 i1.1 j1.1 l1.1 m1.1 n1.1 o1.1 p1.1 q1.1 r1.1 s1.1 t1.1 u1.1 v1.1 (fun y1 => k (.bool y1))
abbrev W69 (F : T69) : WT := wrap s69 (G69 F)
theorem k69 (F90 : T90) (F119 : T119) (F120 : T120) (F121 : T121) (F122 : T122) (F123 : T123) (F124 : T124) (F125 : T125) (F126 : T126) : KO [(90, W90 F90), (119, W119 F119), (120, W120 F120), (121, W121 F121), (122, W122 F122), (123, W123 F123), (124, W124 F124), (125, W125 F125), (126, W126 F126)] noX 69 f69 s69 (G69 (P69 F90 F119 F120 F121 F122 F123 F124 F125 F126)) := fun _ _ _ => by kernel_rfl
theorem ok69 : FnOk D 69 (W69 F69) := oW func69 (tc ok90 (tc ok119 (tc ok120 (tc ok121 (tc ok122 (tc ok123 (tc ok124 (tc ok125 (tc ok126 tn))))))))) (k69 F90 F119 F120 F121 F122 F123 F124 F125 F126)
abbrev T50 := T20
def P50 (F90 : T90) (F69 : T69) : T50 := fun M a b c d f g h i j l m n o p q r s t u v w x y z a1 c1 d1 f1 g1 h1 i1 j1 l1 m1 n1 o1 p1 q1 r1 s1 t1 u1 v1 w1 x1 y1 z1 a2 c2 d2 k => F90 _ a b c1 d1 fun b1 => br (!b1) (k false) (F69 _ c d f g h i j l m n o p q r s t u v w x y z f1 g1 h1 i1 j1 l1 m1 n1 o1 p1 q1 r1 s1 t1 u1 v1 w1 x1 y1 z1 a2 c2 fun b2 => br (!b2) (k false) (br (!(a1 == d2)) (k false) (k true)))
def F50 : T50 := P50 F90 F69
abbrev s50 : LSh := s20
abbrev G50 := G20
abbrev W50 (F : T50) : WT := wrap s50 (G50 F)
theorem k50 (F90 : T90) (F69 : T69) : KO [(90, W90 F90), (69, W69 F69)] noX 50 f50 s50 (G50 (P50 F90 F69)) := fun _ _ _ => by kernel_rfl
theorem ok50 : FnOk D 50 (W50 F50) := oW func50 (tc ok90 (tc ok69 tn)) (k50 F90 F69)
abbrev T23 := T72
def P23 (F50 : T50) : T23 := fun M a b k => br ((a.length : Int) != (b.length : Int)) (k false) (whileK (fun s1 => br (decide ((lI s1 2) < ((lL s1 0).length : Int))) (chk (0 <= (lI s1 2)) <| idx true q1 (lL s1 0) ((lI s1 2).toNat) fun (e2 : r10_) => chk (0 <= (lI s1 2)) <| idx true q1 (lL s1 1) ((lI s1 2).toNat) fun (e3 : r10_) => F50 _ e2.1 e2.2.1 e2.2.2.1 e2.2.2.2.1 e2.2.2.2.2.1 e2.2.2.2.2.2.1 e2.2.2.2.2.2.2.1 e2.2.2.2.2.2.2.2.1 e2.2.2.2.2.2.2.2.2.1 e2.2.2.2.2.2.2.2.2.2.1 e2.2.2.2.2.2.2.2.2.2.2.1 e2.2.2.2.2.2.2.2.2.2.2.2.1 e2.2.2.2.2.2.2.2.2.2.2.2.2.1 e2.2.2.2.2.2.2.2.2.2.2.2.2.2.1 e2.2.2.2.2.2.2.2.2.2.2.2.2.2.2.1 e2.2.2.2.2.2.2.2.2.2.2.2.2.2.2.2.1 e2.2.2.2.2.2.2.2.2.2.2.2.2.2.2.2.2.1 e2.2.2.2.2.2.2.2.2.2.2.2.2.2.2.2.2.2.1 e2.2.2.2.2.2.2.2.2.2.2.2.2.2.2.2.2.2.2.1 e2.2.2.2.2.2.2.2.2.2.2.2.2.2.2.2.2.2.2.2.1 e2.2.2.2.2.2.2.2.2.2.2.2.2.2.2.2.2.2.2.2.2.1 e2.2.2.2.2.2.2.2.2.2.2.2.2.2.2.2.2.2.2.2.2.2.1 e2.2.2.2.2.2.2.2.2.2.2.2.2.2.2.2.2.2.2.2.2.2.2.1 e2.2.2.2.2.2.2.2.2.2.2.2.2.2.2.2.2.2.2.2.2.2.2.2.1 e2.2.2.2.2.2.2.2.2.2.2.2.2.2.2.2.2.2.2.2.2.2.2.2.2.1 e3.1 e3.2.1 e3.2.2.1 e3.2.2.2.1 e3.2.2.2.2.1 e3.2.2.2.2.2.1 e3.2.2.2.2.2.2.1 e3.2.2.2.2.2.2.2.1 e3.2.2.2.2.2.2.2.2.1 e3.2.2.2.2.2.2.2.2.2.1 e3.2.2.2.2.2.2.2.2.2.2.1 e3.2.2.2.2.2.2.2.2.2.2.2.1 e3.2.2.2.2.2.2.2.2.2.2.2.2.1 e3.2.2.2.2.2.2.2.2.2.2.2.2.2.1 e3.2.2.2.2.2.2.2.2.2.2.2.2.2.2.1 e3.2.2.2.2.2.2.2.2.2.2.2.2.2.2.2.1 e3.2.2.2.2.2.2.2.2.2.2.2.2.2.2.2.2.1 e3.2.2.2.2.2.2.2.2.2.2.2.2.2.2.2.2.2.1 e3.2.2.2.2.2.2.2.2.2.2.2.2.2.2.2.2.2.2.1 e3.2.2.2.2.2.2.2.2.2.2.2.2.2.2.2.2.2.2.2.1 e3.2.2.2.2.2.2.2.2.2.2.2.2.2.2.2.2.2.2.2.2.1 e3.2.2.2.2.2.2.2.2.2.2.2.2.2.2.2.2.2.2.2.2.2.1 e3.2.2.2.2.2.2.2.2.2.2.2.2.2.2.2.2.2.2.2.2.2.2.1 e3.2.2.2.2.2.2.2.2.2.2.2.2.2.2.2.2.2.2.2.2.2.2.2.1 e3.2.2.2.2.2.2.2.2.2.2.2.2.2.2.2.2.2.2.2.2.2.2.2.2.1 fun b4 => br (!b4) (some (.inr (0, [.b false]))) (some (.inl [.l (lL s1 0), .l (lL s1 1), .i (IntKind.wrap .i64 ((lI s1 2) + 1))]))) (some (.inr (1, [])))) [.l a, .l b, .i 0] fun r5 => if r5.1 = 0 then k (lB r5.2 0) else k true)
def F23 : T23 := P23 F50
def X23 : Exits := fun i => lookN i [] [(4, [(.ret, xk 27 [(4, .bool false)] []), (.exit 0, xk 27 [] [])])]
abbrev s23 : LSh := [(false, [.sl 25 false]), (false, [.sl 25 false])]
def G23 (F : T23) : GTy s23 := fun M e k => F M e.1.1 e.2.1.1 (fun y1 => k (.bool y1))
abbrev W23 (F : T23) : WT := wrap s23 (G23 F)
theorem k23 (F50 : T50) : KO [(50, W50 F50)] X23 23 f23 s23 (G23 (P23 F50)) := fun _ _ _ => by kernel_rfl
theorem ok23 : FnOk D 23 (W23 F23) := oW func23 (tc ok50 tn) (k23 F50)
abbrev T9 := T6
def P9 (F23 : T23) : T9 := fun M a b c d k => F23 _ a c fun b1 => br (!b1) (k false) (br (b != d) (k false) (k true))
def F9 : T9 := P9 F23
abbrev s9 : LSh := s6
abbrev G9 := G6
abbrev W9 (F : T9) : WT := wrap s9 (G9 F)
theorem k9 (F23 : T23) : KO [(23, W23 F23)] noX 9 f9 s9 (G9 (P9 F23)) := fun _ _ _ => by kernel_rfl
theorem ok9 : FnOk D 9 (W9 F9) := oW func9 (tc ok23 tn) (k9 F23)
abbrev T127 := (M : Type) -> LU -> LU -> Int -> Int -> LU -> Int -> Bool -> LU -> LU -> LU -> Int -> Int -> LU -> Int -> Bool -> LU -> (Bool -> Option M) -> Option M
def P127 (F90 : T90) (F170 : T170) : T127 := fun M a b c d f g h i j l m n o p q r k => F90 _ a b j l fun b1 => br (!b1) (k false) (F170 _ c d f g h i m n o p q r fun b2 => br (!b2) (k false) (k true))
def F127 : T127 := P127 F90 F170
abbrev s127 : LSh := [(true, q8), (true, q8)]
def G127 (F : T127) : GTy s127 := fun M e k => let a:=e.1;let b:=a.2;let c:=b.2;let d:=c.2;let f:=d.2;let g:=f.2;let h:=g.2;let i:=h.2;let j:=e.2.1;let l:=j.2;let m:=l.2;let n:=m.2;let o:=n.2;let p:=o.2;let q:=p.2;let r:=q.2;F M a.1 b.1 c.1 d.1 f.1 g.1 h.1 i.1 j.1 l.1 m.1 n.1 o.1 p.1 q.1 r.1 (fun y1 => k (.bool y1))
abbrev W127 (F : T127) : WT := wrap s127 (G127 F)
theorem k127 (F90 : T90) (F170 : T170) : KO [(90, W90 F90), (170, W170 F170)] noX 127 f127 s127 (G127 (P127 F90 F170)) := fun _ _ _ => by kernel_rfl
theorem ok127 : FnOk D 127 (W127 F127) := oW func127 (tc ok90 (tc ok170 tn)) (k127 F90 F170)
abbrev T70 := T72
def P70 (F127 : T127) : T70 := fun M a b k => br ((a.length : Int) != (b.length : Int)) (k false) (whileK (fun s1 => br (decide ((lI s1 2) < ((lL s1 0).length : Int))) (chk (0 <= (lI s1 2)) <| idx true q8 (lL s1 0) ((lI s1 2).toNat) fun (e2 : r6_) => chk (0 <= (lI s1 2)) <| idx true q8 (lL s1 1) ((lI s1 2).toNat) fun (e3 : r6_) => F127 _ e2.1 e2.2.1 e2.2.2.1 e2.2.2.2.1 e2.2.2.2.2.1 e2.2.2.2.2.2.1 e2.2.2.2.2.2.2.1 e2.2.2.2.2.2.2.2.1 e3.1 e3.2.1 e3.2.2.1 e3.2.2.2.1 e3.2.2.2.2.1 e3.2.2.2.2.2.1 e3.2.2.2.2.2.2.1 e3.2.2.2.2.2.2.2.1 fun b4 => br (!b4) (some (.inr (0, [.b false]))) (some (.inl [.l (lL s1 0), .l (lL s1 1), .i (IntKind.wrap .i64 ((lI s1 2) + 1))]))) (some (.inr (1, [])))) [.l a, .l b, .i 0] fun r5 => if r5.1 = 0 then k (lB r5.2 0) else k true)
def F70 : T70 := P70 F127
def X70 : Exits := fun i => lookN i [] [(4, [(.ret, xk 27 [(4, .bool false)] []), (.exit 0, xk 27 [] [])])]
abbrev s70 : LSh := s123
abbrev G70 := G123
abbrev W70 (F : T70) : WT := wrap s70 (G70 F)
theorem k70 (F127 : T127) : KO [(127, W127 F127)] X70 70 f70 s70 (G70 (P70 F127)) := fun _ _ _ => by kernel_rfl
theorem ok70 : FnOk D 70 (W70 F70) := oW func70 (tc ok127 tn) (k70 F127)
abbrev T33 := (M : Type) -> Bool -> LU -> LU -> Bool -> LsV -> LsV -> LsV -> LU -> LU -> LsV -> Bool -> LsV -> LsV -> LsV -> LsV -> LsV -> Int -> Int -> Int -> Int -> LsV -> LsV -> Bool -> LsV -> LsV -> Int -> Bool -> LU -> LU -> Bool -> LsV -> LsV -> LsV -> LU -> LU -> LsV -> Bool -> LsV -> LsV -> LsV -> LsV -> LsV -> Int -> Int -> Int -> Int -> LsV -> LsV -> Bool -> LsV -> LsV -> Int -> (Bool -> Option M) -> Option M
def P33 (F69 : T69) (F70 : T70) (F66 : T66) : T33 := fun M a b c d f g h i j l m n o p q r s t u v w x y z a1 c1 d1 f1 g1 h1 i1 j1 l1 m1 n1 o1 p1 q1 r1 s1 t1 u1 v1 w1 x1 y1 z1 a2 c2 d2 f2 g2 k => br (!(a == d1)) (k false) (F69 _ b c d f g h i j l m n o p q r s t u v w x y f1 g1 h1 i1 j1 l1 m1 n1 o1 p1 q1 r1 s1 t1 u1 v1 w1 x1 y1 z1 a2 c2 fun b1 => br (!b1) (k false) (F70 _ z d2 fun b2 => br (!b2) (k false) (F66 _ a1 f2 fun b3 => br (!b3) (k false) (br (c1 != g2) (k false) (k true)))))
def F33 : T33 := P33 F69 F70 F66
abbrev s33 : LSh := [(true, q4), (true, q4)]
def G33 (F : T33) : GTy s33 := fun M e k => let a:=e.1;let b:=a.2;let c:=b.2;let d:=c.2;let f:=d.2;let g:=f.2;let h:=g.2;let i:=h.2;let j:=i.2;let l:=j.2;let m:=l.2;let n:=m.2;let o:=n.2;let p:=o.2;let q:=p.2;let r:=q.2;let s:=r.2;let t:=s.2;let u:=t.2;let v:=u.2;let w:=v.2;let x:=w.2;let y:=x.2;let z:=y.2;let a1:=z.2;let b1:=a1.2;let c1:=e.2.1;let d1:=c1.2;let f1:=d1.2;let g1:=f1.2;let h1:=g1.2;let i1:=h1.2;let j1:=i1.2;let l1:=j1.2;let m1:=l1.2;let n1:=m1.2;let o1:=n1.2;let p1:=o1.2;let q1:=p1.2;let r1:=q1.2;let s1:=r1.2;let t1:=s1.2;let u1:=t1.2;let v1:=u1.2;let w1:=v1.2;let x1:=w1.2;let y1:=x1.2;let z1:=y1.2;let a2:=z1.2;let b2:=a2.2;let c2:=b2.2;let d2:=c2.2;F M a.1 b.1 c.1 d.1 f.1 g.1 h.1 i.1 j.1 l.1 m.1 n.1 o.1 p.1 q.1 r.1 s.1 t.1 u.1 v.1 w.1 x.1 y.1 z.1 a1.1 b1.1 c1.1 d1.1 f1.1 g1.1 h1.1 i1.1 j1.1 l1.1 m1.1 n1.1 o1.1 p1.1 q1.1 r1.1 s1.1 t1.1 u1.1 v1.1 w1.1 x1.1 y1.1 z1.1 a2.1 b2.1 c2.1 d2.1 (fun y1 => k (.bool y1))
abbrev W33 (F : T33) : WT := wrap s33 (G33 F)
theorem k33 (F69 : T69) (F70 : T70) (F66 : T66) : KO [(69, W69 F69), (70, W70 F70), (66, W66 F66)] noX 33 f33 s33 (G33 (P33 F69 F70 F66)) := fun _ _ _ => by kernel_rfl
theorem ok33 : FnOk D 33 (W33 F33) := oW func33 (tc ok69 (tc ok70 (tc ok66 tn))) (k33 F69 F70 F66)
abbrev T14 := T11
def P14 (F32 : T32) (F9 : T9) (F33 : T33) : T14 := fun M a b c d f g h i j l m n o p q r s t u v w x y z a1 c1 d1 f1 g1 h1 i1 j1 l1 m1 n1 o1 p1 q1 r1 s1 t1 u1 v1 w1 x1 y1 z1 a2 c2 d2 f2 g2 h2 i2 j2 l2 m2 n2 o2 p2 q2 r2 s2 t2 u2 v2 k => F32 _ a b c d m1 n1 o1 p1 fun b1 => br (!b1) (k false) (F9 _ f g q1 r1 fun b2 => br (!b2) (k false) (F33 _ h i j l m n o p q r s t u v w x y z a1 c1 d1 f1 g1 h1 i1 j1 s1 t1 u1 v1 w1 x1 y1 z1 a2 c2 d2 f2 g2 h2 i2 j2 l2 m2 n2 o2 p2 q2 r2 s2 t2 u2 fun b3 => br (!b3) (k false) (br (!(l1 == v2)) (k false) (k true))))
def F14 : T14 := P14 F32 F9 F33
abbrev s14 : LSh := s11
abbrev G14 := G11
abbrev W14 (F : T14) : WT := wrap s14 (G14 F)
theorem k14 (F32 : T32) (F9 : T9) (F33 : T33) : KO [(32, W32 F32), (9, W9 F9), (33, W33 F33)] noX 14 f14 s14 (G14 (P14 F32 F9 F33)) := fun _ _ _ => by kernel_rfl
theorem ok14 : FnOk D 14 (W14 F14) := oW func14 (tc ok32 (tc ok9 (tc ok33 tn))) (k14 F32 F9 F33)
abbrev T4 := T11
def P4 (F10 : T10) (F12 : T12) (F11 : T11) (F13 : T13) (F14 : T14) : T4 := fun M a b c d f g h i j l m n o p q r s t u v w x y z a1 b1 c1 d1 f1 g1 h1 i1 j1 l1 m1 o1 p1 q1 r1 s1 t1 u1 v1 w1 x1 y1 z1 a2 b2 c2 d2 f2 g2 h2 i2 j2 l2 m2 o2 p2 q2 r2 s2 t2 u2 v2 k => F10 _ a b c d f g h i j l m n o p q r s t u v w x y z a1 b1 c1 d1 f1 g1 h1 i1 j1 1048576 fun n1 => br (decide (n1 < 0)) (k true) (F10 _ l1 m1 o1 p1 q1 r1 s1 t1 u1 v1 w1 x1 y1 z1 a2 b2 c2 d2 f2 g2 h2 i2 j2 l2 m2 o2 p2 q2 r2 s2 t2 u2 v2 n1 fun n2 => br (decide (n2 < 0)) (k true) (F12 _ a b c d f g h i j l m n o p q r s t u v w x y z a1 b1 c1 d1 f1 g1 h1 i1 j1 fun l3 l4 l5 n6 l7 n8 b9 t10 t11 b12 l13 l14 l15 t16 t17 l18 b19 l20 l21 l22 l23 l24 n25 n26 n27 n28 l29 l30 b31 l32 l33 n34 b35 => F12 _ l1 m1 o1 p1 q1 r1 s1 t1 u1 v1 w1 x1 y1 z1 a2 b2 c2 d2 f2 g2 h2 i2 j2 l2 m2 o2 p2 q2 r2 s2 t2 u2 v2 fun l36 l37 l38 n39 l40 n41 b42 t43 t44 b45 l46 l47 l48 t49 t50 l51 b52 l53 l54 l55 l56 l57 n58 n59 n60 n61 l62 l63 b64 l65 l66 n67 b68 => F11 _ l3 l4 l5 n6 l7 n8 b9 t10 t11 b12 l13 l14 l15 t16 t17 l18 b19 l20 l21 l22 l23 l24 n25 n26 n27 n28 l29 l30 b31 l32 l33 n34 b35 l36 l37 l38 n39 l40 n41 b42 t43 t44 b45 l46 l47 l48 t49 t50 l51 b52 l53 l54 l55 l56 l57 n58 n59 n60 n61 l62 l63 b64 l65 l66 n67 b68 fun b69 => F12 _ a b c d f g h i j l m n o p q r s t u v w x y z a1 b1 c1 d1 f1 g1 h1 i1 j1 fun l70 l71 l72 n73 l74 n75 b76 t77 t78 b79 l80 l81 l82 t83 t84 l85 b86 l87 l88 l89 l90 l91 n92 n93 n94 n95 l96 l97 b98 l99 l100 n101 b102 => F12 _ l1 m1 o1 p1 q1 r1 s1 t1 u1 v1 w1 x1 y1 z1 a2 b2 c2 d2 f2 g2 h2 i2 j2 l2 m2 o2 p2 q2 r2 s2 t2 u2 v2 fun l103 l104 l105 n106 l107 n108 b109 t110 t111 b112 l113 l114 l115 t116 t117 l118 b119 l120 l121 l122 l123 l124 n125 n126 n127 n128 l129 l130 b131 l132 l133 n134 b135 => F13 _ l70 l71 l72 n73 l74 n75 b76 t77 t78 b79 l80 l81 l82 t83 t84 l85 b86 l87 l88 l89 l90 l91 n92 n93 n94 n95 l96 l97 b98 l99 l100 n101 b102 l103 l104 l105 n106 l107 n108 b109 t110 t111 b112 l113 l114 l115 t116 t117 l118 b119 l120 l121 l122 l123 l124 n125 n126 n127 n128 l129 l130 b131 l132 l133 n134 b135 fun b136 => br (!(b136 == b69)) (k false) (F12 _ a b c d f g h i j l m n o p q r s t u v w x y z a1 b1 c1 d1 f1 g1 h1 i1 j1 fun l137 l138 l139 n140 l141 n142 b143 t144 t145 b146 l147 l148 l149 t150 t151 l152 b153 l154 l155 l156 l157 l158 n159 n160 n161 n162 l163 l164 b165 l166 l167 n168 b169 => F14 _ l70 l71 l72 n73 l74 n75 b76 t77 t78 b79 l80 l81 l82 t83 t84 l85 b86 l87 l88 l89 l90 l91 n92 n93 n94 n95 l96 l97 b98 l99 l100 n101 b102 l137 l138 l139 n140 l141 n142 b143 t144 t145 b146 l147 l148 l149 t150 t151 l152 b153 l154 l155 l156 l157 l158 n159 n160 n161 n162 l163 l164 b165 l166 l167 n168 b169 fun b170 => br (!b170) (k false) (F12 _ l1 m1 o1 p1 q1 r1 s1 t1 u1 v1 w1 x1 y1 z1 a2 b2 c2 d2 f2 g2 h2 i2 j2 l2 m2 o2 p2 q2 r2 s2 t2 u2 v2 fun l171 l172 l173 n174 l175 n176 b177 t178 t179 b180 l181 l182 l183 t184 t185 l186 b187 l188 l189 l190 l191 l192 n193 n194 n195 n196 l197 l198 b199 l200 l201 n202 b203 => F14 _ l103 l104 l105 n106 l107 n108 b109 t110 t111 b112 l113 l114 l115 t116 t117 l118 b119 l120 l121 l122 l123 l124 n125 n126 n127 n128 l129 l130 b131 l132 l133 n134 b135 l171 l172 l173 n174 l175 n176 b177 t178 t179 b180 l181 l182 l183 t184 t185 l186 b187 l188 l189 l190 l191 l192 n193 n194 n195 n196 l197 l198 b199 l200 l201 n202 b203 fun b204 => br (!b204) (k false) (k true)))))
def F4 : T4 := P4 F10 F12 F11 F13 F14
abbrev s4 : LSh := s11
abbrev G4 := G11
abbrev W4 (F : T4) : WT := wrap s4 (G4 F)
theorem k4 (F10 : T10) (F12 : T12) (F11 : T11) (F13 : T13) (F14 : T14) : KO [(10, W10 F10), (12, W12 F12), (11, W11 F11), (13, W13 F13), (14, W14 F14)] noX 4 f4 s4 (G4 (P4 F10 F12 F11 F13 F14)) := fun _ _ _ => by kernel_rfl
theorem ok4 : FnOk D 4 (W4 F4) := oW func4 (tc ok10 (tc ok12 (tc ok11 (tc ok13 (tc ok14 tn))))) (k4 F10 F12 F11 F13 F14)
abbrev T3 := T6
def P3 (F5 : T5) (F7 : T7) (F6 : T6) (F8 : T8) (F9 : T9) : T3 := fun M a b c d k => F5 _ a b 1048576 fun n1 => br (decide (n1 < 0)) (k true) (F5 _ c d n1 fun n2 => br (decide (n2 < 0)) (k true) (F7 _ a b fun l3 n4 => F7 _ c d fun l5 n6 => F6 _ l3 n4 l5 n6 fun b7 => F7 _ a b fun l8 n9 => F7 _ c d fun l10 n11 => F8 _ l8 n9 l10 n11 fun b12 => br (!(b12 == b7)) (k false) (F7 _ a b fun l13 n14 => F9 _ l8 n9 l13 n14 fun b15 => br (!b15) (k false) (F7 _ c d fun l16 n17 => F9 _ l10 n11 l16 n17 fun b18 => br (!b18) (k false) (k true)))))
abbrev s3 : LSh := s6
abbrev G3 := G6
theorem k3 (F5 : T5) (F7 : T7) (F6 : T6) (F8 : T8) (F9 : T9) : KO [(5, W5 F5), (7, W7 F7), (6, W6 F6), (8, W8 F8), (9, W9 F9)] noX 3 f3 s3 (G3 (P3 F5 F7 F6 F8 F9)) := fun _ _ _ => by kernel_rfl
end
end Go.Am

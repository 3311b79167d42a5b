/-
  Functions of the program, extracted by program (sym.py) out of their code: what each computes, and, by the kernel's reckoning, that the machine's looking form computes just that; so what the machine answers.
-/
import Derived.Test.YtbpoaadkjjfmgaaGreatDoorAmCfg
import Derived.Test.YtbpoaadkjjfmgaaGreatDoorAmEvOk2
import Derived.KernelRfl
set_option maxRecDepth 10000
set_option linter.unusedVariables false
namespace Go.Am
open Go Go.Proofs
noncomputable section
abbrev WT : Type 1 := (β : Type) → List V → (V → Option β) → Option β
abbrev LU := List UInt8
abbrev LV := List V
abbrev q0 : List CK := [.str, .str, .str, .str, .bool, .sl 1 true, .sl 1 true, .sl 1 true, .str, .str, .sl 4 false, .bool, .sl 4 false, .sl 1 true, .sl 8 true, .sl 5 true, .sl 2 true, .int .i64, .int .i64, .int .i64, .int .i64, .sl 2 true, .sl 1 true, .bool, .bool]
abbrev q1 : List CK := [.sl 2 false, .sl 10 true, .sl 4 true, .int .i64, .sl 25 false, .int .i64, .bool, .str, .str, .bool, .sl 1 true, .sl 1 true, .sl 1 true, .str, .str, .sl 4 false, .bool, .sl 4 false, .sl 1 true, .sl 8 true, .sl 5 true, .sl 2 true, .int .i64, .int .i64, .int .i64, .int .i64, .sl 2 true, .sl 1 true, .bool, .sl 8 true, .sl 2 false, .int .i64, .bool]
abbrev q2 : List CK := [.str, .str, .bool, .sl 1 true, .sl 1 true, .sl 1 true, .str, .str, .sl 4 false, .bool, .sl 4 false, .sl 1 true, .sl 8 true, .sl 5 true, .sl 2 true, .int .i64, .int .i64, .int .i64, .int .i64, .sl 2 true, .sl 1 true, .bool]
abbrev q3 : List CK := [.str, .str, .str, .int .i64, .int .i64, .str, .int .i64, .bool, .str, .int .i64]
abbrev q4 : List CK := [.bool, .str, .str, .bool, .sl 1 true, .sl 1 true, .sl 1 true, .str, .str, .sl 4 false, .bool, .sl 4 false, .sl 1 true, .sl 8 true, .sl 5 true, .sl 2 true, .int .i64, .int .i64, .int .i64, .int .i64, .sl 2 true, .sl 1 true, .bool, .sl 8 true, .sl 2 false, .int .i64]
abbrev q5 : List CK := [.int .i64, .str, .str, .str, .int .i64, .bool, .int .i64, .str]
abbrev q6 : List CK := [.str, .int .i64, .int .i64, .str, .int .i64, .bool, .str]
abbrev q7 : List CK := [.str, .str, .int .i64, .sl 2 true]
abbrev q8 : List CK := [.str, .str, .int .i64, .int .i64, .str, .int .i64, .bool, .str]
abbrev q9 : List CK := [.sl 2 false, .sl 10 true, .sl 4 true, .int .i64]
abbrev q10 : List CK := [.str, .str, .bool, .int .i64, .str]
abbrev q11 : List CK := [.bool, .sl 1 true, .sl 1 true, .sl 1 true, .str]
abbrev q12 : List CK := [.str, .str, .str, .bool]
abbrev q13 : List CK := [.int .i64, .int .i64, .str, .int .i64, .bool, .str]
abbrev q14 : List CK := [.int .i64, .str, .sl 2 true, .str]
abbrev q15 : List CK := [.sl 25 false, .int .i64]
abbrev q16 : List CK := [.sl 4 false, .sl 1 true]
abbrev r0_ := Int × List UInt8 × List UInt8 × List UInt8 × Int × Bool × Int × List UInt8 × Unit
abbrev r1_ := Int × List UInt8 × List V × List UInt8 × Unit
abbrev r3_ := List UInt8 × Int × Int × List UInt8 × Int × Bool × List UInt8 × Unit
abbrev r4_ := List UInt8 × List UInt8 × Bool × Int × List UInt8 × Unit
abbrev r5_ := List UInt8 × List UInt8 × Int × Int × List UInt8 × Int × Bool × List UInt8 × Unit
abbrev r6_ := List UInt8 × List UInt8 × Int × List V × Unit
abbrev r7_ := List UInt8 × List UInt8 × List UInt8 × Bool × Unit
abbrev r8_ := List UInt8 × List UInt8 × List UInt8 × Int × Int × List UInt8 × Int × Bool × List UInt8 × Int × Unit
abbrev r9_ := List UInt8 × List UInt8 × List UInt8 × List UInt8 × Bool × List V × List V × List V × List UInt8 × List UInt8 × List V × Bool × List V × List V × List V × List V × List V × Int × Int × Int × Int × List V × List V × Bool × Bool × Unit
abbrev r10_ := List UInt8 × List UInt8 × Unit
abbrev r11_ := List UInt8 × List V × Unit
abbrev r12_ := List UInt8 × Unit
abbrev KO (tab : List (Nat × WT)) (X : Exits) (f : Nat) (fn : Func) (s : List (Bool × List CK)) (G : (β : Type) → argsT s → (V → Option β) → Option β) : Prop := ∀ (β : Type) (e : argsT s) (k : V → Option β), fnK cfg (tabL tab) X f fn β (argsEnc s e) k = G β e k
theorem oW {ext : Nat → List V → Option V} {f : Nat} {fn : Func} {tab : List (Nat × WT)} {X : Exits} {s : List (Bool × List CK)} {G : (β : Type) → argsT s → (V → Option β) → Option β} (hf : Tryz.prog.funcs[f]? = some fn) (hl : ∀ β, TabOk (den Tryz.prog cfg ext) (tabL tab β)) (hk : KO tab X f fn s G) (he : ∀ args, ext f args = none := by exact fun _ => rfl) (hn : (fn.name == "runtime.NumGoroutine") = false := by exact rfl) : FnOk (den Tryz.prog cfg ext) f (wrap s G) := fn_okW tab X he hf hn hl hk
theorem tn {d : Nat → List V → Option V} : ∀ β, TabOk d (tabL [] β) := tabL_nil
theorem tc {d : Nat → List V → Option V} {f : Nat} {w : WT} {l : List (Nat × WT)} (hf : FnOk d f w) (hl : ∀ β, TabOk d (tabL l β)) : ∀ β, TabOk d (tabL ((f, w) :: l) β) := tabL_cons hf hl
abbrev T142 : Type 1 := (β : Type) → Int → Int → LU → Int → Bool → LU → Int → (Int → Option β) → Option β
def P142 : T142 := fun β c d a f g b left k =>
 br (decide (IntKind.wrap .i64 (left - (a.length : Int)) < 0)) (
 k (-1)) (
 br (decide (IntKind.wrap .i64 ((IntKind.wrap .i64 (left - (a.length : Int))) - (b.length : Int)) < 0)) (
 k (-1)) (
 k (IntKind.wrap .i64 ((IntKind.wrap .i64 (left - (a.length : Int))) - (b.length : Int)))))
def F142 : T142 := P142
abbrev s142 : List (Bool × List CK) := [(true, q13), (false, [.int .i64])]
def G142 (F : T142) (β : Type) (e : argsT s142) (k : V → Option β) : Option β := let a:=e.1;let b:=a.2;let c:=b.2;let d:=c.2;let f:=d.2;let g:=f.2;F β a.1 b.1 c.1 d.1 f.1 g.1 e.2.1.1 (fun y1 => k (.int .i64 y1))
abbrev W142 (F : T142) : WT := wrap s142 (G142 F)
theorem k142 : KO [] noX 142 Tryz.f142 s142 (G142 (P142)) := fun _ _ _ => by kernel_rfl
theorem ok142 : FnOk D 142 (W142 F142) := oW Tryz.func142 (tn) (k142 )
abbrev T170 : Type 1 := (β : Type) → LU → Int → Int → LU → Int → Bool → LU → Int → (Int → Option β) → Option β
def P170 (F142 : T142) : T170 := fun β a b c d f g h left k =>
 br (decide (IntKind.wrap .i64 (left - (a.length : Int)) < 0)) (
 k (-1)) (
 F142 _ b c d f g h (IntKind.wrap .i64 (left - (a.length : Int))) fun n1 =>
 br (decide (n1 < 0)) (
 k (-1)) (
 k n1))
def F170 : T170 := P170 F142
abbrev s170 : List (Bool × List CK) := [(true, q6), (false, [.int .i64])]
def G170 (F : T170) (β : Type) (e : argsT s170) (k : V → Option β) : Option β := let a:=e.1;let b:=a.2;let c:=b.2;let d:=c.2;let f:=d.2;let g:=f.2;let h:=g.2;F β a.1 b.1 c.1 d.1 f.1 g.1 h.1 e.2.1.1 (fun y1 => k (.int .i64 y1))
abbrev W170 (F : T170) : WT := wrap s170 (G170 F)
theorem k170 (F142 : T142) : KO [(142, W142 F142)] noX 170 Tryz.f170 s170 (G170 (P170 F142)) := fun _ _ _ => by kernel_rfl
theorem ok170 : FnOk D 170 (W170 F170) := oW Tryz.func170 (tc ok142 tn) (k170 F142 )
abbrev T135 : Type 1 := (β : Type) → LV → Int → (Int → Option β) → Option β
def P135 (F170 : T170) : T135 := fun β a left k =>
 br (decide (IntKind.wrap .i64 (left - (a.length : Int)) < 0)) (
 k (-1)) (
 whileK (fun s1 =>
 br (decide ((lI s1 2) < ((lL s1 0).length : Int))) (
 chk (0 ≤ (lI s1 2)) <|
 idx true q6 (lL s1 0) ((lI s1 2).toNat) fun (e2 : r3_) =>
 F170 _ e2.1 e2.2.1 e2.2.2.1 e2.2.2.2.1 e2.2.2.2.2.1 e2.2.2.2.2.2.1 e2.2.2.2.2.2.2.1 (lI s1 1) fun n3 =>
 br (decide (n3 < 0)) (
 some (.inr (0, [.i n3, .i (-1)]))) (
 some (.inl [.l (lL s1 0), .i n3, .i (IntKind.wrap .i64 ((lI s1 2) + 1))]))) (
 some (.inr (1, [.i (lI s1 1)])))) [.l a, .i (IntKind.wrap .i64 (left - (a.length : Int))), .i 0] fun r4 =>
 if r4.1 = 0 then
 k (lI r4.2 1)
 else
 k (lI r4.2 0))
def F135 : T135 := P135 F170
def X135 : Exits := fun i => lookN i [] [(5, [(.ret, xk 27 [(1, .int .i64 0), (4, .int .i64 0)] []), (.exit 0, xk 27 [(1, .int .i64 0)] [])])]
abbrev s135 : List (Bool × List CK) := [(false, [.sl 7 true]), (false, [.int .i64])]
def G135 (F : T135) (β : Type) (e : argsT s135) (k : V → Option β) : Option β := F β e.1.1 e.2.1.1 (fun y1 => k (.int .i64 y1))
abbrev W135 (F : T135) : WT := wrap s135 (G135 F)
theorem k135 (F170 : T170) : KO [(170, W170 F170)] X135 135 Tryz.f135 s135 (G135 (P135 F170)) := fun _ _ _ => by kernel_rfl
theorem ok135 : FnOk D 135 (W135 F135) := oW Tryz.func135 (tc ok170 tn) (k135 F170 )
abbrev T74 : Type 1 := (β : Type) → LU → LV → Int → (Int → Option β) → Option β
def P74 (F135 : T135) : T74 := fun β a b left k =>
 br (decide (IntKind.wrap .i64 (left - (a.length : Int)) < 0)) (
 k (-1)) (
 F135 _ b (IntKind.wrap .i64 (left - (a.length : Int))) fun n1 =>
 br (decide (n1 < 0)) (
 k (-1)) (
 k n1))
def F74 : T74 := P74 F135
abbrev s74 : List (Bool × List CK) := [(true, [.str, .sl 7 true]), (false, [.int .i64])]
def G74 (F : T74) (β : Type) (e : argsT s74) (k : V → Option β) : Option β := F β e.1.1 e.1.2.1 e.2.1.1 (fun y1 => k (.int .i64 y1))
abbrev W74 (F : T74) : WT := wrap s74 (G74 F)
theorem k74 (F135 : T135) : KO [(135, W135 F135)] noX 74 Tryz.f74 s74 (G74 (P74 F135)) := fun _ _ _ => by kernel_rfl
theorem ok74 : FnOk D 74 (W74 F74) := oW Tryz.func74 (tc ok135 tn) (k74 F135 )
abbrev T33 : Type 1 := T135
def P33 (F74 : T74) : T33 := fun β a left k =>
 br (decide (IntKind.wrap .i64 (left - (a.length : Int)) < 0)) (
 k (-1)) (
 whileK (fun s1 =>
 br (decide ((lI s1 2) < ((lL s1 0).length : Int))) (
 chk (0 ≤ (lI s1 2)) <|
 idx true [.str, .sl 7 true] (lL s1 0) ((lI s1 2).toNat) fun (e2 : r11_) =>
 F74 _ e2.1 e2.2.1 (lI s1 1) fun n3 =>
 br (decide (n3 < 0)) (
 some (.inr (0, [.i n3, .i (-1)]))) (
 some (.inl [.l (lL s1 0), .i n3, .i (IntKind.wrap .i64 ((lI s1 2) + 1))]))) (
 some (.inr (1, [.i (lI s1 1)])))) [.l a, .i (IntKind.wrap .i64 (left - (a.length : Int))), .i 0] fun r4 =>
 if r4.1 = 0 then
 k (lI r4.2 1)
 else
 k (lI r4.2 0))
def F33 : T33 := P33 F74
def X33 : Exits := fun i => lookN i [] [(5, [(.ret, xk 27 [(1, .int .i64 0), (4, .int .i64 0)] []), (.exit 0, xk 27 [(1, .int .i64 0)] [])])]
abbrev s33 : List (Bool × List CK) := [(false, [.sl 2 false]), (false, [.int .i64])]
def G33 (F : T33) (β : Type) (e : argsT s33) (k : V → Option β) : Option β := F β e.1.1 e.2.1.1 (fun y1 => k (.int .i64 y1))
abbrev W33 (F : T33) : WT := wrap s33 (G33 F)
theorem k33 (F74 : T74) : KO [(74, W74 F74)] X33 33 Tryz.f33 s33 (G33 (P33 F74)) := fun _ _ _ => by kernel_rfl
theorem ok33 : FnOk D 33 (W33 F33) := oW Tryz.func33 (tc ok74 tn) (k33 F74 )
abbrev T78 : Type 1 := (β : Type) → LU → LU → Int → (Int → Option β) → Option β
def P78 : T78 := fun β a b left k =>
 br (decide (IntKind.wrap .i64 (left - (a.length : Int)) < 0)) (
 k (-1)) (
 br (decide (IntKind.wrap .i64 ((IntKind.wrap .i64 (left - (a.length : Int))) - (b.length : Int)) < 0)) (
 k (-1)) (
 k (IntKind.wrap .i64 ((IntKind.wrap .i64 (left - (a.length : Int))) - (b.length : Int)))))
def F78 : T78 := P78
abbrev s78 : List (Bool × List CK) := [(true, [.str, .str]), (false, [.int .i64])]
def G78 (F : T78) (β : Type) (e : argsT s78) (k : V → Option β) : Option β := F β e.1.1 e.1.2.1 e.2.1.1 (fun y1 => k (.int .i64 y1))
abbrev W78 (F : T78) : WT := wrap s78 (G78 F)
theorem k78 : KO [] noX 78 Tryz.f78 s78 (G78 (P78)) := fun _ _ _ => by kernel_rfl
theorem ok78 : FnOk D 78 (W78 F78) := oW Tryz.func78 (tn) (k78 )
abbrev T136 : Type 1 := (β : Type) → LU → LU → LU → Int → Int → LU → Int → Bool → LU → Int → Int → (Int → Option β) → Option β
def P136 (F78 : T78) (F142 : T142) : T136 := fun β a b c d f g h i j l left k =>
 br (decide (IntKind.wrap .i64 (left - (a.length : Int)) < 0)) (
 k (-1)) (
 F78 _ b c (IntKind.wrap .i64 (left - (a.length : Int))) fun n1 =>
 br (decide (n1 < 0)) (
 k (-1)) (
 F142 _ d f g h i j n1 fun n2 =>
 br (decide (n2 < 0)) (
 k (-1)) (
 k n2)))
def F136 : T136 := P136 F78 F142
abbrev s136 : List (Bool × List CK) := [(true, q3), (false, [.int .i64])]
def G136 (F : T136) (β : Type) (e : argsT s136) (k : V → Option β) : Option β := let a:=e.1;let b:=a.2;let c:=b.2;let d:=c.2;let f:=d.2;let g:=f.2;let h:=g.2;let i:=h.2;let j:=i.2;let l:=j.2;F β a.1 b.1 c.1 d.1 f.1 g.1 h.1 i.1 j.1 l.1 e.2.1.1 (fun y1 => k (.int .i64 y1))
abbrev W136 (F : T136) : WT := wrap s136 (G136 F)
theorem k136 (F78 : T78) (F142 : T142) : KO [(78, W78 F78), (142, W142 F142)] noX 136 Tryz.f136 s136 (G136 (P136 F78 F142)) := fun _ _ _ => by kernel_rfl
theorem ok136 : FnOk D 136 (W136 F136) := oW Tryz.func136 (tc ok78 (tc ok142 tn)) (k136 F78 F142 )
abbrev T75 : Type 1 := T135
def P75 (F136 : T136) : T75 := fun β a left k =>
 br (decide (IntKind.wrap .i64 (left - (a.length : Int)) < 0)) (
 k (-1)) (
 whileK (fun s1 =>
 br (decide ((lI s1 2) < ((lL s1 0).length : Int))) (
 chk (0 ≤ (lI s1 2)) <|
 idx true q3 (lL s1 0) ((lI s1 2).toNat) fun (e2 : r8_) =>
 F136 _ e2.1 e2.2.1 e2.2.2.1 e2.2.2.2.1 e2.2.2.2.2.1 e2.2.2.2.2.2.1 e2.2.2.2.2.2.2.1 e2.2.2.2.2.2.2.2.1 e2.2.2.2.2.2.2.2.2.1 e2.2.2.2.2.2.2.2.2.2.1 (lI s1 1) fun n3 =>
 br (decide (n3 < 0)) (
 some (.inr (0, [.i n3, .i (-1)]))) (
 some (.inl [.l (lL s1 0), .i n3, .i (IntKind.wrap .i64 ((lI s1 2) + 1))]))) (
 some (.inr (1, [.i (lI s1 1)])))) [.l a, .i (IntKind.wrap .i64 (left - (a.length : Int))), .i 0] fun r4 =>
 if r4.1 = 0 then
 k (lI r4.2 1)
 else
 k (lI r4.2 0))
def F75 : T75 := P75 F136
def X75 : Exits := fun i => lookN i [] [(5, [(.ret, xk 27 [(1, .int .i64 0), (4, .int .i64 0)] []), (.exit 0, xk 27 [(1, .int .i64 0)] [])])]
abbrev s75 : List (Bool × List CK) := [(false, [.sl 10 true]), (false, [.int .i64])]
def G75 (F : T75) (β : Type) (e : argsT s75) (k : V → Option β) : Option β := F β e.1.1 e.2.1.1 (fun y1 => k (.int .i64 y1))
abbrev W75 (F : T75) : WT := wrap s75 (G75 F)
theorem k75 (F136 : T136) : KO [(136, W136 F136)] X75 75 Tryz.f75 s75 (G75 (P75 F136)) := fun _ _ _ => by kernel_rfl
theorem ok75 : FnOk D 75 (W75 F75) := oW Tryz.func75 (tc ok136 tn) (k75 F136 )
abbrev T34 : Type 1 := T135
def P34 (F75 : T75) : T34 := fun β a left k =>
 F75 _ a left fun n1 =>
 br (decide (n1 < 0)) (
 k (-1)) (
 k n1)
def F34 : T34 := P34 F75
abbrev s34 : List (Bool × List CK) := [(true, [.sl 10 true]), (false, [.int .i64])]
def G34 (F : T34) (β : Type) (e : argsT s34) (k : V → Option β) : Option β := F β e.1.1 e.2.1.1 (fun y1 => k (.int .i64 y1))
abbrev W34 (F : T34) : WT := wrap s34 (G34 F)
theorem k34 (F75 : T75) : KO [(75, W75 F75)] noX 34 Tryz.f34 s34 (G34 (P34 F75)) := fun _ _ _ => by kernel_rfl
theorem ok34 : FnOk D 34 (W34 F34) := oW Tryz.func34 (tc ok75 tn) (k34 F75 )
abbrev T76 : Type 1 := (β : Type) → LU → LU → LU → Bool → Int → (Int → Option β) → Option β
def P76 (F78 : T78) : T76 := fun β a b c d left k =>
 br (decide (IntKind.wrap .i64 (left - (a.length : Int)) < 0)) (
 k (-1)) (
 F78 _ b c (IntKind.wrap .i64 (left - (a.length : Int))) fun n1 =>
 br (decide (n1 < 0)) (
 k (-1)) (
 k n1))
def F76 : T76 := P76 F78
abbrev s76 : List (Bool × List CK) := [(true, q12), (false, [.int .i64])]
def G76 (F : T76) (β : Type) (e : argsT s76) (k : V → Option β) : Option β := F β e.1.1 e.1.2.1 e.1.2.2.1 e.1.2.2.2.1 e.2.1.1 (fun y1 => k (.int .i64 y1))
abbrev W76 (F : T76) : WT := wrap s76 (G76 F)
theorem k76 (F78 : T78) : KO [(78, W78 F78)] noX 76 Tryz.f76 s76 (G76 (P76 F78)) := fun _ _ _ => by kernel_rfl
theorem ok76 : FnOk D 76 (W76 F76) := oW Tryz.func76 (tc ok78 tn) (k76 F78 )
abbrev T35 : Type 1 := T135
def P35 (F76 : T76) : T35 := fun β a left k =>
 br (decide (IntKind.wrap .i64 (left - (a.length : Int)) < 0)) (
 k (-1)) (
 whileK (fun s1 =>
 br (decide ((lI s1 2) < ((lL s1 0).length : Int))) (
 chk (0 ≤ (lI s1 2)) <|
 idx true q12 (lL s1 0) ((lI s1 2).toNat) fun (e2 : r7_) =>
 F76 _ e2.1 e2.2.1 e2.2.2.1 e2.2.2.2.1 (lI s1 1) fun n3 =>
 br (decide (n3 < 0)) (
 some (.inr (0, [.i n3, .i (-1)]))) (
 some (.inl [.l (lL s1 0), .i n3, .i (IntKind.wrap .i64 ((lI s1 2) + 1))]))) (
 some (.inr (1, [.i (lI s1 1)])))) [.l a, .i (IntKind.wrap .i64 (left - (a.length : Int))), .i 0] fun r4 =>
 if r4.1 = 0 then
 k (lI r4.2 1)
 else
 k (lI r4.2 0))
def F35 : T35 := P35 F76
def X35 : Exits := fun i => lookN i [] [(5, [(.ret, xk 27 [(1, .int .i64 0), (4, .int .i64 0)] []), (.exit 0, xk 27 [(1, .int .i64 0)] [])])]
abbrev s35 : List (Bool × List CK) := [(false, [.sl 4 true]), (false, [.int .i64])]
def G35 (F : T35) (β : Type) (e : argsT s35) (k : V → Option β) : Option β := F β e.1.1 e.2.1.1 (fun y1 => k (.int .i64 y1))
abbrev W35 (F : T35) : WT := wrap s35 (G35 F)
theorem k35 (F76 : T76) : KO [(76, W76 F76)] X35 35 Tryz.f35 s35 (G35 (P35 F76)) := fun _ _ _ => by kernel_rfl
theorem ok35 : FnOk D 35 (W35 F35) := oW Tryz.func35 (tc ok76 tn) (k35 F76 )
abbrev T12 : Type 1 := (β : Type) → LV → LV → LV → Int → Int → (Int → Option β) → Option β
def P12 (F33 : T33) (F34 : T34) (F35 : T35) : T12 := fun β a b c d left k =>
 F33 _ a left fun n1 =>
 br (decide (n1 < 0)) (
 k (-1)) (
 F34 _ b n1 fun n2 =>
 br (decide (n2 < 0)) (
 k (-1)) (
 F35 _ c n2 fun n3 =>
 br (decide (n3 < 0)) (
 k (-1)) (
 k n3)))
def F12 : T12 := P12 F33 F34 F35
abbrev s12 : List (Bool × List CK) := [(true, q9), (false, [.int .i64])]
def G12 (F : T12) (β : Type) (e : argsT s12) (k : V → Option β) : Option β := F β e.1.1 e.1.2.1 e.1.2.2.1 e.1.2.2.2.1 e.2.1.1 (fun y1 => k (.int .i64 y1))
abbrev W12 (F : T12) : WT := wrap s12 (G12 F)
theorem k12 (F33 : T33) (F34 : T34) (F35 : T35) : KO [(33, W33 F33), (34, W34 F34), (35, W35 F35)] noX 12 Tryz.f12 s12 (G12 (P12 F33 F34 F35)) := fun _ _ _ => by kernel_rfl
theorem ok12 : FnOk D 12 (W12 F12) := oW Tryz.func12 (tc ok33 (tc ok34 (tc ok35 tn))) (k12 F33 F34 F35 )
abbrev T86 : Type 1 := T135
def P86 : T86 := fun β a left k =>
 br (decide (IntKind.wrap .i64 (left - (a.length : Int)) < 0)) (
 k (-1)) (
 whileK (fun s1 =>
 br (decide ((lI s1 2) < ((lL s1 0).length : Int))) (
 chk (0 ≤ (lI s1 2)) <|
 idx false [.str] (lL s1 0) ((lI s1 2).toNat) fun (e2 : r12_) =>
 br (decide (IntKind.wrap .i64 ((lI s1 1) - (e2.1.length : Int)) < 0)) (
 some (.inr (0, [.i (IntKind.wrap .i64 ((lI s1 1) - (e2.1.length : Int))), .i (-1)]))) (
 some (.inl [.l (lL s1 0), .i (IntKind.wrap .i64 ((lI s1 1) - (e2.1.length : Int))), .i (IntKind.wrap .i64 ((lI s1 2) + 1))]))) (
 some (.inr (1, [.i (lI s1 1)])))) [.l a, .i (IntKind.wrap .i64 (left - (a.length : Int))), .i 0] fun r3 =>
 if r3.1 = 0 then
 k (lI r3.2 1)
 else
 k (lI r3.2 0))
def F86 : T86 := P86
def X86 : Exits := fun i => lookN i [] [(5, [(.ret, xk 28 [(1, .int .i64 0), (4, .int .i64 0)] []), (.exit 0, xk 28 [(1, .int .i64 0)] [])])]
abbrev s86 : List (Bool × List CK) := [(false, [.sl 1 true]), (false, [.int .i64])]
def G86 (F : T86) (β : Type) (e : argsT s86) (k : V → Option β) : Option β := F β e.1.1 e.2.1.1 (fun y1 => k (.int .i64 y1))
abbrev W86 (F : T86) : WT := wrap s86 (G86 F)
theorem k86 : KO [] X86 86 Tryz.f86 s86 (G86 (P86)) := fun _ _ _ => by kernel_rfl
theorem ok86 : FnOk D 86 (W86 F86) := oW Tryz.func86 (tn) (k86 )
abbrev T79 : Type 1 := (β : Type) → Bool → LV → LV → LV → LU → Int → (Int → Option β) → Option β
def P79 (F86 : T86) : T79 := fun β f b c d a left k =>
 F86 _ b left fun n1 =>
 br (decide (n1 < 0)) (
 k (-1)) (
 F86 _ c n1 fun n2 =>
 br (decide (n2 < 0)) (
 k (-1)) (
 F86 _ d n2 fun n3 =>
 br (decide (n3 < 0)) (
 k (-1)) (
 br (decide (IntKind.wrap .i64 (n3 - (a.length : Int)) < 0)) (
 k (-1)) (
 k (IntKind.wrap .i64 (n3 - (a.length : Int)))))))
def F79 : T79 := P79 F86
abbrev s79 : List (Bool × List CK) := [(true, q11), (false, [.int .i64])]
def G79 (F : T79) (β : Type) (e : argsT s79) (k : V → Option β) : Option β := let a:=e.1;let b:=a.2;let c:=b.2;let d:=c.2;let f:=d.2;F β a.1 b.1 c.1 d.1 f.1 e.2.1.1 (fun y1 => k (.int .i64 y1))
abbrev W79 (F : T79) : WT := wrap s79 (G79 F)
theorem k79 (F86 : T86) : KO [(86, W86 F86)] noX 79 Tryz.f79 s79 (G79 (P79 F86)) := fun _ _ _ => by kernel_rfl
theorem ok79 : FnOk D 79 (W79 F79) := oW Tryz.func79 (tc ok86 tn) (k79 F86 )
abbrev T80 : Type 1 := (β : Type) → LU → Int → (Int → Option β) → Option β
def P80 : T80 := fun β a left k =>
 br (decide (IntKind.wrap .i64 (left - (a.length : Int)) < 0)) (
 k (-1)) (
 k (IntKind.wrap .i64 (left - (a.length : Int))))
def F80 : T80 := P80
abbrev s80 : List (Bool × List CK) := [(true, [.str]), (false, [.int .i64])]
def G80 (F : T80) (β : Type) (e : argsT s80) (k : V → Option β) : Option β := F β e.1.1 e.2.1.1 (fun y1 => k (.int .i64 y1))
abbrev W80 (F : T80) : WT := wrap s80 (G80 F)
theorem k80 : KO [] noX 80 Tryz.f80 s80 (G80 (P80)) := fun _ _ _ => by kernel_rfl
theorem ok80 : FnOk D 80 (W80 F80) := oW Tryz.func80 (tn) (k80 )
abbrev T190 : Type 1 := T78
def P190 : T190 := fun β a b left k =>
 br (decide (IntKind.wrap .i64 (left - (a.length : Int)) < 0)) (
 k (-1)) (
 br (decide (IntKind.wrap .i64 ((IntKind.wrap .i64 (left - (a.length : Int))) - (b.length : Int)) < 0)) (
 k (-1)) (
 k (IntKind.wrap .i64 ((IntKind.wrap .i64 (left - (a.length : Int))) - (b.length : Int)))))
def F190 : T190 := P190
abbrev s190 : List (Bool × List CK) := s78
abbrev G190 := G78
abbrev W190 (F : T190) : WT := wrap s190 (G190 F)
theorem k190 : KO [] noX 190 Tryz.f190 s190 (G190 (P190)) := fun _ _ _ => by kernel_rfl
theorem ok190 : FnOk D 190 (W190 F190) := oW Tryz.func190 (tn) (k190 )
abbrev T171 : Type 1 := T135
def P171 (F190 : T190) : T171 := fun β a left k =>
 br (decide (IntKind.wrap .i64 (left - (a.length : Int)) < 0)) (
 k (-1)) (
 whileK (fun s1 =>
 br (decide ((lI s1 2) < ((lL s1 0).length : Int))) (
 chk (0 ≤ (lI s1 2)) <|
 idx true [.str, .str] (lL s1 0) ((lI s1 2).toNat) fun (e2 : r10_) =>
 F190 _ e2.1 e2.2.1 (lI s1 1) fun n3 =>
 br (decide (n3 < 0)) (
 some (.inr (0, [.i n3, .i (-1)]))) (
 some (.inl [.l (lL s1 0), .i n3, .i (IntKind.wrap .i64 ((lI s1 2) + 1))]))) (
 some (.inr (1, [.i (lI s1 1)])))) [.l a, .i (IntKind.wrap .i64 (left - (a.length : Int))), .i 0] fun r4 =>
 if r4.1 = 0 then
 k (lI r4.2 1)
 else
 k (lI r4.2 0))
def F171 : T171 := P171 F190
def X171 : Exits := fun i => lookN i [] [(5, [(.ret, xk 27 [(1, .int .i64 0), (4, .int .i64 0)] []), (.exit 0, xk 27 [(1, .int .i64 0)] [])])]
abbrev s171 : List (Bool × List CK) := [(false, [.sl 2 true]), (false, [.int .i64])]
def G171 (F : T171) (β : Type) (e : argsT s171) (k : V → Option β) : Option β := F β e.1.1 e.2.1.1 (fun y1 => k (.int .i64 y1))
abbrev W171 (F : T171) : WT := wrap s171 (G171 F)
theorem k171 (F190 : T190) : KO [(190, W190 F190)] X171 171 Tryz.f171 s171 (G171 (P171 F190)) := fun _ _ _ => by kernel_rfl
theorem ok171 : FnOk D 171 (W171 F171) := oW Tryz.func171 (tc ok190 tn) (k171 F190 )
abbrev T137 : Type 1 := (β : Type) → Int → LU → LV → LU → Int → (Int → Option β) → Option β
def P137 (F171 : T171) : T137 := fun β d a c b left k =>
 br (decide (IntKind.wrap .i64 (left - (a.length : Int)) < 0)) (
 k (-1)) (
 F171 _ c (IntKind.wrap .i64 (left - (a.length : Int))) fun n1 =>
 br (decide (n1 < 0)) (
 k (-1)) (
 br (decide (IntKind.wrap .i64 (n1 - (b.length : Int)) < 0)) (
 k (-1)) (
 k (IntKind.wrap .i64 (n1 - (b.length : Int))))))
def F137 : T137 := P137 F171
abbrev s137 : List (Bool × List CK) := [(true, q14), (false, [.int .i64])]
def G137 (F : T137) (β : Type) (e : argsT s137) (k : V → Option β) : Option β := F β e.1.1 e.1.2.1 e.1.2.2.1 e.1.2.2.2.1 e.2.1.1 (fun y1 => k (.int .i64 y1))
abbrev W137 (F : T137) : WT := wrap s137 (G137 F)
theorem k137 (F171 : T171) : KO [(171, W171 F171)] noX 137 Tryz.f137 s137 (G137 (P137 F171)) := fun _ _ _ => by kernel_rfl
theorem ok137 : FnOk D 137 (W137 F137) := oW Tryz.func137 (tc ok171 tn) (k137 F171 )
abbrev T81 : Type 1 := T135
def P81 (F137 : T137) : T81 := fun β a left k =>
 br (decide (IntKind.wrap .i64 (left - (a.length : Int)) < 0)) (
 k (-1)) (
 whileK (fun s1 =>
 br (decide ((lI s1 2) < ((lL s1 0).length : Int))) (
 chk (0 ≤ (lI s1 2)) <|
 idx true q14 (lL s1 0) ((lI s1 2).toNat) fun (e2 : r1_) =>
 F137 _ e2.1 e2.2.1 e2.2.2.1 e2.2.2.2.1 (lI s1 1) fun n3 =>
 br (decide (n3 < 0)) (
 some (.inr (0, [.i n3, .i (-1)]))) (
 some (.inl [.l (lL s1 0), .i n3, .i (IntKind.wrap .i64 ((lI s1 2) + 1))]))) (
 some (.inr (1, [.i (lI s1 1)])))) [.l a, .i (IntKind.wrap .i64 (left - (a.length : Int))), .i 0] fun r4 =>
 if r4.1 = 0 then
 k (lI r4.2 1)
 else
 k (lI r4.2 0))
def F81 : T81 := P81 F137
def X81 : Exits := fun i => lookN i [] [(5, [(.ret, xk 27 [(1, .int .i64 0), (4, .int .i64 0)] []), (.exit 0, xk 27 [(1, .int .i64 0)] [])])]
abbrev s81 : List (Bool × List CK) := [(false, [.sl 4 false]), (false, [.int .i64])]
def G81 (F : T81) (β : Type) (e : argsT s81) (k : V → Option β) : Option β := F β e.1.1 e.2.1.1 (fun y1 => k (.int .i64 y1))
abbrev W81 (F : T81) : WT := wrap s81 (G81 F)
theorem k81 (F137 : T137) : KO [(137, W137 F137)] X81 81 Tryz.f81 s81 (G81 (P81 F137)) := fun _ _ _ => by kernel_rfl
theorem ok81 : FnOk D 81 (W81 F81) := oW Tryz.func81 (tc ok137 tn) (k81 F137 )
abbrev T172 : Type 1 := (β : Type) → LU → LU → Int → LV → Int → (Int → Option β) → Option β
def P172 (F171 : T171) : T172 := fun β a b d c left k =>
 br (decide (IntKind.wrap .i64 (left - (a.length : Int)) < 0)) (
 k (-1)) (
 br (decide (IntKind.wrap .i64 ((IntKind.wrap .i64 (left - (a.length : Int))) - (b.length : Int)) < 0)) (
 k (-1)) (
 F171 _ c (IntKind.wrap .i64 ((IntKind.wrap .i64 (left - (a.length : Int))) - (b.length : Int))) fun n1 =>
 br (decide (n1 < 0)) (
 k (-1)) (
 k n1)))
def F172 : T172 := P172 F171
abbrev s172 : List (Bool × List CK) := [(true, q7), (false, [.int .i64])]
def G172 (F : T172) (β : Type) (e : argsT s172) (k : V → Option β) : Option β := F β e.1.1 e.1.2.1 e.1.2.2.1 e.1.2.2.2.1 e.2.1.1 (fun y1 => k (.int .i64 y1))
abbrev W172 (F : T172) : WT := wrap s172 (G172 F)
theorem k172 (F171 : T171) : KO [(171, W171 F171)] noX 172 Tryz.f172 s172 (G172 (P172 F171)) := fun _ _ _ => by kernel_rfl
theorem ok172 : FnOk D 172 (W172 F172) := oW Tryz.func172 (tc ok171 tn) (k172 F171 )
abbrev T138 : Type 1 := T135
def P138 (F172 : T172) : T138 := fun β a left k =>
 br (decide (IntKind.wrap .i64 (left - (a.length : Int)) < 0)) (
 k (-1)) (
 whileK (fun s1 =>
 br (decide ((lI s1 2) < ((lL s1 0).length : Int))) (
 chk (0 ≤ (lI s1 2)) <|
 idx true q7 (lL s1 0) ((lI s1 2).toNat) fun (e2 : r6_) =>
 F172 _ e2.1 e2.2.1 e2.2.2.1 e2.2.2.2.1 (lI s1 1) fun n3 =>
 br (decide (n3 < 0)) (
 some (.inr (0, [.i n3, .i (-1)]))) (
 some (.inl [.l (lL s1 0), .i n3, .i (IntKind.wrap .i64 ((lI s1 2) + 1))]))) (
 some (.inr (1, [.i (lI s1 1)])))) [.l a, .i (IntKind.wrap .i64 (left - (a.length : Int))), .i 0] fun r4 =>
 if r4.1 = 0 then
 k (lI r4.2 1)
 else
 k (lI r4.2 0))
def F138 : T138 := P138 F172
def X138 : Exits := fun i => lookN i [] [(5, [(.ret, xk 27 [(1, .int .i64 0), (4, .int .i64 0)] []), (.exit 0, xk 27 [(1, .int .i64 0)] [])])]
abbrev s138 : List (Bool × List CK) := s81
abbrev G138 := G81
abbrev W138 (F : T138) : WT := wrap s138 (G138 F)
theorem k138 (F172 : T172) : KO [(172, W172 F172)] X138 138 Tryz.f138 s138 (G138 (P138 F172)) := fun _ _ _ => by kernel_rfl
theorem ok138 : FnOk D 138 (W138 F138) := oW Tryz.func138 (tc ok172 tn) (k138 F172 )
abbrev T139 : Type 1 := T135
def P139 : T139 := fun β a left k =>
 br (decide (IntKind.wrap .i64 (left - (a.length : Int)) < 0)) (
 k (-1)) (
 k (IntKind.wrap .i64 (left - (a.length : Int))))
def F139 : T139 := P139
abbrev s139 : List (Bool × List CK) := s86
abbrev G139 := G86
abbrev W139 (F : T139) : WT := wrap s139 (G139 F)
theorem k139 : KO [] noX 139 Tryz.f139 s139 (G139 (P139)) := fun _ _ _ => by kernel_rfl
theorem ok139 : FnOk D 139 (W139 F139) := oW Tryz.func139 (tn) (k139 )
abbrev T82 : Type 1 := (β : Type) → LV → LV → Int → (Int → Option β) → Option β
def P82 (F138 : T138) (F139 : T139) : T82 := fun β a b left k =>
 F138 _ a left fun n1 =>
 br (decide (n1 < 0)) (
 k (-1)) (
 F139 _ b n1 fun n2 =>
 br (decide (n2 < 0)) (
 k (-1)) (
 k n2))
def F82 : T82 := P82 F138 F139
abbrev s82 : List (Bool × List CK) := [(true, q16), (false, [.int .i64])]
def G82 (F : T82) (β : Type) (e : argsT s82) (k : V → Option β) : Option β := F β e.1.1 e.1.2.1 e.2.1.1 (fun y1 => k (.int .i64 y1))
abbrev W82 (F : T82) : WT := wrap s82 (G82 F)
theorem k82 (F138 : T138) (F139 : T139) : KO [(138, W138 F138), (139, W139 F139)] noX 82 Tryz.f82 s82 (G82 (P82 F138 F139)) := fun _ _ _ => by kernel_rfl
theorem ok82 : FnOk D 82 (W82 F82) := oW Tryz.func82 (tc ok138 (tc ok139 tn)) (k82 F138 F139 )
abbrev T140 : Type 1 := (β : Type) → Int → LU → LU → LU → Int → Bool → Int → LU → Int → (Int → Option β) → Option β
def P140 (F78 : T78) : T140 := fun β f c d a g h i b left k =>
 F78 _ c d left fun n1 =>
 br (decide (n1 < 0)) (
 k (-1)) (
 br (decide (IntKind.wrap .i64 (n1 - (a.length : Int)) < 0)) (
 k (-1)) (
 br (decide (IntKind.wrap .i64 ((IntKind.wrap .i64 (n1 - (a.length : Int))) - (b.length : Int)) < 0)) (
 k (-1)) (
 k (IntKind.wrap .i64 ((IntKind.wrap .i64 (n1 - (a.length : Int))) - (b.length : Int))))))
def F140 : T140 := P140 F78
abbrev s140 : List (Bool × List CK) := [(true, q5), (false, [.int .i64])]
def G140 (F : T140) (β : Type) (e : argsT s140) (k : V → Option β) : Option β := let a:=e.1;let b:=a.2;let c:=b.2;let d:=c.2;let f:=d.2;let g:=f.2;let h:=g.2;let i:=h.2;F β a.1 b.1 c.1 d.1 f.1 g.1 h.1 i.1 e.2.1.1 (fun y1 => k (.int .i64 y1))
abbrev W140 (F : T140) : WT := wrap s140 (G140 F)
theorem k140 (F78 : T78) : KO [(78, W78 F78)] noX 140 Tryz.f140 s140 (G140 (P140 F78)) := fun _ _ _ => by kernel_rfl
theorem ok140 : FnOk D 140 (W140 F140) := oW Tryz.func140 (tc ok78 tn) (k140 F78 )
abbrev T83 : Type 1 := T135
def P83 (F140 : T140) : T83 := fun β a left k =>
 br (decide (IntKind.wrap .i64 (left - (a.length : Int)) < 0)) (
 k (-1)) (
 whileK (fun s1 =>
 br (decide ((lI s1 2) < ((lL s1 0).length : Int))) (
 chk (0 ≤ (lI s1 2)) <|
 idx true q5 (lL s1 0) ((lI s1 2).toNat) fun (e2 : r0_) =>
 F140 _ e2.1 e2.2.1 e2.2.2.1 e2.2.2.2.1 e2.2.2.2.2.1 e2.2.2.2.2.2.1 e2.2.2.2.2.2.2.1 e2.2.2.2.2.2.2.2.1 (lI s1 1) fun n3 =>
 br (decide (n3 < 0)) (
 some (.inr (0, [.i n3, .i (-1)]))) (
 some (.inl [.l (lL s1 0), .i n3, .i (IntKind.wrap .i64 ((lI s1 2) + 1))]))) (
 some (.inr (1, [.i (lI s1 1)])))) [.l a, .i (IntKind.wrap .i64 (left - (a.length : Int))), .i 0] fun r4 =>
 if r4.1 = 0 then
 k (lI r4.2 1)
 else
 k (lI r4.2 0))
def F83 : T83 := P83 F140
def X83 : Exits := fun i => lookN i [] [(5, [(.ret, xk 27 [(1, .int .i64 0), (4, .int .i64 0)] []), (.exit 0, xk 27 [(1, .int .i64 0)] [])])]
abbrev s83 : List (Bool × List CK) := [(false, [.sl 8 true]), (false, [.int .i64])]
def G83 (F : T83) (β : Type) (e : argsT s83) (k : V → Option β) : Option β := F β e.1.1 e.2.1.1 (fun y1 => k (.int .i64 y1))
abbrev W83 (F : T83) : WT := wrap s83 (G83 F)
theorem k83 (F140 : T140) : KO [(140, W140 F140)] X83 83 Tryz.f83 s83 (G83 (P83 F140)) := fun _ _ _ => by kernel_rfl
theorem ok83 : FnOk D 83 (W83 F83) := oW Tryz.func83 (tc ok140 tn) (k83 F140 )
abbrev T141 : Type 1 := (β : Type) → LU → LU → Bool → Int → LU → Int → (Int → Option β) → Option β
def P141 (F78 : T78) : T141 := fun β b c d f a left k =>
 F78 _ b c left fun n1 =>
 br (decide (n1 < 0)) (
 k (-1)) (
 br (decide (IntKind.wrap .i64 (n1 - (a.length : Int)) < 0)) (
 k (-1)) (
 k (IntKind.wrap .i64 (n1 - (a.length : Int)))))
def F141 : T141 := P141 F78
abbrev s141 : List (Bool × List CK) := [(true, q10), (false, [.int .i64])]
def G141 (F : T141) (β : Type) (e : argsT s141) (k : V → Option β) : Option β := let a:=e.1;let b:=a.2;let c:=b.2;let d:=c.2;let f:=d.2;F β a.1 b.1 c.1 d.1 f.1 e.2.1.1 (fun y1 => k (.int .i64 y1))
abbrev W141 (F : T141) : WT := wrap s141 (G141 F)
theorem k141 (F78 : T78) : KO [(78, W78 F78)] noX 141 Tryz.f141 s141 (G141 (P141 F78)) := fun _ _ _ => by kernel_rfl
theorem ok141 : FnOk D 141 (W141 F141) := oW Tryz.func141 (tc ok78 tn) (k141 F78 )
abbrev T84 : Type 1 := T135
def P84 (F141 : T141) : T84 := fun β a left k =>
 br (decide (IntKind.wrap .i64 (left - (a.length : Int)) < 0)) (
 k (-1)) (
 whileK (fun s1 =>
 br (decide ((lI s1 2) < ((lL s1 0).length : Int))) (
 chk (0 ≤ (lI s1 2)) <|
 idx true q10 (lL s1 0) ((lI s1 2).toNat) fun (e2 : r4_) =>
 F141 _ e2.1 e2.2.1 e2.2.2.1 e2.2.2.2.1 e2.2.2.2.2.1 (lI s1 1) fun n3 =>
 br (decide (n3 < 0)) (
 some (.inr (0, [.i n3, .i (-1)]))) (
 some (.inl [.l (lL s1 0), .i n3, .i (IntKind.wrap .i64 ((lI s1 2) + 1))]))) (
 some (.inr (1, [.i (lI s1 1)])))) [.l a, .i (IntKind.wrap .i64 (left - (a.length : Int))), .i 0] fun r4 =>
 if r4.1 = 0 then
 k (lI r4.2 1)
 else
 k (lI r4.2 0))
def F84 : T84 := P84 F141
def X84 : Exits := fun i => lookN i [] [(5, [(.ret, xk 27 [(1, .int .i64 0), (4, .int .i64 0)] []), (.exit 0, xk 27 [(1, .int .i64 0)] [])])]
abbrev s84 : List (Bool × List CK) := [(false, [.sl 5 true]), (false, [.int .i64])]
def G84 (F : T84) (β : Type) (e : argsT s84) (k : V → Option β) : Option β := F β e.1.1 e.2.1.1 (fun y1 => k (.int .i64 y1))
abbrev W84 (F : T84) : WT := wrap s84 (G84 F)
theorem k84 (F141 : T141) : KO [(141, W141 F141)] X84 84 Tryz.f84 s84 (G84 (P84 F141)) := fun _ _ _ => by kernel_rfl
theorem ok84 : FnOk D 84 (W84 F84) := oW Tryz.func84 (tc ok141 tn) (k84 F141 )
abbrev T85 : Type 1 := T135
def P85 (F78 : T78) : T85 := fun β a left k =>
 br (decide (IntKind.wrap .i64 (left - (a.length : Int)) < 0)) (
 k (-1)) (
 whileK (fun s1 =>
 br (decide ((lI s1 2) < ((lL s1 0).length : Int))) (
 chk (0 ≤ (lI s1 2)) <|
 idx true [.str, .str] (lL s1 0) ((lI s1 2).toNat) fun (e2 : r10_) =>
 F78 _ e2.1 e2.2.1 (lI s1 1) fun n3 =>
 br (decide (n3 < 0)) (
 some (.inr (0, [.i n3, .i (-1)]))) (
 some (.inl [.l (lL s1 0), .i n3, .i (IntKind.wrap .i64 ((lI s1 2) + 1))]))) (
 some (.inr (1, [.i (lI s1 1)])))) [.l a, .i (IntKind.wrap .i64 (left - (a.length : Int))), .i 0] fun r4 =>
 if r4.1 = 0 then
 k (lI r4.2 1)
 else
 k (lI r4.2 0))
def F85 : T85 := P85 F78
def X85 : Exits := fun i => lookN i [] [(5, [(.ret, xk 27 [(1, .int .i64 0), (4, .int .i64 0)] []), (.exit 0, xk 27 [(1, .int .i64 0)] [])])]
abbrev s85 : List (Bool × List CK) := s171
abbrev G85 := G171
abbrev W85 (F : T85) : WT := wrap s85 (G85 F)
theorem k85 (F78 : T78) : KO [(78, W78 F78)] X85 85 Tryz.f85 s85 (G85 (P85 F78)) := fun _ _ _ => by kernel_rfl
theorem ok85 : FnOk D 85 (W85 F85) := oW Tryz.func85 (tc ok78 tn) (k85 F78 )
abbrev T37 : Type 1 := (β : Type) → LU → LU → Bool → LV → LV → LV → LU → LU → LV → Bool → LV → LV → LV → LV → LV → Int → Int → Int → Int → LV → LV → Bool → Int → (Int → Option β) → Option β
def P37 (F78 : T78) (F79 : T79) (F80 : T80) (F81 : T81) (F82 : T82) (F83 : T83) (F84 : T84) (F85 : T85) (F86 : T86) : T37 := fun β a b c d f g h i j s l m n o p t u v w q r x left k =>
 F78 _ a b left fun n1 =>
 br (decide (n1 < 0)) (
 k (-1)) (
 F79 _ c d f g h n1 fun n2 =>
 br (decide (n2 < 0)) (
 k (-1)) (
 F80 _ i n2 fun n3 =>
 br (decide (n3 < 0)) (
 k (-1)) (
 F81 _ j n3 fun n4 =>
 br (decide (n4 < 0)) (
 k (-1)) (
 F82 _ l m n4 fun n5 =>
 br (decide (n5 < 0)) (
 k (-1)) (
 F83 _ n n5 fun n6 =>
 br (decide (n6 < 0)) (
 k (-1)) (
 F84 _ o n6 fun n7 =>
 br (decide (n7 < 0)) (
 k (-1)) (
 F85 _ p n7 fun n8 =>
 br (decide (n8 < 0)) (
 k (-1)) (
 F85 _ q n8 fun n9 =>
 br (decide (n9 < 0)) (
 k (-1)) (
 F86 _ r n9 fun n10 =>
 br (decide (n10 < 0)) (
 k (-1)) (
 k n10))))))))))
def F37 : T37 := P37 F78 F79 F80 F81 F82 F83 F84 F85 F86
abbrev s37 : List (Bool × List CK) := [(true, q2), (false, [.int .i64])]
def G37 (F : T37) (β : Type) (e : argsT s37) (k : V → Option β) : Option β := let a:=e.1;let b:=a.2;let c:=b.2;let d:=c.2;let f:=d.2;let g:=f.2;let h:=g.2;let i:=h.2;let j:=i.2;let l:=j.2;let m:=l.2;let n:=m.2;let o:=n.2;let p:=o.2;let q:=p.2;let r:=q.2;let s:=r.2;let t:=s.2;let u:=t.2;let v:=u.2;let w:=v.2;let x:=w.2;F β a.1 b.1 c.1 d.1 f.1 g.1 h.1 i.1 j.1 l.1 m.1 n.1 o.1 p.1 q.1 r.1 s.1 t.1 u.1 v.1 w.1 x.1 e.2.1.1 (fun y1 => k (.int .i64 y1))
abbrev W37 (F : T37) : WT := wrap s37 (G37 F)
theorem k37 (F78 : T78) (F79 : T79) (F80 : T80) (F81 : T81) (F82 : T82) (F83 : T83) (F84 : T84) (F85 : T85) (F86 : T86) : KO [(78, W78 F78), (79, W79 F79), (80, W80 F80), (81, W81 F81), (82, W82 F82), (83, W83 F83), (84, W84 F84), (85, W85 F85), (86, W86 F86)] noX 37 Tryz.f37 s37 (G37 (P37 F78 F79 F80 F81 F82 F83 F84 F85 F86)) := fun _ _ _ => by kernel_rfl
theorem ok37 : FnOk D 37 (W37 F37) := oW Tryz.func37 (tc ok78 (tc ok79 (tc ok80 (tc ok81 (tc ok82 (tc ok83 (tc ok84 (tc ok85 (tc ok86 tn))))))))) (k37 F78 F79 F80 F81 F82 F83 F84 F85 F86 )
abbrev T77 : Type 1 := (β : Type) → LU → LU → LU → LU → Bool → LV → LV → LV → LU → LU → LV → Bool → LV → LV → LV → LV → LV → Int → Int → Int → Int → LV → LV → Bool → Bool → Int → (Int → Option β) → Option β
def P77 (F78 : T78) (F37 : T37) : T77 := fun β a b c d f g h i j l m n o p q r s t u v w x y z a1 left k =>
 F78 _ a b left fun n1 =>
 br (decide (n1 < 0)) (
 k (-1)) (
 F37 _ c d f g h i j l m n o p q r s t u v w x y z n1 fun n2 =>
 br (decide (n2 < 0)) (
 k (-1)) (
 k n2))
def F77 : T77 := P77 F78 F37
abbrev s77 : List (Bool × List CK) := [(true, q0), (false, [.int .i64])]
def G77 (F : T77) (β : Type) (e : argsT s77) (k : V → Option β) : Option β := let a:=e.1;let b:=a.2;let c:=b.2;let d:=c.2;let f:=d.2;let g:=f.2;let h:=g.2;let i:=h.2;let j:=i.2;let l:=j.2;let m:=l.2;let n:=m.2;let o:=n.2;let p:=o.2;let q:=p.2;let r:=q.2;let s:=r.2;let t:=s.2;let u:=t.2;let v:=u.2;let w:=v.2;let x:=w.2;let y:=x.2;let z:=y.2;let a1:=z.2;F β a.1 b.1 c.1 d.1 f.1 g.1 h.1 i.1 j.1 l.1 m.1 n.1 o.1 p.1 q.1 r.1 s.1 t.1 u.1 v.1 w.1 x.1 y.1 z.1 a1.1 e.2.1.1 (fun y1 => k (.int .i64 y1))
abbrev W77 (F : T77) : WT := wrap s77 (G77 F)
theorem k77 (F78 : T78) (F37 : T37) : KO [(78, W78 F78), (37, W37 F37)] noX 77 Tryz.f77 s77 (G77 (P77 F78 F37)) := fun _ _ _ => by kernel_rfl
theorem ok77 : FnOk D 77 (W77 F77) := oW Tryz.func77 (tc ok78 (tc ok37 tn)) (k77 F78 F37 )
abbrev T36 : Type 1 := T135
def P36 (F77 : T77) : T36 := fun β a left k =>
 br (decide (IntKind.wrap .i64 (left - (a.length : Int)) < 0)) (
 k (-1)) (
 whileK (fun s1 =>
 br (decide ((lI s1 2) < ((lL s1 0).length : Int))) (
 chk (0 ≤ (lI s1 2)) <|
 idx true q0 (lL s1 0) ((lI s1 2).toNat) fun (e2 : r9_) =>
 F77 _ e2.1 e2.2.1 e2.2.2.1 e2.2.2.2.1 e2.2.2.2.2.1 e2.2.2.2.2.2.1 e2.2.2.2.2.2.2.1 e2.2.2.2.2.2.2.2.1 e2.2.2.2.2.2.2.2.2.1 e2.2.2.2.2.2.2.2.2.2.1 e2.2.2.2.2.2.2.2.2.2.2.1 e2.2.2.2.2.2.2.2.2.2.2.2.1 e2.2.2.2.2.2.2.2.2.2.2.2.2.1 e2.2.2.2.2.2.2.2.2.2.2.2.2.2.1 e2.2.2.2.2.2.2.2.2.2.2.2.2.2.2.1 e2.2.2.2.2.2.2.2.2.2.2.2.2.2.2.2.1 e2.2.2.2.2.2.2.2.2.2.2.2.2.2.2.2.2.1 e2.2.2.2.2.2.2.2.2.2.2.2.2.2.2.2.2.2.1 e2.2.2.2.2.2.2.2.2.2.2.2.2.2.2.2.2.2.2.1 e2.2.2.2.2.2.2.2.2.2.2.2.2.2.2.2.2.2.2.2.1 e2.2.2.2.2.2.2.2.2.2.2.2.2.2.2.2.2.2.2.2.2.1 e2.2.2.2.2.2.2.2.2.2.2.2.2.2.2.2.2.2.2.2.2.2.1 e2.2.2.2.2.2.2.2.2.2.2.2.2.2.2.2.2.2.2.2.2.2.2.1 e2.2.2.2.2.2.2.2.2.2.2.2.2.2.2.2.2.2.2.2.2.2.2.2.1 e2.2.2.2.2.2.2.2.2.2.2.2.2.2.2.2.2.2.2.2.2.2.2.2.2.1 (lI s1 1) fun n3 =>
 br (decide (n3 < 0)) (
 some (.inr (0, [.i n3, .i (-1)]))) (
 some (.inl [.l (lL s1 0), .i n3, .i (IntKind.wrap .i64 ((lI s1 2) + 1))]))) (
 some (.inr (1, [.i (lI s1 1)])))) [.l a, .i (IntKind.wrap .i64 (left - (a.length : Int))), .i 0] fun r4 =>
 if r4.1 = 0 then
 k (lI r4.2 1)
 else
 k (lI r4.2 0))
def F36 : T36 := P36 F77
def X36 : Exits := fun i => lookN i [] [(5, [(.ret, xk 27 [(1, .int .i64 0), (4, .int .i64 0)] []), (.exit 0, xk 27 [(1, .int .i64 0)] [])])]
abbrev s36 : List (Bool × List CK) := [(false, [.sl 25 false]), (false, [.int .i64])]
def G36 (F : T36) (β : Type) (e : argsT s36) (k : V → Option β) : Option β := F β e.1.1 e.2.1.1 (fun y1 => k (.int .i64 y1))
abbrev W36 (F : T36) : WT := wrap s36 (G36 F)
theorem k36 (F77 : T77) : KO [(77, W77 F77)] X36 36 Tryz.f36 s36 (G36 (P36 F77)) := fun _ _ _ => by kernel_rfl
theorem ok36 : FnOk D 36 (W36 F36) := oW Tryz.func36 (tc ok77 tn) (k36 F77 )
abbrev T13 : Type 1 := (β : Type) → LV → Int → Int → (Int → Option β) → Option β
def P13 (F36 : T36) : T13 := fun β a b left k =>
 F36 _ a left fun n1 =>
 br (decide (n1 < 0)) (
 k (-1)) (
 k n1)
def F13 : T13 := P13 F36
abbrev s13 : List (Bool × List CK) := [(true, q15), (false, [.int .i64])]
def G13 (F : T13) (β : Type) (e : argsT s13) (k : V → Option β) : Option β := F β e.1.1 e.1.2.1 e.2.1.1 (fun y1 => k (.int .i64 y1))
abbrev W13 (F : T13) : WT := wrap s13 (G13 F)
theorem k13 (F36 : T36) : KO [(36, W36 F36)] noX 13 Tryz.f13 s13 (G13 (P13 F36)) := fun _ _ _ => by kernel_rfl
theorem ok13 : FnOk D 13 (W13 F13) := oW Tryz.func13 (tc ok36 tn) (k13 F36 )
abbrev T87 : Type 1 := (β : Type) → LU → LU → Int → Int → LU → Int → Bool → LU → Int → (Int → Option β) → Option β
def P87 (F78 : T78) (F142 : T142) : T87 := fun β a b c d f g h i left k =>
 F78 _ a b left fun n1 =>
 br (decide (n1 < 0)) (
 k (-1)) (
 F142 _ c d f g h i n1 fun n2 =>
 br (decide (n2 < 0)) (
 k (-1)) (
 k n2))
def F87 : T87 := P87 F78 F142
abbrev s87 : List (Bool × List CK) := [(true, q8), (false, [.int .i64])]
def G87 (F : T87) (β : Type) (e : argsT s87) (k : V → Option β) : Option β := let a:=e.1;let b:=a.2;let c:=b.2;let d:=c.2;let f:=d.2;let g:=f.2;let h:=g.2;let i:=h.2;F β a.1 b.1 c.1 d.1 f.1 g.1 h.1 i.1 e.2.1.1 (fun y1 => k (.int .i64 y1))
abbrev W87 (F : T87) : WT := wrap s87 (G87 F)
theorem k87 (F78 : T78) (F142 : T142) : KO [(78, W78 F78), (142, W142 F142)] noX 87 Tryz.f87 s87 (G87 (P87 F78 F142)) := fun _ _ _ => by kernel_rfl
theorem ok87 : FnOk D 87 (W87 F87) := oW Tryz.func87 (tc ok78 (tc ok142 tn)) (k87 F78 F142 )
abbrev T38 : Type 1 := T135
def P38 (F87 : T87) : T38 := fun β a left k =>
 br (decide (IntKind.wrap .i64 (left - (a.length : Int)) < 0)) (
 k (-1)) (
 whileK (fun s1 =>
 br (decide ((lI s1 2) < ((lL s1 0).length : Int))) (
 chk (0 ≤ (lI s1 2)) <|
 idx true q8 (lL s1 0) ((lI s1 2).toNat) fun (e2 : r5_) =>
 F87 _ e2.1 e2.2.1 e2.2.2.1 e2.2.2.2.1 e2.2.2.2.2.1 e2.2.2.2.2.2.1 e2.2.2.2.2.2.2.1 e2.2.2.2.2.2.2.2.1 (lI s1 1) fun n3 =>
 br (decide (n3 < 0)) (
 some (.inr (0, [.i n3, .i (-1)]))) (
 some (.inl [.l (lL s1 0), .i n3, .i (IntKind.wrap .i64 ((lI s1 2) + 1))]))) (
 some (.inr (1, [.i (lI s1 1)])))) [.l a, .i (IntKind.wrap .i64 (left - (a.length : Int))), .i 0] fun r4 =>
 if r4.1 = 0 then
 k (lI r4.2 1)
 else
 k (lI r4.2 0))
def F38 : T38 := P38 F87
def X38 : Exits := fun i => lookN i [] [(5, [(.ret, xk 27 [(1, .int .i64 0), (4, .int .i64 0)] []), (.exit 0, xk 27 [(1, .int .i64 0)] [])])]
abbrev s38 : List (Bool × List CK) := s83
abbrev G38 := G83
abbrev W38 (F : T38) : WT := wrap s38 (G38 F)
theorem k38 (F87 : T87) : KO [(87, W87 F87)] X38 38 Tryz.f38 s38 (G38 (P38 F87)) := fun _ _ _ => by kernel_rfl
theorem ok38 : FnOk D 38 (W38 F38) := oW Tryz.func38 (tc ok87 tn) (k38 F87 )
abbrev T14 : Type 1 := (β : Type) → Bool → LU → LU → Bool → LV → LV → LV → LU → LU → LV → Bool → LV → LV → LV → LV → LV → Int → Int → Int → Int → LV → LV → Bool → LV → LV → Int → Int → (Int → Option β) → Option β
def P14 (F37 : T37) (F38 : T38) (F33 : T33) : T14 := fun β a1 a b c d f g h i j l m n o p q r s t u v w x y z b1 left k =>
 F37 _ a b c d f g h i j l m n o p q r s t u v w x left fun n1 =>
 br (decide (n1 < 0)) (
 k (-1)) (
 F38 _ y n1 fun n2 =>
 br (decide (n2 < 0)) (
 k (-1)) (
 F33 _ z n2 fun n3 =>
 br (decide (n3 < 0)) (
 k (-1)) (
 k n3)))
def F14 : T14 := P14 F37 F38 F33
abbrev s14 : List (Bool × List CK) := [(true, q4), (false, [.int .i64])]
def G14 (F : T14) (β : Type) (e : argsT s14) (k : V → Option β) : Option β := let a:=e.1;let b:=a.2;let c:=b.2;let d:=c.2;let f:=d.2;let g:=f.2;let h:=g.2;let i:=h.2;let j:=i.2;let l:=j.2;let m:=l.2;let n:=m.2;let o:=n.2;let p:=o.2;let q:=p.2;let r:=q.2;let s:=r.2;let t:=s.2;let u:=t.2;let v:=u.2;let w:=v.2;let x:=w.2;let y:=x.2;let z:=y.2;let a1:=z.2;let b1:=a1.2;F β a.1 b.1 c.1 d.1 f.1 g.1 h.1 i.1 j.1 l.1 m.1 n.1 o.1 p.1 q.1 r.1 s.1 t.1 u.1 v.1 w.1 x.1 y.1 z.1 a1.1 b1.1 e.2.1.1 (fun y1 => k (.int .i64 y1))
abbrev W14 (F : T14) : WT := wrap s14 (G14 F)
theorem k14 (F37 : T37) (F38 : T38) (F33 : T33) : KO [(37, W37 F37), (38, W38 F38), (33, W33 F33)] noX 14 Tryz.f14 s14 (G14 (P14 F37 F38 F33)) := fun _ _ _ => by kernel_rfl
theorem ok14 : FnOk D 14 (W14 F14) := oW Tryz.func14 (tc ok37 (tc ok38 (tc ok33 tn))) (k14 F37 F38 F33 )
abbrev T5 : Type 1 := (β : Type) → LV → LV → LV → Int → LV → Int → Bool → LU → LU → Bool → LV → LV → LV → LU → LU → LV → Bool → LV → LV → LV → LV → LV → Int → Int → Int → Int → LV → LV → Bool → LV → LV → Int → Bool → Int → (Int → Option β) → Option β
def P5 (F12 : T12) (F13 : T13) (F14 : T14) : T5 := fun β a b c d f g h i j l m n o p q r s t u v w x y z a1 b1 c1 d1 f1 g1 h1 i1 j1 left k =>
 F12 _ a b c d left fun n1 =>
 br (decide (n1 < 0)) (
 k (-1)) (
 F13 _ f g n1 fun n2 =>
 br (decide (n2 < 0)) (
 k (-1)) (
 F14 _ h i j l m n o p q r s t u v w x y z a1 b1 c1 d1 f1 g1 h1 i1 n2 fun n3 =>
 br (decide (n3 < 0)) (
 k (-1)) (
 k n3)))
def F5 : T5 := P5 F12 F13 F14
abbrev s5 : List (Bool × List CK) := [(true, q1), (false, [.int .i64])]
def G5 (F : T5) (β : Type) (e : argsT s5) (k : V → Option β) : Option β := let a:=e.1;let b:=a.2;let c:=b.2;let d:=c.2;let f:=d.2;let g:=f.2;let h:=g.2;let i:=h.2;let j:=i.2;let l:=j.2;let m:=l.2;let n:=m.2;let o:=n.2;let p:=o.2;let q:=p.2;let r:=q.2;let s:=r.2;let t:=s.2;let u:=t.2;let v:=u.2;let w:=v.2;let x:=w.2;let y:=x.2;let z:=y.2;let a1:=z.2;let b1:=a1.2;let c1:=b1.2;let d1:=c1.2;let f1:=d1.2;let g1:=f1.2;let h1:=g1.2;let i1:=h1.2;let j1:=i1.2;F β a.1 b.1 c.1 d.1 f.1 g.1 h.1 i.1 j.1 l.1 m.1 n.1 o.1 p.1 q.1 r.1 s.1 t.1 u.1 v.1 w.1 x.1 y.1 z.1 a1.1 b1.1 c1.1 d1.1 f1.1 g1.1 h1.1 i1.1 j1.1 e.2.1.1 (fun y1 => k (.int .i64 y1))
abbrev W5 (F : T5) : WT := wrap s5 (G5 F)
theorem k5 (F12 : T12) (F13 : T13) (F14 : T14) : KO [(12, W12 F12), (13, W13 F13), (14, W14 F14)] noX 5 Tryz.f5 s5 (G5 (P5 F12 F13 F14)) := fun _ _ _ => by kernel_rfl
theorem ok5 : FnOk D 5 (W5 F5) := oW Tryz.func5 (tc ok12 (tc ok13 (tc ok14 tn))) (k5 F12 F13 F14 )
abbrev T151 : Type 1 := (β : Type) → Int → Int → LU → Int → Bool → LU → (Int → Int → LU → Int → Bool → LU → Option β) → Option β
def P151 : T151 := fun β a b c d f g k =>
 k a b c d f g
def F151 : T151 := P151
abbrev s151 : List (Bool × List CK) := [(true, q13)]
def G151 (F : T151) (β : Type) (e : argsT s151) (k : V → Option β) : Option β := let a:=e.1;let b:=a.2;let c:=b.2;let d:=c.2;let f:=d.2;let g:=f.2;F β a.1 b.1 c.1 d.1 f.1 g.1 (fun y1 y2 y3 y4 y5 y6 => k (.agg [.int .i64 y1, .int .i64 y2, .str y3, .int .i64 y4, .bool y5, .str y6]))
abbrev W151 (F : T151) : WT := wrap s151 (G151 F)
theorem k151 : KO [] noX 151 Tryz.f151 s151 (G151 (P151)) := fun _ _ _ => by kernel_rfl
theorem ok151 : FnOk D 151 (W151 F151) := oW Tryz.func151 (tn) (k151 )
abbrev T175 : Type 1 := (β : Type) → LU → Int → Int → LU → Int → Bool → LU → (LU → Int → Int → LU → Int → Bool → LU → Option β) → Option β
def P175 (F151 : T151) : T175 := fun β a b c d f g h k =>
 F151 _ b c d f g h fun n1 n2 t3 n4 b5 t6 =>
 k a n1 n2 t3 n4 b5 t6
def F175 : T175 := P175 F151
abbrev s175 : List (Bool × List CK) := [(true, q6)]
def G175 (F : T175) (β : Type) (e : argsT s175) (k : V → Option β) : Option β := let a:=e.1;let b:=a.2;let c:=b.2;let d:=c.2;let f:=d.2;let g:=f.2;let h:=g.2;F β a.1 b.1 c.1 d.1 f.1 g.1 h.1 (fun y1 y2 y3 y4 y5 y6 y7 => k (.agg [.str y1, .int .i64 y2, .int .i64 y3, .str y4, .int .i64 y5, .bool y6, .str y7]))
abbrev W175 (F : T175) : WT := wrap s175 (G175 F)
theorem k175 (F151 : T151) : KO [(151, W151 F151)] noX 175 Tryz.f175 s175 (G175 (P175 F151)) := fun _ _ _ => by kernel_rfl
theorem ok175 : FnOk D 175 (W175 F175) := oW Tryz.func175 (tc ok151 tn) (k175 F151 )
abbrev T144 : Type 1 := (β : Type) → LV → (LV → Option β) → Option β
def P144 (F175 : T175) : T144 := fun β a k =>
 chk (0 ≤ (a.length : Int) ∧ (a.length : Int) ≤ (a.length : Int) ∧ (a.length : Int) * 80 ≤ 140737488355328 ∧ (a.length : Int) ≤ 140737488355328) <|
 whileK (fun s1 =>
 br (decide ((lI s1 2) < ((lL s1 0).length : Int))) (
 chk (0 ≤ (lI s1 2)) <|
 idx true q6 (lL s1 0) ((lI s1 2).toNat) fun (e2 : r3_) =>
 F175 _ e2.1 e2.2.1 e2.2.2.1 e2.2.2.2.1 e2.2.2.2.2.1 e2.2.2.2.2.2.1 e2.2.2.2.2.2.2.1 fun t3 n4 n5 t6 n7 b8 t9 =>
 chk (0 ≤ (lI s1 2) ∧ (lI s1 2).toNat < (lL s1 1).length) <|
 storeO (lL s1 1) ((lI s1 2).toNat) 0 [.str t3, .int .i64 n4, .int .i64 n5, .str t6, .int .i64 n7, .bool b8, .str t9] fun l10 =>
 some (.inl [.l (lL s1 0), .l l10, .i (IntKind.wrap .i64 ((lI s1 2) + 1))])) (
 some (.inr (0, [.l (lL s1 1)])))) [.l a, .l (List.replicate ((a.length : Int).toNat) (.agg [.str [], .int .i64 0, .int .i64 0, .str [], .int .i64 0, .bool false, .str []])), .i 0] fun r11 =>
 k (lL r11.2 0)
def F144 : T144 := P144 F175
def X144 : Exits := fun i => lookN i [] [(3, [(.exit 0, xk 23 [(3, .own 1000000 7 .flat [])] [])])]
abbrev s144 : List (Bool × List CK) := [(false, [.sl 7 true])]
def G144 (F : T144) (β : Type) (e : argsT s144) (k : V → Option β) : Option β := F β e.1.1 (fun y1 => k (.own 0 7 .flat y1))
abbrev W144 (F : T144) : WT := wrap s144 (G144 F)
theorem k144 (F175 : T175) : KO [(175, W175 F175)] X144 144 Tryz.f144 s144 (G144 (P144 F175)) := fun _ _ _ => by kernel_rfl
theorem ok144 : FnOk D 144 (W144 F144) := oW Tryz.func144 (tc ok175 tn) (k144 F175 )
abbrev T94 : Type 1 := (β : Type) → LU → LV → (LU → LV → Option β) → Option β
def P94 (F144 : T144) : T94 := fun β a b k =>
 F144 _ b fun l1 =>
 k a l1
def F94 : T94 := P94 F144
abbrev s94 : List (Bool × List CK) := [(true, [.str, .sl 7 true])]
def G94 (F : T94) (β : Type) (e : argsT s94) (k : V → Option β) : Option β := F β e.1.1 e.1.2.1 (fun y1 y2 => k (.agg [.str y1, .own 1 7 .flat y2]))
abbrev W94 (F : T94) : WT := wrap s94 (G94 F)
theorem k94 (F144 : T144) : KO [(144, W144 F144)] noX 94 Tryz.f94 s94 (G94 (P94 F144)) := fun _ _ _ => by kernel_rfl
theorem ok94 : FnOk D 94 (W94 F94) := oW Tryz.func94 (tc ok144 tn) (k94 F144 )
abbrev T42 : Type 1 := T144
def P42 (F94 : T94) : T42 := fun β a k =>
 chk (0 ≤ (a.length : Int) ∧ (a.length : Int) ≤ (a.length : Int) ∧ (a.length : Int) * 40 ≤ 140737488355328 ∧ (a.length : Int) ≤ 140737488355328) <|
 whileK (fun s1 =>
 br (decide ((lI s1 2) < ((lL s1 0).length : Int))) (
 chk (0 ≤ (lI s1 2)) <|
 idx true [.str, .sl 7 true] (lL s1 0) ((lI s1 2).toNat) fun (e2 : r11_) =>
 F94 _ e2.1 e2.2.1 fun t3 l4 =>
 chk (0 ≤ (lI s1 2) ∧ (lI s1 2).toNat < (lL s1 1).length) <|
 storeO (lL s1 1) ((lI s1 2).toNat) 0 [.str t3, .sl 7 true l4] fun l5 =>
 some (.inl [.l (lL s1 0), .l l5, .i (IntKind.wrap .i64 ((lI s1 2) + 1))])) (
 some (.inr (0, [.l (lL s1 1)])))) [.l a, .l (List.replicate ((a.length : Int).toNat) (.agg [.str [], .sl 7 true []])), .i 0] fun r6 =>
 k (lL r6.2 0)
def F42 : T42 := P42 F94
def X42 : Exits := fun i => lookN i [] [(3, [(.exit 0, xk 23 [(3, .own 1000000 2 .clean [])] [])])]
abbrev s42 : List (Bool × List CK) := [(false, [.sl 2 false])]
def G42 (F : T42) (β : Type) (e : argsT s42) (k : V → Option β) : Option β := F β e.1.1 (fun y1 => k (.own 0 2 .clean y1))
abbrev W42 (F : T42) : WT := wrap s42 (G42 F)
theorem k42 (F94 : T94) : KO [(94, W94 F94)] X42 42 Tryz.f42 s42 (G42 (P42 F94)) := fun _ _ _ => by kernel_rfl
theorem ok42 : FnOk D 42 (W42 F42) := oW Tryz.func42 (tc ok94 tn) (k42 F94 )
abbrev T98 : Type 1 := (β : Type) → LU → LU → (LU → LU → Option β) → Option β
def P98 : T98 := fun β a b k =>
 k a b
def F98 : T98 := P98
abbrev s98 : List (Bool × List CK) := [(true, [.str, .str])]
def G98 (F : T98) (β : Type) (e : argsT s98) (k : V → Option β) : Option β := F β e.1.1 e.1.2.1 (fun y1 y2 => k (.agg [.str y1, .str y2]))
abbrev W98 (F : T98) : WT := wrap s98 (G98 F)
theorem k98 : KO [] noX 98 Tryz.f98 s98 (G98 (P98)) := fun _ _ _ => by kernel_rfl
theorem ok98 : FnOk D 98 (W98 F98) := oW Tryz.func98 (tn) (k98 )
abbrev T145 : Type 1 := (β : Type) → LU → LU → LU → Int → Int → LU → Int → Bool → LU → Int → (LU → LU → LU → Int → Int → LU → Int → Bool → LU → Int → Option β) → Option β
def P145 (F98 : T98) (F151 : T151) : T145 := fun β a b c d f g h i j l k =>
 F98 _ b c fun t1 t2 =>
 F151 _ d f g h i j fun n3 n4 t5 n6 b7 t8 =>
 k a t1 t2 n3 n4 t5 n6 b7 t8 l
def F145 : T145 := P145 F98 F151
abbrev s145 : List (Bool × List CK) := [(true, q3)]
def G145 (F : T145) (β : Type) (e : argsT s145) (k : V → Option β) : Option β := let a:=e.1;let b:=a.2;let c:=b.2;let d:=c.2;let f:=d.2;let g:=f.2;let h:=g.2;let i:=h.2;let j:=i.2;let l:=j.2;F β a.1 b.1 c.1 d.1 f.1 g.1 h.1 i.1 j.1 l.1 (fun y1 y2 y3 y4 y5 y6 y7 y8 y9 y10 => k (.agg [.str y1, .str y2, .str y3, .int .i64 y4, .int .i64 y5, .str y6, .int .i64 y7, .bool y8, .str y9, .int .i64 y10]))
abbrev W145 (F : T145) : WT := wrap s145 (G145 F)
theorem k145 (F98 : T98) (F151 : T151) : KO [(98, W98 F98), (151, W151 F151)] noX 145 Tryz.f145 s145 (G145 (P145 F98 F151)) := fun _ _ _ => by kernel_rfl
theorem ok145 : FnOk D 145 (W145 F145) := oW Tryz.func145 (tc ok98 (tc ok151 tn)) (k145 F98 F151 )
abbrev T95 : Type 1 := T144
def P95 (F145 : T145) : T95 := fun β a k =>
 chk (0 ≤ (a.length : Int) ∧ (a.length : Int) ≤ (a.length : Int) ∧ (a.length : Int) * 120 ≤ 140737488355328 ∧ (a.length : Int) ≤ 140737488355328) <|
 whileK (fun s1 =>
 br (decide ((lI s1 2) < ((lL s1 0).length : Int))) (
 chk (0 ≤ (lI s1 2)) <|
 idx true q3 (lL s1 0) ((lI s1 2).toNat) fun (e2 : r8_) =>
 F145 _ e2.1 e2.2.1 e2.2.2.1 e2.2.2.2.1 e2.2.2.2.2.1 e2.2.2.2.2.2.1 e2.2.2.2.2.2.2.1 e2.2.2.2.2.2.2.2.1 e2.2.2.2.2.2.2.2.2.1 e2.2.2.2.2.2.2.2.2.2.1 fun t3 t4 t5 n6 n7 t8 n9 b10 t11 n12 =>
 chk (0 ≤ (lI s1 2) ∧ (lI s1 2).toNat < (lL s1 1).length) <|
 storeO (lL s1 1) ((lI s1 2).toNat) 0 [.str t3, .str t4, .str t5, .int .i64 n6, .int .i64 n7, .str t8, .int .i64 n9, .bool b10, .str t11, .int .i64 n12] fun l13 =>
 some (.inl [.l (lL s1 0), .l l13, .i (IntKind.wrap .i64 ((lI s1 2) + 1))])) (
 some (.inr (0, [.l (lL s1 1)])))) [.l a, .l (List.replicate ((a.length : Int).toNat) (.agg [.str [], .str [], .str [], .int .i64 0, .int .i64 0, .str [], .int .i64 0, .bool false, .str [], .int .i64 0])), .i 0] fun r14 =>
 k (lL r14.2 0)
def F95 : T95 := P95 F145
def X95 : Exits := fun i => lookN i [] [(3, [(.exit 0, xk 23 [(3, .own 1000000 10 .flat [])] [])])]
abbrev s95 : List (Bool × List CK) := [(false, [.sl 10 true])]
def G95 (F : T95) (β : Type) (e : argsT s95) (k : V → Option β) : Option β := F β e.1.1 (fun y1 => k (.own 0 10 .flat y1))
abbrev W95 (F : T95) : WT := wrap s95 (G95 F)
theorem k95 (F145 : T145) : KO [(145, W145 F145)] X95 95 Tryz.f95 s95 (G95 (P95 F145)) := fun _ _ _ => by kernel_rfl
theorem ok95 : FnOk D 95 (W95 F95) := oW Tryz.func95 (tc ok145 tn) (k95 F145 )
abbrev T43 : Type 1 := T144
def P43 (F95 : T95) : T43 := fun β a k =>
 F95 _ a fun l1 =>
 k l1
def F43 : T43 := P43 F95
abbrev s43 : List (Bool × List CK) := [(true, [.sl 10 true])]
def G43 (F : T43) (β : Type) (e : argsT s43) (k : V → Option β) : Option β := F β e.1.1 (fun y1 => k (.agg [.own 0 10 .flat y1]))
abbrev W43 (F : T43) : WT := wrap s43 (G43 F)
theorem k43 (F95 : T95) : KO [(95, W95 F95)] noX 43 Tryz.f43 s43 (G43 (P43 F95)) := fun _ _ _ => by kernel_rfl
theorem ok43 : FnOk D 43 (W43 F43) := oW Tryz.func43 (tc ok95 tn) (k43 F95 )
abbrev T96 : Type 1 := (β : Type) → LU → LU → LU → Bool → (LU → LU → LU → Bool → Option β) → Option β
def P96 (F98 : T98) : T96 := fun β a b c d k =>
 F98 _ b c fun t1 t2 =>
 k a t1 t2 d
def F96 : T96 := P96 F98
abbrev s96 : List (Bool × List CK) := [(true, q12)]
def G96 (F : T96) (β : Type) (e : argsT s96) (k : V → Option β) : Option β := F β e.1.1 e.1.2.1 e.1.2.2.1 e.1.2.2.2.1 (fun y1 y2 y3 y4 => k (.agg [.str y1, .str y2, .str y3, .bool y4]))
abbrev W96 (F : T96) : WT := wrap s96 (G96 F)
theorem k96 (F98 : T98) : KO [(98, W98 F98)] noX 96 Tryz.f96 s96 (G96 (P96 F98)) := fun _ _ _ => by kernel_rfl
theorem ok96 : FnOk D 96 (W96 F96) := oW Tryz.func96 (tc ok98 tn) (k96 F98 )
abbrev T44 : Type 1 := T144
def P44 (F96 : T96) : T44 := fun β a k =>
 chk (0 ≤ (a.length : Int) ∧ (a.length : Int) ≤ (a.length : Int) ∧ (a.length : Int) * 56 ≤ 140737488355328 ∧ (a.length : Int) ≤ 140737488355328) <|
 whileK (fun s1 =>
 br (decide ((lI s1 2) < ((lL s1 0).length : Int))) (
 chk (0 ≤ (lI s1 2)) <|
 idx true q12 (lL s1 0) ((lI s1 2).toNat) fun (e2 : r7_) =>
 F96 _ e2.1 e2.2.1 e2.2.2.1 e2.2.2.2.1 fun t3 t4 t5 b6 =>
 chk (0 ≤ (lI s1 2) ∧ (lI s1 2).toNat < (lL s1 1).length) <|
 storeO (lL s1 1) ((lI s1 2).toNat) 0 [.str t3, .str t4, .str t5, .bool b6] fun l7 =>
 some (.inl [.l (lL s1 0), .l l7, .i (IntKind.wrap .i64 ((lI s1 2) + 1))])) (
 some (.inr (0, [.l (lL s1 1)])))) [.l a, .l (List.replicate ((a.length : Int).toNat) (.agg [.str [], .str [], .str [], .bool false])), .i 0] fun r8 =>
 k (lL r8.2 0)
def F44 : T44 := P44 F96
def X44 : Exits := fun i => lookN i [] [(3, [(.exit 0, xk 23 [(3, .own 1000000 4 .flat [])] [])])]
abbrev s44 : List (Bool × List CK) := [(false, [.sl 4 true])]
def G44 (F : T44) (β : Type) (e : argsT s44) (k : V → Option β) : Option β := F β e.1.1 (fun y1 => k (.own 0 4 .flat y1))
abbrev W44 (F : T44) : WT := wrap s44 (G44 F)
theorem k44 (F96 : T96) : KO [(96, W96 F96)] X44 44 Tryz.f44 s44 (G44 (P44 F96)) := fun _ _ _ => by kernel_rfl
theorem ok44 : FnOk D 44 (W44 F44) := oW Tryz.func44 (tc ok96 tn) (k44 F96 )
abbrev T17 : Type 1 := (β : Type) → LV → LV → LV → Int → (LV → LV → LV → Int → Option β) → Option β
def P17 (F42 : T42) (F43 : T43) (F44 : T44) : T17 := fun β a b c d k =>
 F42 _ a fun l1 =>
 F43 _ b fun l2 =>
 F44 _ c fun l3 =>
 k l1 l2 l3 d
def F17 : T17 := P17 F42 F43 F44
abbrev s17 : List (Bool × List CK) := [(true, q9)]
def G17 (F : T17) (β : Type) (e : argsT s17) (k : V → Option β) : Option β := F β e.1.1 e.1.2.1 e.1.2.2.1 e.1.2.2.2.1 (fun y1 y2 y3 y4 => k (.agg [.own 0 2 .clean y1, .own 1 10 .flat y2, .own 2 4 .flat y3, .int .i64 y4]))
abbrev W17 (F : T17) : WT := wrap s17 (G17 F)
theorem k17 (F42 : T42) (F43 : T43) (F44 : T44) : KO [(42, W42 F42), (43, W43 F43), (44, W44 F44)] noX 17 Tryz.f17 s17 (G17 (P17 F42 F43 F44)) := fun _ _ _ => by kernel_rfl
theorem ok17 : FnOk D 17 (W17 F17) := oW Tryz.func17 (tc ok42 (tc ok43 (tc ok44 tn))) (k17 F42 F43 F44 )
abbrev T106 : Type 1 := T144
def P106 : T106 := fun β a k =>
 chk (0 ≤ (a.length : Int) ∧ (a.length : Int) ≤ (a.length : Int) ∧ (a.length : Int) * 16 ≤ 140737488355328 ∧ (a.length : Int) ≤ 140737488355328) <|
 whileK (fun s1 =>
 br (decide ((lI s1 2) < ((lL s1 0).length : Int))) (
 chk (0 ≤ (lI s1 2)) <|
 idx false [.str] (lL s1 0) ((lI s1 2).toNat) fun (e2 : r12_) =>
 chk (0 ≤ (lI s1 2) ∧ (lI s1 2).toNat < (lL s1 1).length) <|
 storeO (lL s1 1) ((lI s1 2).toNat) 0 [.str e2.1] fun l3 =>
 some (.inl [.l (lL s1 0), .l l3, .i (IntKind.wrap .i64 ((lI s1 2) + 1))])) (
 some (.inr (0, [.l (lL s1 1)])))) [.l a, .l (List.replicate ((a.length : Int).toNat) (.str [])), .i 0] fun r4 =>
 k (lL r4.2 0)
def F106 : T106 := P106
def X106 : Exits := fun i => lookN i [] [(3, [(.exit 0, xk 22 [(3, .own 1000000 1 .flat [])] [])])]
abbrev s106 : List (Bool × List CK) := [(false, [.sl 1 true])]
def G106 (F : T106) (β : Type) (e : argsT s106) (k : V → Option β) : Option β := F β e.1.1 (fun y1 => k (.own 0 1 .flat y1))
abbrev W106 (F : T106) : WT := wrap s106 (G106 F)
theorem k106 : KO [] X106 106 Tryz.f106 s106 (G106 (P106)) := fun _ _ _ => by kernel_rfl
theorem ok106 : FnOk D 106 (W106 F106) := oW Tryz.func106 (tn) (k106 )
abbrev T99 : Type 1 := (β : Type) → Bool → LV → LV → LV → LU → (Bool → LV → LV → LV → LU → Option β) → Option β
def P99 (F106 : T106) : T99 := fun β a b c d f k =>
 F106 _ b fun l1 =>
 F106 _ c fun l2 =>
 F106 _ d fun l3 =>
 k a l1 l2 l3 f
def F99 : T99 := P99 F106
abbrev s99 : List (Bool × List CK) := [(true, q11)]
def G99 (F : T99) (β : Type) (e : argsT s99) (k : V → Option β) : Option β := let a:=e.1;let b:=a.2;let c:=b.2;let d:=c.2;let f:=d.2;F β a.1 b.1 c.1 d.1 f.1 (fun y1 y2 y3 y4 y5 => k (.agg [.bool y1, .own 1 1 .flat y2, .own 2 1 .flat y3, .own 3 1 .flat y4, .str y5]))
abbrev W99 (F : T99) : WT := wrap s99 (G99 F)
theorem k99 (F106 : T106) : KO [(106, W106 F106)] noX 99 Tryz.f99 s99 (G99 (P99 F106)) := fun _ _ _ => by kernel_rfl
theorem ok99 : FnOk D 99 (W99 F99) := oW Tryz.func99 (tc ok106 tn) (k99 F106 )
abbrev T100 : Type 1 := (β : Type) → LU → (LU → Option β) → Option β
def P100 : T100 := fun β a k =>
 k a
def F100 : T100 := P100
abbrev s100 : List (Bool × List CK) := [(true, [.str])]
def G100 (F : T100) (β : Type) (e : argsT s100) (k : V → Option β) : Option β := F β e.1.1 (fun y1 => k (.agg [.str y1]))
abbrev W100 (F : T100) : WT := wrap s100 (G100 F)
theorem k100 : KO [] noX 100 Tryz.f100 s100 (G100 (P100)) := fun _ _ _ => by kernel_rfl
theorem ok100 : FnOk D 100 (W100 F100) := oW Tryz.func100 (tn) (k100 )
abbrev T193 : Type 1 := T98
def P193 : T193 := fun β a b k =>
 k a b
def F193 : T193 := P193
abbrev s193 : List (Bool × List CK) := s98
abbrev G193 := G98
abbrev W193 (F : T193) : WT := wrap s193 (G193 F)
theorem k193 : KO [] noX 193 Tryz.f193 s193 (G193 (P193)) := fun _ _ _ => by kernel_rfl
theorem ok193 : FnOk D 193 (W193 F193) := oW Tryz.func193 (tn) (k193 )
abbrev T176 : Type 1 := T144
def P176 (F193 : T193) : T176 := fun β a k =>
 chk (0 ≤ (a.length : Int) ∧ (a.length : Int) ≤ (a.length : Int) ∧ (a.length : Int) * 32 ≤ 140737488355328 ∧ (a.length : Int) ≤ 140737488355328) <|
 whileK (fun s1 =>
 br (decide ((lI s1 2) < ((lL s1 0).length : Int))) (
 chk (0 ≤ (lI s1 2)) <|
 idx true [.str, .str] (lL s1 0) ((lI s1 2).toNat) fun (e2 : r10_) =>
 F193 _ e2.1 e2.2.1 fun t3 t4 =>
 chk (0 ≤ (lI s1 2) ∧ (lI s1 2).toNat < (lL s1 1).length) <|
 storeO (lL s1 1) ((lI s1 2).toNat) 0 [.str t3, .str t4] fun l5 =>
 some (.inl [.l (lL s1 0), .l l5, .i (IntKind.wrap .i64 ((lI s1 2) + 1))])) (
 some (.inr (0, [.l (lL s1 1)])))) [.l a, .l (List.replicate ((a.length : Int).toNat) (.agg [.str [], .str []])), .i 0] fun r6 =>
 k (lL r6.2 0)
def F176 : T176 := P176 F193
def X176 : Exits := fun i => lookN i [] [(3, [(.exit 0, xk 23 [(3, .own 1000000 2 .flat [])] [])])]
abbrev s176 : List (Bool × List CK) := [(false, [.sl 2 true])]
def G176 (F : T176) (β : Type) (e : argsT s176) (k : V → Option β) : Option β := F β e.1.1 (fun y1 => k (.own 0 2 .flat y1))
abbrev W176 (F : T176) : WT := wrap s176 (G176 F)
theorem k176 (F193 : T193) : KO [(193, W193 F193)] X176 176 Tryz.f176 s176 (G176 (P176 F193)) := fun _ _ _ => by kernel_rfl
theorem ok176 : FnOk D 176 (W176 F176) := oW Tryz.func176 (tc ok193 tn) (k176 F193 )
abbrev T146 : Type 1 := (β : Type) → Int → LU → LV → LU → (Int → LU → LV → LU → Option β) → Option β
def P146 (F176 : T176) : T146 := fun β a b c d k =>
 F176 _ c fun l1 =>
 k a b l1 d
def F146 : T146 := P146 F176
abbrev s146 : List (Bool × List CK) := [(true, q14)]
def G146 (F : T146) (β : Type) (e : argsT s146) (k : V → Option β) : Option β := F β e.1.1 e.1.2.1 e.1.2.2.1 e.1.2.2.2.1 (fun y1 y2 y3 y4 => k (.agg [.int .i64 y1, .str y2, .own 2 2 .flat y3, .str y4]))
abbrev W146 (F : T146) : WT := wrap s146 (G146 F)
theorem k146 (F176 : T176) : KO [(176, W176 F176)] noX 146 Tryz.f146 s146 (G146 (P146 F176)) := fun _ _ _ => by kernel_rfl
theorem ok146 : FnOk D 146 (W146 F146) := oW Tryz.func146 (tc ok176 tn) (k146 F176 )
abbrev T101 : Type 1 := T144
def P101 (F146 : T146) : T101 := fun β a k =>
 chk (0 ≤ (a.length : Int) ∧ (a.length : Int) ≤ (a.length : Int) ∧ (a.length : Int) * 64 ≤ 140737488355328 ∧ (a.length : Int) ≤ 140737488355328) <|
 whileK (fun s1 =>
 br (decide ((lI s1 2) < ((lL s1 0).length : Int))) (
 chk (0 ≤ (lI s1 2)) <|
 idx true q14 (lL s1 0) ((lI s1 2).toNat) fun (e2 : r1_) =>
 F146 _ e2.1 e2.2.1 e2.2.2.1 e2.2.2.2.1 fun n3 t4 l5 t6 =>
 chk (0 ≤ (lI s1 2) ∧ (lI s1 2).toNat < (lL s1 1).length) <|
 storeO (lL s1 1) ((lI s1 2).toNat) 0 [.int .i64 n3, .str t4, .sl 2 true l5, .str t6] fun l7 =>
 some (.inl [.l (lL s1 0), .l l7, .i (IntKind.wrap .i64 ((lI s1 2) + 1))])) (
 some (.inr (0, [.l (lL s1 1)])))) [.l a, .l (List.replicate ((a.length : Int).toNat) (.agg [.int .i64 0, .str [], .sl 2 true [], .str []])), .i 0] fun r8 =>
 k (lL r8.2 0)
def F101 : T101 := P101 F146
def X101 : Exits := fun i => lookN i [] [(3, [(.exit 0, xk 23 [(3, .own 1000000 4 .clean [])] [])])]
abbrev s101 : List (Bool × List CK) := [(false, [.sl 4 false])]
def G101 (F : T101) (β : Type) (e : argsT s101) (k : V → Option β) : Option β := F β e.1.1 (fun y1 => k (.own 0 4 .clean y1))
abbrev W101 (F : T101) : WT := wrap s101 (G101 F)
theorem k101 (F146 : T146) : KO [(146, W146 F146)] X101 101 Tryz.f101 s101 (G101 (P101 F146)) := fun _ _ _ => by kernel_rfl
theorem ok101 : FnOk D 101 (W101 F101) := oW Tryz.func101 (tc ok146 tn) (k101 F146 )
abbrev T177 : Type 1 := (β : Type) → LU → LU → Int → LV → (LU → LU → Int → LV → Option β) → Option β
def P177 (F176 : T176) : T177 := fun β a b c d k =>
 F176 _ d fun l1 =>
 k a b c l1
def F177 : T177 := P177 F176
abbrev s177 : List (Bool × List CK) := [(true, q7)]
def G177 (F : T177) (β : Type) (e : argsT s177) (k : V → Option β) : Option β := F β e.1.1 e.1.2.1 e.1.2.2.1 e.1.2.2.2.1 (fun y1 y2 y3 y4 => k (.agg [.str y1, .str y2, .int .i64 y3, .own 3 2 .flat y4]))
abbrev W177 (F : T177) : WT := wrap s177 (G177 F)
theorem k177 (F176 : T176) : KO [(176, W176 F176)] noX 177 Tryz.f177 s177 (G177 (P177 F176)) := fun _ _ _ => by kernel_rfl
theorem ok177 : FnOk D 177 (W177 F177) := oW Tryz.func177 (tc ok176 tn) (k177 F176 )
abbrev T147 : Type 1 := T144
def P147 (F177 : T177) : T147 := fun β a k =>
 chk (0 ≤ (a.length : Int) ∧ (a.length : Int) ≤ (a.length : Int) ∧ (a.length : Int) * 64 ≤ 140737488355328 ∧ (a.length : Int) ≤ 140737488355328) <|
 whileK (fun s1 =>
 br (decide ((lI s1 2) < ((lL s1 0).length : Int))) (
 chk (0 ≤ (lI s1 2)) <|
 idx true q7 (lL s1 0) ((lI s1 2).toNat) fun (e2 : r6_) =>
 F177 _ e2.1 e2.2.1 e2.2.2.1 e2.2.2.2.1 fun t3 t4 n5 l6 =>
 chk (0 ≤ (lI s1 2) ∧ (lI s1 2).toNat < (lL s1 1).length) <|
 storeO (lL s1 1) ((lI s1 2).toNat) 0 [.str t3, .str t4, .int .i64 n5, .sl 2 true l6] fun l7 =>
 some (.inl [.l (lL s1 0), .l l7, .i (IntKind.wrap .i64 ((lI s1 2) + 1))])) (
 some (.inr (0, [.l (lL s1 1)])))) [.l a, .l (List.replicate ((a.length : Int).toNat) (.agg [.str [], .str [], .int .i64 0, .sl 2 true []])), .i 0] fun r8 =>
 k (lL r8.2 0)
def F147 : T147 := P147 F177
def X147 : Exits := fun i => lookN i [] [(3, [(.exit 0, xk 23 [(3, .own 1000000 4 .clean [])] [])])]
abbrev s147 : List (Bool × List CK) := s101
abbrev G147 := G101
abbrev W147 (F : T147) : WT := wrap s147 (G147 F)
theorem k147 (F177 : T177) : KO [(177, W177 F177)] X147 147 Tryz.f147 s147 (G147 (P147 F177)) := fun _ _ _ => by kernel_rfl
theorem ok147 : FnOk D 147 (W147 F147) := oW Tryz.func147 (tc ok177 tn) (k147 F177 )
abbrev T148 : Type 1 := T144
def P148 : T148 := fun β a k =>
 chk (0 ≤ (a.length : Int) ∧ (a.length : Int) ≤ (a.length : Int) ∧ (a.length : Int) * 8 ≤ 140737488355328 ∧ (a.length : Int) ≤ 140737488355328) <|
 whileK (fun s1 =>
 br (decide ((lI s1 2) < ((lL s1 0).length : Int))) (
 chk (0 ≤ (lI s1 2)) <|
 idx false [.int .i64] (lL s1 0) ((lI s1 2).toNat) fun (e2 : Int × Unit) =>
 chk (0 ≤ (lI s1 2) ∧ (lI s1 2).toNat < (lL s1 1).length) <|
 storeO (lL s1 1) ((lI s1 2).toNat) 0 [.int .i64 e2.1] fun l3 =>
 some (.inl [.l (lL s1 0), .l l3, .i (IntKind.wrap .i64 ((lI s1 2) + 1))])) (
 some (.inr (0, [.l (lL s1 1)])))) [.l a, .l (List.replicate ((a.length : Int).toNat) (.int .i64 0)), .i 0] fun r4 =>
 k (lL r4.2 0)
def F148 : T148 := P148
def X148 : Exits := fun i => lookN i [] [(3, [(.exit 0, xk 22 [(3, .own 1000000 1 .flat [])] [])])]
abbrev s148 : List (Bool × List CK) := s106
abbrev G148 := G106
abbrev W148 (F : T148) : WT := wrap s148 (G148 F)
theorem k148 : KO [] X148 148 Tryz.f148 s148 (G148 (P148)) := fun _ _ _ => by kernel_rfl
theorem ok148 : FnOk D 148 (W148 F148) := oW Tryz.func148 (tn) (k148 )
abbrev T102 : Type 1 := (β : Type) → LV → LV → (LV → LV → Option β) → Option β
def P102 (F147 : T147) (F148 : T148) : T102 := fun β a b k =>
 F147 _ a fun l1 =>
 F148 _ b fun l2 =>
 k l1 l2
def F102 : T102 := P102 F147 F148
abbrev s102 : List (Bool × List CK) := [(true, q16)]
def G102 (F : T102) (β : Type) (e : argsT s102) (k : V → Option β) : Option β := F β e.1.1 e.1.2.1 (fun y1 y2 => k (.agg [.own 0 4 .clean y1, .own 1 1 .flat y2]))
abbrev W102 (F : T102) : WT := wrap s102 (G102 F)
theorem k102 (F147 : T147) (F148 : T148) : KO [(147, W147 F147), (148, W148 F148)] noX 102 Tryz.f102 s102 (G102 (P102 F147 F148)) := fun _ _ _ => by kernel_rfl
theorem ok102 : FnOk D 102 (W102 F102) := oW Tryz.func102 (tc ok147 (tc ok148 tn)) (k102 F147 F148 )
abbrev T149 : Type 1 := (β : Type) → Int → LU → LU → LU → Int → Bool → Int → LU → (Int → LU → LU → LU → Int → Bool → Int → LU → Option β) → Option β
def P149 (F98 : T98) : T149 := fun β a b c d f g h i k =>
 F98 _ b c fun t1 t2 =>
 k a t1 t2 d f g h i
def F149 : T149 := P149 F98
abbrev s149 : List (Bool × List CK) := [(true, q5)]
def G149 (F : T149) (β : Type) (e : argsT s149) (k : V → Option β) : Option β := let a:=e.1;let b:=a.2;let c:=b.2;let d:=c.2;let f:=d.2;let g:=f.2;let h:=g.2;let i:=h.2;F β a.1 b.1 c.1 d.1 f.1 g.1 h.1 i.1 (fun y1 y2 y3 y4 y5 y6 y7 y8 => k (.agg [.int .i64 y1, .str y2, .str y3, .str y4, .int .i64 y5, .bool y6, .int .i64 y7, .str y8]))
abbrev W149 (F : T149) : WT := wrap s149 (G149 F)
theorem k149 (F98 : T98) : KO [(98, W98 F98)] noX 149 Tryz.f149 s149 (G149 (P149 F98)) := fun _ _ _ => by kernel_rfl
theorem ok149 : FnOk D 149 (W149 F149) := oW Tryz.func149 (tc ok98 tn) (k149 F98 )
abbrev T103 : Type 1 := T144
def P103 (F149 : T149) : T103 := fun β a k =>
 chk (0 ≤ (a.length : Int) ∧ (a.length : Int) ≤ (a.length : Int) ∧ (a.length : Int) * 96 ≤ 140737488355328 ∧ (a.length : Int) ≤ 140737488355328) <|
 whileK (fun s1 =>
 br (decide ((lI s1 2) < ((lL s1 0).length : Int))) (
 chk (0 ≤ (lI s1 2)) <|
 idx true q5 (lL s1 0) ((lI s1 2).toNat) fun (e2 : r0_) =>
 F149 _ e2.1 e2.2.1 e2.2.2.1 e2.2.2.2.1 e2.2.2.2.2.1 e2.2.2.2.2.2.1 e2.2.2.2.2.2.2.1 e2.2.2.2.2.2.2.2.1 fun n3 t4 t5 t6 n7 b8 n9 t10 =>
 chk (0 ≤ (lI s1 2) ∧ (lI s1 2).toNat < (lL s1 1).length) <|
 storeO (lL s1 1) ((lI s1 2).toNat) 0 [.int .i64 n3, .str t4, .str t5, .str t6, .int .i64 n7, .bool b8, .int .i64 n9, .str t10] fun l11 =>
 some (.inl [.l (lL s1 0), .l l11, .i (IntKind.wrap .i64 ((lI s1 2) + 1))])) (
 some (.inr (0, [.l (lL s1 1)])))) [.l a, .l (List.replicate ((a.length : Int).toNat) (.agg [.int .i64 0, .str [], .str [], .str [], .int .i64 0, .bool false, .int .i64 0, .str []])), .i 0] fun r12 =>
 k (lL r12.2 0)
def F103 : T103 := P103 F149
def X103 : Exits := fun i => lookN i [] [(3, [(.exit 0, xk 23 [(3, .own 1000000 8 .flat [])] [])])]
abbrev s103 : List (Bool × List CK) := [(false, [.sl 8 true])]
def G103 (F : T103) (β : Type) (e : argsT s103) (k : V → Option β) : Option β := F β e.1.1 (fun y1 => k (.own 0 8 .flat y1))
abbrev W103 (F : T103) : WT := wrap s103 (G103 F)
theorem k103 (F149 : T149) : KO [(149, W149 F149)] X103 103 Tryz.f103 s103 (G103 (P103 F149)) := fun _ _ _ => by kernel_rfl
theorem ok103 : FnOk D 103 (W103 F103) := oW Tryz.func103 (tc ok149 tn) (k103 F149 )
abbrev T150 : Type 1 := (β : Type) → LU → LU → Bool → Int → LU → (LU → LU → Bool → Int → LU → Option β) → Option β
def P150 (F98 : T98) : T150 := fun β a b c d f k =>
 F98 _ a b fun t1 t2 =>
 k t1 t2 c d f
def F150 : T150 := P150 F98
abbrev s150 : List (Bool × List CK) := [(true, q10)]
def G150 (F : T150) (β : Type) (e : argsT s150) (k : V → Option β) : Option β := let a:=e.1;let b:=a.2;let c:=b.2;let d:=c.2;let f:=d.2;F β a.1 b.1 c.1 d.1 f.1 (fun y1 y2 y3 y4 y5 => k (.agg [.str y1, .str y2, .bool y3, .int .i64 y4, .str y5]))
abbrev W150 (F : T150) : WT := wrap s150 (G150 F)
theorem k150 (F98 : T98) : KO [(98, W98 F98)] noX 150 Tryz.f150 s150 (G150 (P150 F98)) := fun _ _ _ => by kernel_rfl
theorem ok150 : FnOk D 150 (W150 F150) := oW Tryz.func150 (tc ok98 tn) (k150 F98 )
abbrev T104 : Type 1 := T144
def P104 (F150 : T150) : T104 := fun β a k =>
 chk (0 ≤ (a.length : Int) ∧ (a.length : Int) ≤ (a.length : Int) ∧ (a.length : Int) * 64 ≤ 140737488355328 ∧ (a.length : Int) ≤ 140737488355328) <|
 whileK (fun s1 =>
 br (decide ((lI s1 2) < ((lL s1 0).length : Int))) (
 chk (0 ≤ (lI s1 2)) <|
 idx true q10 (lL s1 0) ((lI s1 2).toNat) fun (e2 : r4_) =>
 F150 _ e2.1 e2.2.1 e2.2.2.1 e2.2.2.2.1 e2.2.2.2.2.1 fun t3 t4 b5 n6 t7 =>
 chk (0 ≤ (lI s1 2) ∧ (lI s1 2).toNat < (lL s1 1).length) <|
 storeO (lL s1 1) ((lI s1 2).toNat) 0 [.str t3, .str t4, .bool b5, .int .i64 n6, .str t7] fun l8 =>
 some (.inl [.l (lL s1 0), .l l8, .i (IntKind.wrap .i64 ((lI s1 2) + 1))])) (
 some (.inr (0, [.l (lL s1 1)])))) [.l a, .l (List.replicate ((a.length : Int).toNat) (.agg [.str [], .str [], .bool false, .int .i64 0, .str []])), .i 0] fun r9 =>
 k (lL r9.2 0)
def F104 : T104 := P104 F150
def X104 : Exits := fun i => lookN i [] [(3, [(.exit 0, xk 23 [(3, .own 1000000 5 .flat [])] [])])]
abbrev s104 : List (Bool × List CK) := [(false, [.sl 5 true])]
def G104 (F : T104) (β : Type) (e : argsT s104) (k : V → Option β) : Option β := F β e.1.1 (fun y1 => k (.own 0 5 .flat y1))
abbrev W104 (F : T104) : WT := wrap s104 (G104 F)
theorem k104 (F150 : T150) : KO [(150, W150 F150)] X104 104 Tryz.f104 s104 (G104 (P104 F150)) := fun _ _ _ => by kernel_rfl
theorem ok104 : FnOk D 104 (W104 F104) := oW Tryz.func104 (tc ok150 tn) (k104 F150 )
abbrev T105 : Type 1 := T144
def P105 (F98 : T98) : T105 := fun β a k =>
 chk (0 ≤ (a.length : Int) ∧ (a.length : Int) ≤ (a.length : Int) ∧ (a.length : Int) * 32 ≤ 140737488355328 ∧ (a.length : Int) ≤ 140737488355328) <|
 whileK (fun s1 =>
 br (decide ((lI s1 2) < ((lL s1 0).length : Int))) (
 chk (0 ≤ (lI s1 2)) <|
 idx true [.str, .str] (lL s1 0) ((lI s1 2).toNat) fun (e2 : r10_) =>
 F98 _ e2.1 e2.2.1 fun t3 t4 =>
 chk (0 ≤ (lI s1 2) ∧ (lI s1 2).toNat < (lL s1 1).length) <|
 storeO (lL s1 1) ((lI s1 2).toNat) 0 [.str t3, .str t4] fun l5 =>
 some (.inl [.l (lL s1 0), .l l5, .i (IntKind.wrap .i64 ((lI s1 2) + 1))])) (
 some (.inr (0, [.l (lL s1 1)])))) [.l a, .l (List.replicate ((a.length : Int).toNat) (.agg [.str [], .str []])), .i 0] fun r6 =>
 k (lL r6.2 0)
def F105 : T105 := P105 F98
def X105 : Exits := fun i => lookN i [] [(3, [(.exit 0, xk 23 [(3, .own 1000000 2 .flat [])] [])])]
abbrev s105 : List (Bool × List CK) := s176
abbrev G105 := G176
abbrev W105 (F : T105) : WT := wrap s105 (G105 F)
theorem k105 (F98 : T98) : KO [(98, W98 F98)] X105 105 Tryz.f105 s105 (G105 (P105 F98)) := fun _ _ _ => by kernel_rfl
theorem ok105 : FnOk D 105 (W105 F105) := oW Tryz.func105 (tc ok98 tn) (k105 F98 )
abbrev T46 : Type 1 := (β : Type) → LU → LU → Bool → LV → LV → LV → LU → LU → LV → Bool → LV → LV → LV → LV → LV → Int → Int → Int → Int → LV → LV → Bool → (LU → LU → Bool → LV → LV → LV → LU → LU → LV → Bool → LV → LV → LV → LV → LV → Int → Int → Int → Int → LV → LV → Bool → Option β) → Option β
def P46 (F98 : T98) (F99 : T99) (F100 : T100) (F101 : T101) (F102 : T102) (F103 : T103) (F104 : T104) (F105 : T105) (F106 : T106) : T46 := fun β a b c d f g h i j l m n o p q r s t u v w x k =>
 F98 _ a b fun t1 t2 =>
 F99 _ c d f g h fun b3 l4 l5 l6 t7 =>
 F100 _ i fun t8 =>
 F101 _ j fun l9 =>
 F102 _ m n fun l10 l11 =>
 F103 _ o fun l12 =>
 F104 _ p fun l13 =>
 F105 _ q fun l14 =>
 F105 _ v fun l15 =>
 F106 _ w fun l16 =>
 k t1 t2 b3 l4 l5 l6 t7 t8 l9 l l10 l11 l12 l13 l14 r s t u l15 l16 x
def F46 : T46 := P46 F98 F99 F100 F101 F102 F103 F104 F105 F106
abbrev s46 : List (Bool × List CK) := [(true, q2)]
def G46 (F : T46) (β : Type) (e : argsT s46) (k : V → Option β) : Option β := let a:=e.1;let b:=a.2;let c:=b.2;let d:=c.2;let f:=d.2;let g:=f.2;let h:=g.2;let i:=h.2;let j:=i.2;let l:=j.2;let m:=l.2;let n:=m.2;let o:=n.2;let p:=o.2;let q:=p.2;let r:=q.2;let s:=r.2;let t:=s.2;let u:=t.2;let v:=u.2;let w:=v.2;let x:=w.2;F β a.1 b.1 c.1 d.1 f.1 g.1 h.1 i.1 j.1 l.1 m.1 n.1 o.1 p.1 q.1 r.1 s.1 t.1 u.1 v.1 w.1 x.1 (fun y1 y2 y3 y4 y5 y6 y7 y8 y9 y10 y11 y12 y13 y14 y15 y16 y17 y18 y19 y20 y21 y22 => k (.agg [.str y1, .str y2, .bool y3, .own 3 1 .flat y4, .own 4 1 .flat y5, .own 5 1 .flat y6, .str y7, .str y8, .own 8 4 .clean y9, .bool y10, .own 10 4 .clean y11, .own 11 1 .flat y12, .own 12 8 .flat y13, .own 13 5 .flat y14, .own 14 2 .flat y15, .int .i64 y16, .int .i64 y17, .int .i64 y18, .int .i64 y19, .own 19 2 .flat y20, .own 20 1 .flat y21, .bool y22]))
abbrev W46 (F : T46) : WT := wrap s46 (G46 F)
theorem k46 (F98 : T98) (F99 : T99) (F100 : T100) (F101 : T101) (F102 : T102) (F103 : T103) (F104 : T104) (F105 : T105) (F106 : T106) : KO [(98, W98 F98), (99, W99 F99), (100, W100 F100), (101, W101 F101), (102, W102 F102), (103, W103 F103), (104, W104 F104), (105, W105 F105), (106, W106 F106)] noX 46 Tryz.f46 s46 (G46 (P46 F98 F99 F100 F101 F102 F103 F104 F105 F106)) := fun _ _ _ => by kernel_rfl
theorem ok46 : FnOk D 46 (W46 F46) := oW Tryz.func46 (tc ok98 (tc ok99 (tc ok100 (tc ok101 (tc ok102 (tc ok103 (tc ok104 (tc ok105 (tc ok106 tn))))))))) (k46 F98 F99 F100 F101 F102 F103 F104 F105 F106 )
abbrev T97 : Type 1 := (β : Type) → LU → LU → LU → LU → Bool → LV → LV → LV → LU → LU → LV → Bool → LV → LV → LV → LV → LV → Int → Int → Int → Int → LV → LV → Bool → Bool → (LU → LU → LU → LU → Bool → LV → LV → LV → LU → LU → LV → Bool → LV → LV → LV → LV → LV → Int → Int → Int → Int → LV → LV → Bool → Bool → Option β) → Option β
def P97 (F98 : T98) (F46 : T46) : T97 := fun β a b c d f g h i j l m n o p q r s t u v w x y z a1 k =>
 F98 _ a b fun t1 t2 =>
 F46 _ c d f g h i j l m n o p q r s t u v w x y z fun t3 t4 b5 l6 l7 l8 t9 t10 l11 b12 l13 l14 l15 l16 l17 n18 n19 n20 n21 l22 l23 b24 =>
 k t1 t2 t3 t4 b5 l6 l7 l8 t9 t10 l11 b12 l13 l14 l15 l16 l17 n18 n19 n20 n21 l22 l23 b24 a1
def F97 : T97 := P97 F98 F46
abbrev s97 : List (Bool × List CK) := [(true, q0)]
def G97 (F : T97) (β : Type) (e : argsT s97) (k : V → Option β) : Option β := let a:=e.1;let b:=a.2;let c:=b.2;let d:=c.2;let f:=d.2;let g:=f.2;let h:=g.2;let i:=h.2;let j:=i.2;let l:=j.2;let m:=l.2;let n:=m.2;let o:=n.2;let p:=o.2;let q:=p.2;let r:=q.2;let s:=r.2;let t:=s.2;let u:=t.2;let v:=u.2;let w:=v.2;let x:=w.2;let y:=x.2;let z:=y.2;let a1:=z.2;F β a.1 b.1 c.1 d.1 f.1 g.1 h.1 i.1 j.1 l.1 m.1 n.1 o.1 p.1 q.1 r.1 s.1 t.1 u.1 v.1 w.1 x.1 y.1 z.1 a1.1 (fun y1 y2 y3 y4 y5 y6 y7 y8 y9 y10 y11 y12 y13 y14 y15 y16 y17 y18 y19 y20 y21 y22 y23 y24 y25 => k (.agg [.str y1, .str y2, .str y3, .str y4, .bool y5, .own 5 1 .flat y6, .own 6 1 .flat y7, .own 7 1 .flat y8, .str y9, .str y10, .own 10 4 .clean y11, .bool y12, .own 12 4 .clean y13, .own 13 1 .flat y14, .own 14 8 .flat y15, .own 15 5 .flat y16, .own 16 2 .flat y17, .int .i64 y18, .int .i64 y19, .int .i64 y20, .int .i64 y21, .own 21 2 .flat y22, .own 22 1 .flat y23, .bool y24, .bool y25]))
abbrev W97 (F : T97) : WT := wrap s97 (G97 F)
theorem k97 (F98 : T98) (F46 : T46) : KO [(98, W98 F98), (46, W46 F46)] noX 97 Tryz.f97 s97 (G97 (P97 F98 F46)) := fun _ _ _ => by kernel_rfl
theorem ok97 : FnOk D 97 (W97 F97) := oW Tryz.func97 (tc ok98 (tc ok46 tn)) (k97 F98 F46 )
abbrev T45 : Type 1 := T144
def P45 (F97 : T97) : T45 := fun β a k =>
 chk (0 ≤ (a.length : Int) ∧ (a.length : Int) ≤ (a.length : Int) ∧ (a.length : Int) * 424 ≤ 140737488355328 ∧ (a.length : Int) ≤ 140737488355328) <|
 whileK (fun s1 =>
 br (decide ((lI s1 2) < ((lL s1 0).length : Int))) (
 chk (0 ≤ (lI s1 2)) <|
 idx true q0 (lL s1 0) ((lI s1 2).toNat) fun (e2 : r9_) =>
 F97 _ e2.1 e2.2.1 e2.2.2.1 e2.2.2.2.1 e2.2.2.2.2.1 e2.2.2.2.2.2.1 e2.2.2.2.2.2.2.1 e2.2.2.2.2.2.2.2.1 e2.2.2.2.2.2.2.2.2.1 e2.2.2.2.2.2.2.2.2.2.1 e2.2.2.2.2.2.2.2.2.2.2.1 e2.2.2.2.2.2.2.2.2.2.2.2.1 e2.2.2.2.2.2.2.2.2.2.2.2.2.1 e2.2.2.2.2.2.2.2.2.2.2.2.2.2.1 e2.2.2.2.2.2.2.2.2.2.2.2.2.2.2.1 e2.2.2.2.2.2.2.2.2.2.2.2.2.2.2.2.1 e2.2.2.2.2.2.2.2.2.2.2.2.2.2.2.2.2.1 e2.2.2.2.2.2.2.2.2.2.2.2.2.2.2.2.2.2.1 e2.2.2.2.2.2.2.2.2.2.2.2.2.2.2.2.2.2.2.1 e2.2.2.2.2.2.2.2.2.2.2.2.2.2.2.2.2.2.2.2.1 e2.2.2.2.2.2.2.2.2.2.2.2.2.2.2.2.2.2.2.2.2.1 e2.2.2.2.2.2.2.2.2.2.2.2.2.2.2.2.2.2.2.2.2.2.1 e2.2.2.2.2.2.2.2.2.2.2.2.2.2.2.2.2.2.2.2.2.2.2.1 e2.2.2.2.2.2.2.2.2.2.2.2.2.2.2.2.2.2.2.2.2.2.2.2.1 e2.2.2.2.2.2.2.2.2.2.2.2.2.2.2.2.2.2.2.2.2.2.2.2.2.1 fun t3 t4 t5 t6 b7 l8 l9 l10 t11 t12 l13 b14 l15 l16 l17 l18 l19 n20 n21 n22 n23 l24 l25 b26 b27 =>
 chk (0 ≤ (lI s1 2) ∧ (lI s1 2).toNat < (lL s1 1).length) <|
 storeO (lL s1 1) ((lI s1 2).toNat) 0 [.str t3, .str t4, .str t5, .str t6, .bool b7, .sl 1 true l8, .sl 1 true l9, .sl 1 true l10, .str t11, .str t12, .sl 4 false l13, .bool b14, .sl 4 false l15, .sl 1 true l16, .sl 8 true l17, .sl 5 true l18, .sl 2 true l19, .int .i64 n20, .int .i64 n21, .int .i64 n22, .int .i64 n23, .sl 2 true l24, .sl 1 true l25, .bool b26, .bool b27] fun l28 =>
 some (.inl [.l (lL s1 0), .l l28, .i (IntKind.wrap .i64 ((lI s1 2) + 1))])) (
 some (.inr (0, [.l (lL s1 1)])))) [.l a, .l (List.replicate ((a.length : Int).toNat) (.agg [.str [], .str [], .str [], .str [], .bool false, .sl 1 true [], .sl 1 true [], .sl 1 true [], .str [], .str [], .sl 4 false [], .bool false, .sl 4 false [], .sl 1 true [], .sl 8 true [], .sl 5 true [], .sl 2 true [], .int .i64 0, .int .i64 0, .int .i64 0, .int .i64 0, .sl 2 true [], .sl 1 true [], .bool false, .bool false])), .i 0] fun r29 =>
 k (lL r29.2 0)
def F45 : T45 := P45 F97
def X45 : Exits := fun i => lookN i [] [(3, [(.exit 0, xk 23 [(3, .own 1000000 25 .clean [])] [])])]
abbrev s45 : List (Bool × List CK) := [(false, [.sl 25 false])]
def G45 (F : T45) (β : Type) (e : argsT s45) (k : V → Option β) : Option β := F β e.1.1 (fun y1 => k (.own 0 25 .clean y1))
abbrev W45 (F : T45) : WT := wrap s45 (G45 F)
theorem k45 (F97 : T97) : KO [(97, W97 F97)] X45 45 Tryz.f45 s45 (G45 (P45 F97)) := fun _ _ _ => by kernel_rfl
theorem ok45 : FnOk D 45 (W45 F45) := oW Tryz.func45 (tc ok97 tn) (k45 F97 )
abbrev T18 : Type 1 := (β : Type) → LV → Int → (LV → Int → Option β) → Option β
def P18 (F45 : T45) : T18 := fun β a b k =>
 F45 _ a fun l1 =>
 k l1 b
def F18 : T18 := P18 F45
abbrev s18 : List (Bool × List CK) := [(true, q15)]
def G18 (F : T18) (β : Type) (e : argsT s18) (k : V → Option β) : Option β := F β e.1.1 e.1.2.1 (fun y1 y2 => k (.agg [.own 0 25 .clean y1, .int .i64 y2]))
abbrev W18 (F : T18) : WT := wrap s18 (G18 F)
theorem k18 (F45 : T45) : KO [(45, W45 F45)] noX 18 Tryz.f18 s18 (G18 (P18 F45)) := fun _ _ _ => by kernel_rfl
theorem ok18 : FnOk D 18 (W18 F18) := oW Tryz.func18 (tc ok45 tn) (k18 F45 )
abbrev T107 : Type 1 := (β : Type) → LU → LU → Int → Int → LU → Int → Bool → LU → (LU → LU → Int → Int → LU → Int → Bool → LU → Option β) → Option β
def P107 (F98 : T98) (F151 : T151) : T107 := fun β a b c d f g h i k =>
 F98 _ a b fun t1 t2 =>
 F151 _ c d f g h i fun n3 n4 t5 n6 b7 t8 =>
 k t1 t2 n3 n4 t5 n6 b7 t8
def F107 : T107 := P107 F98 F151
abbrev s107 : List (Bool × List CK) := [(true, q8)]
def G107 (F : T107) (β : Type) (e : argsT s107) (k : V → Option β) : Option β := let a:=e.1;let b:=a.2;let c:=b.2;let d:=c.2;let f:=d.2;let g:=f.2;let h:=g.2;let i:=h.2;F β a.1 b.1 c.1 d.1 f.1 g.1 h.1 i.1 (fun y1 y2 y3 y4 y5 y6 y7 y8 => k (.agg [.str y1, .str y2, .int .i64 y3, .int .i64 y4, .str y5, .int .i64 y6, .bool y7, .str y8]))
abbrev W107 (F : T107) : WT := wrap s107 (G107 F)
theorem k107 (F98 : T98) (F151 : T151) : KO [(98, W98 F98), (151, W151 F151)] noX 107 Tryz.f107 s107 (G107 (P107 F98 F151)) := fun _ _ _ => by kernel_rfl
theorem ok107 : FnOk D 107 (W107 F107) := oW Tryz.func107 (tc ok98 (tc ok151 tn)) (k107 F98 F151 )
abbrev T47 : Type 1 := T144
def P47 (F107 : T107) : T47 := fun β a k =>
 chk (0 ≤ (a.length : Int) ∧ (a.length : Int) ≤ (a.length : Int) ∧ (a.length : Int) * 96 ≤ 140737488355328 ∧ (a.length : Int) ≤ 140737488355328) <|
 whileK (fun s1 =>
 br (decide ((lI s1 2) < ((lL s1 0).length : Int))) (
 chk (0 ≤ (lI s1 2)) <|
 idx true q8 (lL s1 0) ((lI s1 2).toNat) fun (e2 : r5_) =>
 F107 _ e2.1 e2.2.1 e2.2.2.1 e2.2.2.2.1 e2.2.2.2.2.1 e2.2.2.2.2.2.1 e2.2.2.2.2.2.2.1 e2.2.2.2.2.2.2.2.1 fun t3 t4 n5 n6 t7 n8 b9 t10 =>
 chk (0 ≤ (lI s1 2) ∧ (lI s1 2).toNat < (lL s1 1).length) <|
 storeO (lL s1 1) ((lI s1 2).toNat) 0 [.str t3, .str t4, .int .i64 n5, .int .i64 n6, .str t7, .int .i64 n8, .bool b9, .str t10] fun l11 =>
 some (.inl [.l (lL s1 0), .l l11, .i (IntKind.wrap .i64 ((lI s1 2) + 1))])) (
 some (.inr (0, [.l (lL s1 1)])))) [.l a, .l (List.replicate ((a.length : Int).toNat) (.agg [.str [], .str [], .int .i64 0, .int .i64 0, .str [], .int .i64 0, .bool false, .str []])), .i 0] fun r12 =>
 k (lL r12.2 0)
def F47 : T47 := P47 F107
def X47 : Exits := fun i => lookN i [] [(3, [(.exit 0, xk 23 [(3, .own 1000000 8 .flat [])] [])])]
abbrev s47 : List (Bool × List CK) := s103
abbrev G47 := G103
abbrev W47 (F : T47) : WT := wrap s47 (G47 F)
theorem k47 (F107 : T107) : KO [(107, W107 F107)] X47 47 Tryz.f47 s47 (G47 (P47 F107)) := fun _ _ _ => by kernel_rfl
theorem ok47 : FnOk D 47 (W47 F47) := oW Tryz.func47 (tc ok107 tn) (k47 F107 )
abbrev T19 : Type 1 := (β : Type) → Bool → LU → LU → Bool → LV → LV → LV → LU → LU → LV → Bool → LV → LV → LV → LV → LV → Int → Int → Int → Int → LV → LV → Bool → LV → LV → Int → (Bool → LU → LU → Bool → LV → LV → LV → LU → LU → LV → Bool → LV → LV → LV → LV → LV → Int → Int → Int → Int → LV → LV → Bool → LV → LV → Int → Option β) → Option β
def P19 (F46 : T46) (F47 : T47) (F42 : T42) : T19 := fun β a b c d f g h i j l m n o p q r s t u v w x y z a1 b1 k =>
 F46 _ b c d f g h i j l m n o p q r s t u v w x y fun t1 t2 b3 l4 l5 l6 t7 t8 l9 b10 l11 l12 l13 l14 l15 n16 n17 n18 n19 l20 l21 b22 =>
 F47 _ z fun l23 =>
 F42 _ a1 fun l24 =>
 k a t1 t2 b3 l4 l5 l6 t7 t8 l9 b10 l11 l12 l13 l14 l15 n16 n17 n18 n19 l20 l21 b22 l23 l24 b1
def F19 : T19 := P19 F46 F47 F42
abbrev s19 : List (Bool × List CK) := [(true, q4)]
def G19 (F : T19) (β : Type) (e : argsT s19) (k : V → Option β) : Option β := let a:=e.1;let b:=a.2;let c:=b.2;let d:=c.2;let f:=d.2;let g:=f.2;let h:=g.2;let i:=h.2;let j:=i.2;let l:=j.2;let m:=l.2;let n:=m.2;let o:=n.2;let p:=o.2;let q:=p.2;let r:=q.2;let s:=r.2;let t:=s.2;let u:=t.2;let v:=u.2;let w:=v.2;let x:=w.2;let y:=x.2;let z:=y.2;let a1:=z.2;let b1:=a1.2;F β a.1 b.1 c.1 d.1 f.1 g.1 h.1 i.1 j.1 l.1 m.1 n.1 o.1 p.1 q.1 r.1 s.1 t.1 u.1 v.1 w.1 x.1 y.1 z.1 a1.1 b1.1 (fun y1 y2 y3 y4 y5 y6 y7 y8 y9 y10 y11 y12 y13 y14 y15 y16 y17 y18 y19 y20 y21 y22 y23 y24 y25 y26 => k (.agg [.bool y1, .str y2, .str y3, .bool y4, .own 4 1 .flat y5, .own 5 1 .flat y6, .own 6 1 .flat y7, .str y8, .str y9, .own 9 4 .clean y10, .bool y11, .own 11 4 .clean y12, .own 12 1 .flat y13, .own 13 8 .flat y14, .own 14 5 .flat y15, .own 15 2 .flat y16, .int .i64 y17, .int .i64 y18, .int .i64 y19, .int .i64 y20, .own 20 2 .flat y21, .own 21 1 .flat y22, .bool y23, .own 23 8 .flat y24, .own 24 2 .clean y25, .int .i64 y26]))
abbrev W19 (F : T19) : WT := wrap s19 (G19 F)
theorem k19 (F46 : T46) (F47 : T47) (F42 : T42) : KO [(46, W46 F46), (47, W47 F47), (42, W42 F42)] noX 19 Tryz.f19 s19 (G19 (P19 F46 F47 F42)) := fun _ _ _ => by kernel_rfl
theorem ok19 : FnOk D 19 (W19 F19) := oW Tryz.func19 (tc ok46 (tc ok47 (tc ok42 tn))) (k19 F46 F47 F42 )
abbrev T7 : Type 1 := (β : Type) → LV → LV → LV → Int → LV → Int → Bool → LU → LU → Bool → LV → LV → LV → LU → LU → LV → Bool → LV → LV → LV → LV → LV → Int → Int → Int → Int → LV → LV → Bool → LV → LV → Int → Bool → (LV → LV → LV → Int → LV → Int → Bool → LU → LU → Bool → LV → LV → LV → LU → LU → LV → Bool → LV → LV → LV → LV → LV → Int → Int → Int → Int → LV → LV → Bool → LV → LV → Int → Bool → Option β) → Option β
def P7 (F17 : T17) (F18 : T18) (F19 : T19) : T7 := fun β a b c d f g h i j l m n o p q r s t u v w x y z a1 b1 c1 d1 f1 g1 h1 i1 j1 k =>
 F17 _ a b c d fun l1 l2 l3 n4 =>
 F18 _ f g fun l5 n6 =>
 F19 _ h i j l m n o p q r s t u v w x y z a1 b1 c1 d1 f1 g1 h1 i1 fun b7 t8 t9 b10 l11 l12 l13 t14 t15 l16 b17 l18 l19 l20 l21 l22 n23 n24 n25 n26 l27 l28 b29 l30 l31 n32 =>
 k l1 l2 l3 n4 l5 n6 b7 t8 t9 b10 l11 l12 l13 t14 t15 l16 b17 l18 l19 l20 l21 l22 n23 n24 n25 n26 l27 l28 b29 l30 l31 n32 j1
def F7 : T7 := P7 F17 F18 F19
abbrev s7 : List (Bool × List CK) := [(true, q1)]
def G7 (F : T7) (β : Type) (e : argsT s7) (k : V → Option β) : Option β := let a:=e.1;let b:=a.2;let c:=b.2;let d:=c.2;let f:=d.2;let g:=f.2;let h:=g.2;let i:=h.2;let j:=i.2;let l:=j.2;let m:=l.2;let n:=m.2;let o:=n.2;let p:=o.2;let q:=p.2;let r:=q.2;let s:=r.2;let t:=s.2;let u:=t.2;let v:=u.2;let w:=v.2;let x:=w.2;let y:=x.2;let z:=y.2;let a1:=z.2;let b1:=a1.2;let c1:=b1.2;let d1:=c1.2;let f1:=d1.2;let g1:=f1.2;let h1:=g1.2;let i1:=h1.2;let j1:=i1.2;F β a.1 b.1 c.1 d.1 f.1 g.1 h.1 i.1 j.1 l.1 m.1 n.1 o.1 p.1 q.1 r.1 s.1 t.1 u.1 v.1 w.1 x.1 y.1 z.1 a1.1 b1.1 c1.1 d1.1 f1.1 g1.1 h1.1 i1.1 j1.1 (fun y1 y2 y3 y4 y5 y6 y7 y8 y9 y10 y11 y12 y13 y14 y15 y16 y17 y18 y19 y20 y21 y22 y23 y24 y25 y26 y27 y28 y29 y30 y31 y32 y33 => k (.agg [.own 0 2 .clean y1, .own 1 10 .flat y2, .own 2 4 .flat y3, .int .i64 y4, .own 4 25 .clean y5, .int .i64 y6, .bool y7, .str y8, .str y9, .bool y10, .own 10 1 .flat y11, .own 11 1 .flat y12, .own 12 1 .flat y13, .str y14, .str y15, .own 15 4 .clean y16, .bool y17, .own 17 4 .clean y18, .own 18 1 .flat y19, .own 19 8 .flat y20, .own 20 5 .flat y21, .own 21 2 .flat y22, .int .i64 y23, .int .i64 y24, .int .i64 y25, .int .i64 y26, .own 26 2 .flat y27, .own 27 1 .flat y28, .bool y29, .own 29 8 .flat y30, .own 30 2 .clean y31, .int .i64 y32, .bool y33]))
abbrev W7 (F : T7) : WT := wrap s7 (G7 F)
theorem k7 (F17 : T17) (F18 : T18) (F19 : T19) : KO [(17, W17 F17), (18, W18 F18), (19, W19 F19)] noX 7 Tryz.f7 s7 (G7 (P7 F17 F18 F19)) := fun _ _ _ => by kernel_rfl
theorem ok7 : FnOk D 7 (W7 F7) := oW Tryz.func7 (tc ok17 (tc ok18 (tc ok19 tn))) (k7 F17 F18 F19 )
abbrev T41 : Type 1 := (β : Type) → Int → Int → Int → (Bool → Option β) → Option β
def P41 : T41 := fun β x least most k =>
 br (decide (x ≥ least)) (
 k (decide (x ≤ most))) (
 k false)
def F41 : T41 := P41
abbrev s41 : List (Bool × List CK) := [(false, [.int .i64]), (false, [.int .i64]), (false, [.int .i64])]
def G41 (F : T41) (β : Type) (e : argsT s41) (k : V → Option β) : Option β := F β e.1.1 e.2.1.1 e.2.2.1.1 (fun y1 => k (.bool y1))
abbrev W41 (F : T41) : WT := wrap s41 (G41 F)
theorem k41 : KO [] noX 41 Tryz.f41 s41 (G41 (P41)) := fun _ _ _ => by kernel_rfl
theorem ok41 : FnOk D 41 (W41 F41) := oW Tryz.func41 (tn) (k41 )
abbrev T90 : Type 1 := (β : Type) → LU → (Bool → Option β) → Option β
def P90 (F41 : T41) : T90 := fun β s k =>
 whileK (fun s1 =>
 br (decide ((lI s1 1) < ((lS s1 0).length : Int))) (
 idxS (lS s1 0) (lI s1 1) fun b2 =>
 br (decide (b2 < 97)) (
 some (.inr (0, [.s (lS s1 0), .b false]))) (
 idxS (lS s1 0) (lI s1 1) fun b3 =>
 br (decide (b3 > 122)) (
 some (.inr (0, [.s (lS s1 0), .b false]))) (
 some (.inl [.s (lS s1 0), .i (IntKind.wrap .i64 ((lI s1 1) + 1))])))) (
 some (.inr (1, [.s (lS s1 0)])))) [.s s, .i 0] fun r4 =>
 if r4.1 = 0 then
 k (lB r4.2 1)
 else
 F41 _ ((lS r4.2 0).length : Int) 1 8 fun b5 =>
 k b5
def F90 : T90 := P90 F41
def X90 : Exits := fun i => lookN i [] [(2, [(.ret, xk 23 [(0, .str []), (2, .bool false)] []), (.exit 0, xk 23 [(0, .str [])] [])])]
abbrev s90 : List (Bool × List CK) := [(false, [.str])]
def G90 (F : T90) (β : Type) (e : argsT s90) (k : V → Option β) : Option β := F β e.1.1 (fun y1 => k (.bool y1))
abbrev W90 (F : T90) : WT := wrap s90 (G90 F)
theorem k90 (F41 : T41) : KO [(41, W41 F41)] X90 90 Tryz.f90 s90 (G90 (P90 F41)) := fun _ _ _ => by kernel_rfl
theorem ok90 : FnOk D 90 (W90 F90) := oW Tryz.func90 (tc ok41 tn) (k90 F41 )
abbrev T173 : Type 1 := (β : Type) → LU → Int → (LV → Option β) → Option β
def P173 : T173 := fun β s xby k =>
 whileK (fun s1 =>
 br (decide ((lI s1 4) ≤ ((lS s1 0).length : Int))) (
 br ((lI s1 4) == ((lS s1 0).length : Int)) (
 chk (0 ≤ (lI s1 3) ∧ (lI s1 3) ≤ (lI s1 4) ∧ (lI s1 4) ≤ ((lS s1 0).length : Int)) <|
 chk (((lL s1 2).length + ([.str (((lS s1 0).take ((lI s1 4).toNat)).drop ((lI s1 3).toNat))] : LV).length) * 16 ≤ 140737488355328 ∧ (lL s1 2).length + ([.str (((lS s1 0).take ((lI s1 4).toNat)).drop ((lI s1 3).toNat))] : LV).length ≤ 140737488355328) <|
 some (.inl [.s (lS s1 0), .i (lI s1 1), .l ((lL s1 2) ++ ([.str (((lS s1 0).take ((lI s1 4).toNat)).drop ((lI s1 3).toNat))] : LV)), .i (IntKind.wrap .i64 ((lI s1 4) + 1)), .i (IntKind.wrap .i64 ((lI s1 4) + 1))])) (
 idxS (lS s1 0) (lI s1 4) fun b2 =>
 br (b2 == (lI s1 1)) (
 chk (0 ≤ (lI s1 3) ∧ (lI s1 3) ≤ (lI s1 4) ∧ (lI s1 4) ≤ ((lS s1 0).length : Int)) <|
 chk (((lL s1 2).length + ([.str (((lS s1 0).take ((lI s1 4).toNat)).drop ((lI s1 3).toNat))] : LV).length) * 16 ≤ 140737488355328 ∧ (lL s1 2).length + ([.str (((lS s1 0).take ((lI s1 4).toNat)).drop ((lI s1 3).toNat))] : LV).length ≤ 140737488355328) <|
 some (.inl [.s (lS s1 0), .i (lI s1 1), .l ((lL s1 2) ++ ([.str (((lS s1 0).take ((lI s1 4).toNat)).drop ((lI s1 3).toNat))] : LV)), .i (IntKind.wrap .i64 ((lI s1 4) + 1)), .i (IntKind.wrap .i64 ((lI s1 4) + 1))])) (
 some (.inl [.s (lS s1 0), .i (lI s1 1), .l (lL s1 2), .i (lI s1 3), .i (IntKind.wrap .i64 ((lI s1 4) + 1))])))) (
 some (.inr (0, [.l (lL s1 2)])))) [.s s, .i xby, .l [], .i 0, .i 0] fun r3 =>
 k (lL r3.2 0)
def F173 : T173 := P173
def X173 : Exits := fun i => lookN i [] [(4, [(.exit 0, xk 36 [(5, .own 1000000 1 .flat [])] [])])]
abbrev s173 : List (Bool × List CK) := [(false, [.str]), (false, [.int .u8])]
def G173 (F : T173) (β : Type) (e : argsT s173) (k : V → Option β) : Option β := F β e.1.1 e.2.1.1 (fun y1 => k (.own 0 1 .flat y1))
abbrev W173 (F : T173) : WT := wrap s173 (G173 F)
theorem k173 : KO [] X173 173 Tryz.f173 s173 (G173 (P173)) := fun _ _ _ => by kernel_rfl
theorem ok173 : FnOk D 173 (W173 F173) := oW Tryz.func173 (tn) (k173 )
abbrev T210 : Type 1 := (β : Type) → LV → (Bool → Option β) → Option β
def P210 (F90 : T90) : T210 := fun β l k =>
 whileK (fun s1 =>
 br (decide ((lI s1 1) < ((lL s1 0).length : Int))) (
 chk (0 ≤ (lI s1 1)) <|
 idx false [.str] (lL s1 0) ((lI s1 1).toNat) fun (e2 : r12_) =>
 F90 _ e2.1 fun b3 =>
 br (!b3) (
 some (.inr (0, [.l (lL s1 0), .b false]))) (
 some (.inl [.l (lL s1 0), .i (IntKind.wrap .i64 ((lI s1 1) + 1))]))) (
 some (.inr (1, [.l (lL s1 0)])))) [.l l, .i 0] fun r4 =>
 if r4.1 = 0 then
 k (lB r4.2 1)
 else
 k (decide (((lL r4.2 0).length : Int) ≤ 4))
def F210 : T210 := P210 F90
def X210 : Exits := fun i => lookN i [] [(2, [(.ret, xk 19 [(0, .sl 1 true []), (2, .bool false)] []), (.exit 0, xk 19 [(0, .sl 1 true [])] [])])]
abbrev s210 : List (Bool × List CK) := s106
def G210 (F : T210) (β : Type) (e : argsT s210) (k : V → Option β) : Option β := F β e.1.1 (fun y1 => k (.bool y1))
abbrev W210 (F : T210) : WT := wrap s210 (G210 F)
theorem k210 (F90 : T90) : KO [(90, W90 F90)] X210 210 Tryz.f210 s210 (G210 (P210 F90)) := fun _ _ _ => by kernel_rfl
theorem ok210 : FnOk D 210 (W210 F210) := oW Tryz.func210 (tc ok90 tn) (k210 F90 )
abbrev T211 : Type 1 := T90
def P211 (F41 : T41) : T211 := fun β s k =>
 whileK (fun s1 =>
 br (decide ((lI s1 1) < ((lS s1 0).length : Int))) (
 idxS (lS s1 0) (lI s1 1) fun b2 =>
 br (decide (b2 < 97)) (
 idxS (lS s1 0) (lI s1 1) fun b3 =>
 br (decide (b3 < 48)) (
 idxS (lS s1 0) (lI s1 1) fun b4 =>
 br (b4 != 47) (
 some (.inr (0, [.s (lS s1 0), .b false]))) (
 some (.inl [.s (lS s1 0), .i (IntKind.wrap .i64 ((lI s1 1) + 1))]))) (
 idxS (lS s1 0) (lI s1 1) fun b5 =>
 br (decide (b5 > 57)) (
 idxS (lS s1 0) (lI s1 1) fun b6 =>
 br (b6 != 47) (
 some (.inr (0, [.s (lS s1 0), .b false]))) (
 some (.inl [.s (lS s1 0), .i (IntKind.wrap .i64 ((lI s1 1) + 1))]))) (
 some (.inl [.s (lS s1 0), .i (IntKind.wrap .i64 ((lI s1 1) + 1))])))) (
 idxS (lS s1 0) (lI s1 1) fun b7 =>
 br (decide (b7 > 122)) (
 idxS (lS s1 0) (lI s1 1) fun b8 =>
 br (decide (b8 < 48)) (
 idxS (lS s1 0) (lI s1 1) fun b9 =>
 br (b9 != 47) (
 some (.inr (0, [.s (lS s1 0), .b false]))) (
 some (.inl [.s (lS s1 0), .i (IntKind.wrap .i64 ((lI s1 1) + 1))]))) (
 idxS (lS s1 0) (lI s1 1) fun b10 =>
 br (decide (b10 > 57)) (
 idxS (lS s1 0) (lI s1 1) fun b11 =>
 br (b11 != 47) (
 some (.inr (0, [.s (lS s1 0), .b false]))) (
 some (.inl [.s (lS s1 0), .i (IntKind.wrap .i64 ((lI s1 1) + 1))]))) (
 some (.inl [.s (lS s1 0), .i (IntKind.wrap .i64 ((lI s1 1) + 1))])))) (
 some (.inl [.s (lS s1 0), .i (IntKind.wrap .i64 ((lI s1 1) + 1))])))) (
 some (.inr (1, [.s (lS s1 0)])))) [.s s, .i 0] fun r12 =>
 if r12.1 = 0 then
 k (lB r12.2 1)
 else
 F41 _ ((lS r12.2 0).length : Int) 1 20 fun b13 =>
 k b13
def F211 : T211 := P211 F41
def X211 : Exits := fun i => lookN i [] [(2, [(.ret, xk 41 [(0, .str []), (2, .bool false)] []), (.exit 0, xk 41 [(0, .str [])] [])])]
abbrev s211 : List (Bool × List CK) := s90
abbrev G211 := G90
abbrev W211 (F : T211) : WT := wrap s211 (G211 F)
theorem k211 (F41 : T41) : KO [(41, W41 F41)] X211 211 Tryz.f211 s211 (G211 (P211 F41)) := fun _ _ _ => by kernel_rfl
theorem ok211 : FnOk D 211 (W211 F211) := oW Tryz.func211 (tc ok41 tn) (k211 F41 )
abbrev T191 : Type 1 := (β : Type) → Bool → LV → LV → LV → LU → (Bool → Option β) → Option β
def P191 (F210 : T210) (F211 : T211) : T191 := fun β f b c d a k =>
 br (!f) (
 br ((b.length : Int) == 0) (
 br ((c.length : Int) == 0) (
 br ((d.length : Int) == 0) (
 k (a == [])) (
 k false)) (
 k false)) (
 k false)) (
 F210 _ b fun b1 =>
 br b1 (
 F210 _ c fun b2 =>
 br b2 (
 F210 _ d fun b3 =>
 br b3 (
 br (a == []) (
 k true) (
 F211 _ a fun b4 =>
 k b4)) (
 k false)) (
 k false)) (
 k false))
def F191 : T191 := P191 F210 F211
abbrev s191 : List (Bool × List CK) := s99
def G191 (F : T191) (β : Type) (e : argsT s191) (k : V → Option β) : Option β := let a:=e.1;let b:=a.2;let c:=b.2;let d:=c.2;let f:=d.2;F β a.1 b.1 c.1 d.1 f.1 (fun y1 => k (.bool y1))
abbrev W191 (F : T191) : WT := wrap s191 (G191 F)
theorem k191 (F210 : T210) (F211 : T211) : KO [(210, W210 F210), (211, W211 F211)] noX 191 Tryz.f191 s191 (G191 (P191 F210 F211)) := fun _ _ _ => by kernel_rfl
theorem ok191 : FnOk D 191 (W191 F191) := oW Tryz.func191 (tc ok210 (tc ok211 tn)) (k191 F210 F211 )
abbrev T192 : Type 1 := (β : Type) → LU → LV → (LU → Option β) → Option β
def P192 : T192 := fun β word l k =>
 whileK (fun s1 =>
 br (decide ((lI s1 2) < ((lL s1 1).length : Int))) (
 chk ((lS s1 0).length + ([32] : LU).length ≤ 9223372036854775807) <|
 chk (0 ≤ (lI s1 2)) <|
 idx false [.str] (lL s1 1) ((lI s1 2).toNat) fun (e2 : r12_) =>
 chk (((lS s1 0) ++ [32]).length + e2.1.length ≤ 9223372036854775807) <|
 some (.inl [.s (((lS s1 0) ++ [32]) ++ e2.1), .l (lL s1 1), .i (IntKind.wrap .i64 ((lI s1 2) + 1))])) (
 some (.inr (0, [.s (lS s1 0)])))) [.s word, .l l, .i 0] fun r3 =>
 k (lS r3.2 0)
def F192 : T192 := P192
def X192 : Exits := fun i => lookN i [] [(2, [(.exit 0, xk 20 [(0, .str [])] [])])]
abbrev s192 : List (Bool × List CK) := [(false, [.str]), (false, [.sl 1 true])]
def G192 (F : T192) (β : Type) (e : argsT s192) (k : V → Option β) : Option β := F β e.1.1 e.2.1.1 (fun y1 => k (.str y1))
abbrev W192 (F : T192) : WT := wrap s192 (G192 F)
theorem k192 : KO [] X192 192 Tryz.f192 s192 (G192 (P192)) := fun _ _ _ => by kernel_rfl
theorem ok192 : FnOk D 192 (W192 F192) := oW Tryz.func192 (tn) (k192 )
abbrev T174 : Type 1 := (β : Type) → Bool → LV → LV → LV → LU → (LU → Option β) → Option β
def P174 (F191 : T191) (F192 : T192) : T174 := fun β b c d f a k =>
 F191 _ b c d f a fun b1 =>
 br (!b1) (
 k []) (
 br (!b) (
 k []) (
 F192 _ [115, 99, 114, 105, 112, 116] c fun t2 =>
 chk (t2.length + ([59] : LU).length ≤ 9223372036854775807) <|
 F192 _ [115, 116, 121, 108, 101] d fun t3 =>
 chk ((t2 ++ [59]).length + t3.length ≤ 9223372036854775807) <|
 chk (((t2 ++ [59]) ++ t3).length + ([59] : LU).length ≤ 9223372036854775807) <|
 F192 _ [105, 109, 103] f fun t4 =>
 chk ((((t2 ++ [59]) ++ t3) ++ [59]).length + t4.length ≤ 9223372036854775807) <|
 br (!(a == [])) (
 chk (((((t2 ++ [59]) ++ t3) ++ [59]) ++ t4).length + ([59, 110, 111, 110, 99, 101, 32] : LU).length ≤ 9223372036854775807) <|
 chk ((((((t2 ++ [59]) ++ t3) ++ [59]) ++ t4) ++ [59, 110, 111, 110, 99, 101, 32]).length + a.length ≤ 9223372036854775807) <|
 k ((((((t2 ++ [59]) ++ t3) ++ [59]) ++ t4) ++ [59, 110, 111, 110, 99, 101, 32]) ++ a)) (
 k ((((t2 ++ [59]) ++ t3) ++ [59]) ++ t4))))
def F174 : T174 := P174 F191 F192
abbrev s174 : List (Bool × List CK) := s99
def G174 (F : T174) (β : Type) (e : argsT s174) (k : V → Option β) : Option β := let a:=e.1;let b:=a.2;let c:=b.2;let d:=c.2;let f:=d.2;F β a.1 b.1 c.1 d.1 f.1 (fun y1 => k (.str y1))
abbrev W174 (F : T174) : WT := wrap s174 (G174 F)
theorem k174 (F191 : T191) (F192 : T192) : KO [(191, W191 F191), (192, W192 F192)] noX 174 Tryz.f174 s174 (G174 (P174 F191 F192)) := fun _ _ _ => by kernel_rfl
theorem ok174 : FnOk D 174 (W174 F174) := oW Tryz.func174 (tc ok191 (tc ok192 tn)) (k174 F191 F192 )
abbrev T143 : Type 1 := (β : Type) → LU → (Bool → LV → LV → LV → LU → Bool → Option β) → Option β
def P143 (F173 : T173) (F174 : T174) : T143 := fun β s k =>
 br (s == []) (
 k false [] [] [] [] true) (
 F173 _ s 59 fun l1 =>
 br (decide ((l1.length : Int) < 3)) (
 k false [] [] [] [] false) (
 chk (0 ≤ (0 : Int) ∧ 0 < l1.length) <|
 idxAt [.str] l1 0 0 fun (e2 : r12_) =>
 F173 _ e2.1 32 fun l3 =>
 chk (0 ≤ (1 : Int) ∧ (1 : Int) ≤ (l3.length : Int) ∧ (l3.length : Int) ≤ (l3.length : Int)) <|
 chk (0 ≤ (1 : Int) ∧ 1 < l1.length) <|
 idxAt [.str] l1 1 0 fun (e4 : r12_) =>
 F173 _ e4.1 32 fun l5 =>
 chk (0 ≤ (1 : Int) ∧ (1 : Int) ≤ (l5.length : Int) ∧ (l5.length : Int) ≤ (l5.length : Int)) <|
 chk (0 ≤ (2 : Int) ∧ 2 < l1.length) <|
 idxAt [.str] l1 2 0 fun (e6 : r12_) =>
 F173 _ e6.1 32 fun l7 =>
 chk (0 ≤ (1 : Int) ∧ (1 : Int) ≤ (l7.length : Int) ∧ (l7.length : Int) ≤ (l7.length : Int)) <|
 br (decide ((l1.length : Int) > 3)) (
 chk (0 ≤ (3 : Int) ∧ 3 < l1.length) <|
 idxAt [.str] l1 3 0 fun (e8 : r12_) =>
 br (decide ((e8.1.length : Int) > 6)) (
 chk (0 ≤ (3 : Int) ∧ 3 < l1.length) <|
 idxAt [.str] l1 3 0 fun (e9 : r12_) =>
 chk (0 ≤ (6 : Int) ∧ (6 : Int) ≤ (e9.1.length : Int) ∧ (e9.1.length : Int) ≤ (e9.1.length : Int)) <|
 F174 _ true ((l3.take ((l3.length : Int).toNat)).drop 1) ((l5.take ((l5.length : Int).toNat)).drop 1) ((l7.take ((l7.length : Int).toNat)).drop 1) ((e9.1.take ((e9.1.length : Int).toNat)).drop 6) fun t10 =>
 br (!(t10 == s)) (
 k false [] [] [] [] false) (
 k true ((l3.take ((l3.length : Int).toNat)).drop 1) ((l5.take ((l5.length : Int).toNat)).drop 1) ((l7.take ((l7.length : Int).toNat)).drop 1) ((e9.1.take ((e9.1.length : Int).toNat)).drop 6) true)) (
 F174 _ true ((l3.take ((l3.length : Int).toNat)).drop 1) ((l5.take ((l5.length : Int).toNat)).drop 1) ((l7.take ((l7.length : Int).toNat)).drop 1) [] fun t11 =>
 br (!(t11 == s)) (
 k false [] [] [] [] false) (
 k true ((l3.take ((l3.length : Int).toNat)).drop 1) ((l5.take ((l5.length : Int).toNat)).drop 1) ((l7.take ((l7.length : Int).toNat)).drop 1) [] true))) (
 F174 _ true ((l3.take ((l3.length : Int).toNat)).drop 1) ((l5.take ((l5.length : Int).toNat)).drop 1) ((l7.take ((l7.length : Int).toNat)).drop 1) [] fun t12 =>
 br (!(t12 == s)) (
 k false [] [] [] [] false) (
 k true ((l3.take ((l3.length : Int).toNat)).drop 1) ((l5.take ((l5.length : Int).toNat)).drop 1) ((l7.take ((l7.length : Int).toNat)).drop 1) [] true))))
def F143 : T143 := P143 F173 F174
abbrev s143 : List (Bool × List CK) := s90
def G143 (F : T143) (β : Type) (e : argsT s143) (k : V → Option β) : Option β := F β e.1.1 (fun y1 y2 y3 y4 y5 y6 => k (.tup [.agg [.bool y1, .view 1 1 .flat y2, .view 2 1 .flat y3, .view 3 1 .flat y4, .str y5], .bool y6]))
abbrev W143 (F : T143) : WT := wrap s143 (G143 F)
theorem k143 (F173 : T173) (F174 : T174) : KO [(173, W173 F173), (174, W174 F174)] noX 143 Tryz.f143 s143 (G143 (P143 F173 F174)) := fun _ _ _ => by kernel_rfl
theorem ok143 : FnOk D 143 (W143 F143) := oW Tryz.func143 (tc ok173 (tc ok174 tn)) (k143 F173 F174 )
abbrev T92 : Type 1 := (β : Type) → Int → Int → LU → Int → Bool → LU → (Bool → Option β) → Option β
def P92 (F143 : T143) (F41 : T41) : T92 := fun β a b c d g f k =>
 F143 _ f fun b1 l2 l3 l4 t5 b6 =>
 F41 _ a 100 599 fun b7 =>
 br b7 (
 F41 _ b 1 5 fun b8 =>
 br b8 (
 br (decide ((c.length : Int) ≤ 400)) (
 F41 _ d 0 1000 fun b9 =>
 br b9 (
 k b6) (
 k false)) (
 k false)) (
 k false)) (
 k false)
def F92 : T92 := P92 F143 F41
abbrev s92 : List (Bool × List CK) := s151
def G92 (F : T92) (β : Type) (e : argsT s92) (k : V → Option β) : Option β := let a:=e.1;let b:=a.2;let c:=b.2;let d:=c.2;let f:=d.2;let g:=f.2;F β a.1 b.1 c.1 d.1 f.1 g.1 (fun y1 => k (.bool y1))
abbrev W92 (F : T92) : WT := wrap s92 (G92 F)
theorem k92 (F143 : T143) (F41 : T41) : KO [(143, W143 F143), (41, W41 F41)] noX 92 Tryz.f92 s92 (G92 (P92 F143 F41)) := fun _ _ _ => by kernel_rfl
theorem ok92 : FnOk D 92 (W92 F92) := oW Tryz.func92 (tc ok143 (tc ok41 tn)) (k92 F143 F41 )
abbrev T88 : Type 1 := (β : Type) → LU → LV → (Bool → Option β) → Option β
def P88 (F90 : T90) (F92 : T92) : T88 := fun β a c k =>
 whileK (fun s1 =>
 br (decide ((lI s1 0) < ((lL s1 2).length : Int))) (
 chk (0 ≤ (lI s1 0)) <|
 idx true q6 (lL s1 2) ((lI s1 0).toNat) fun (e2 : r3_) =>
 F90 _ e2.1 fun b3 =>
 br (!b3) (
 some (.inr (0, [.b false, .s (lS s1 1), .l (lL s1 2)]))) (
 chk (0 ≤ (lI s1 0)) <|
 idx true q6 (lL s1 2) ((lI s1 0).toNat) fun (e4 : r3_) =>
 F92 _ e4.2.1 e4.2.2.1 e4.2.2.2.1 e4.2.2.2.2.1 e4.2.2.2.2.2.1 e4.2.2.2.2.2.2.1 fun b5 =>
 br (!b5) (
 some (.inr (0, [.b false, .s (lS s1 1), .l (lL s1 2)]))) (
 whileK (fun s6 =>
 br (decide ((lI s6 1) < (lI s6 0))) (
 chk (0 ≤ (lI s6 1)) <|
 idx true q6 (lL s6 3) ((lI s6 1).toNat) fun (e7 : r3_) =>
 chk (0 ≤ (lI s6 0)) <|
 idx true q6 (lL s6 3) ((lI s6 0).toNat) fun (e8 : r3_) =>
 br (e7.1 == e8.1) (
 some (.inr (0, [.b false, .i (lI s6 0), .s (lS s6 2), .l (lL s6 3)]))) (
 some (.inl [.i (lI s6 0), .i (IntKind.wrap .i64 ((lI s6 1) + 1)), .s (lS s6 2), .l (lL s6 3)]))) (
 some (.inr (1, [.i (lI s6 0), .s (lS s6 2), .l (lL s6 3)])))) [.i (lI s1 0), .i 0, .s (lS s1 1), .l (lL s1 2)] fun r9 =>
 if r9.1 = 0 then
 some (.inr (0, [.b (lB r9.2 0), .s (lS r9.2 2), .l (lL r9.2 3)]))
 else
 some (.inl [.i (IntKind.wrap .i64 ((lI r9.2 0) + 1)), .s (lS r9.2 1), .l (lL r9.2 2)])))) (
 some (.inr (1, [.s (lS s1 1), .l (lL s1 2)])))) [.i 0, .s a, .l c] fun r10 =>
 if r10.1 = 0 then
 k (lB r10.2 0)
 else
 F90 _ (lS r10.2 0) fun b11 =>
 br b11 (
 k (decide (((lL r10.2 1).length : Int) ≤ 10))) (
 k false)
def F88 : T88 := P88 F90 F92
def X88 : Exits := fun i => lookN i [] [(2, [(.ret, xk 57 [(1, .ptr 1 0), (2, .bool false)] [(1, .agg [.str [], .sl 7 true []])]), (.exit 0, xk 57 [(1, .ptr 1 0)] [(1, .agg [.str [], .sl 7 true []])])]), (7, [(.ret, xk 57 [(1, .ptr 1 0), (2, .bool false), (3, .int .i64 0)] [(1, .agg [.str [], .sl 7 true []])]), (.exit 2, xk 57 [(1, .ptr 1 0), (3, .int .i64 0)] [(1, .agg [.str [], .sl 7 true []])])])]
abbrev s88 : List (Bool × List CK) := s94
def G88 (F : T88) (β : Type) (e : argsT s88) (k : V → Option β) : Option β := F β e.1.1 e.1.2.1 (fun y1 => k (.bool y1))
abbrev W88 (F : T88) : WT := wrap s88 (G88 F)
theorem k88 (F90 : T90) (F92 : T92) : KO [(90, W90 F90), (92, W92 F92)] X88 88 Tryz.f88 s88 (G88 (P88 F90 F92)) := fun _ _ _ => by kernel_rfl
theorem ok88 : FnOk D 88 (W88 F88) := oW Tryz.func88 (tc ok90 (tc ok92 tn)) (k88 F90 F92 )
abbrev T89 : Type 1 := (β : Type) → LV → LU → (Int → Option β) → Option β
def P89 : T89 := fun β l host k =>
 whileK (fun s1 =>
 br (decide ((lI s1 2) < ((lL s1 0).length : Int))) (
 chk (0 ≤ (lI s1 2)) <|
 idx true [.str, .sl 7 true] (lL s1 0) ((lI s1 2).toNat) fun (e2 : r11_) =>
 br (e2.1 == (lS s1 1)) (
 some (.inr (0, [.i (lI s1 2)]))) (
 some (.inl [.l (lL s1 0), .s (lS s1 1), .i (IntKind.wrap .i64 ((lI s1 2) + 1))]))) (
 some (.inr (1, [])))) [.l l, .s host, .i 0] fun r3 =>
 if r3.1 = 0 then
 k (lI r3.2 0)
 else
 k (-1)
def F89 : T89 := P89
def X89 : Exits := fun i => lookN i [] [(2, [(.ret, xk 20 [(4, .int .i64 0)] []), (.exit 0, xk 20 [] [])])]
abbrev s89 : List (Bool × List CK) := [(false, [.sl 2 false]), (false, [.str])]
def G89 (F : T89) (β : Type) (e : argsT s89) (k : V → Option β) : Option β := F β e.1.1 e.2.1.1 (fun y1 => k (.int .i64 y1))
abbrev W89 (F : T89) : WT := wrap s89 (G89 F)
theorem k89 : KO [] X89 89 Tryz.f89 s89 (G89 (P89)) := fun _ _ _ => by kernel_rfl
theorem ok89 : FnOk D 89 (W89 F89) := oW Tryz.func89 (tn) (k89 )
abbrev T39 : Type 1 := T210
def P39 (F88 : T88) (F89 : T89) : T39 := fun β l k =>
 whileK (fun s1 =>
 br (decide ((lI s1 1) < ((lL s1 0).length : Int))) (
 chk (0 ≤ (lI s1 1)) <|
 idx true [.str, .sl 7 true] (lL s1 0) ((lI s1 1).toNat) fun (e2 : r11_) =>
 F88 _ e2.1 e2.2.1 fun b3 =>
 br (!b3) (
 some (.inr (0, [.l (lL s1 0), .b false]))) (
 chk (0 ≤ (lI s1 1)) <|
 idx true [.str, .sl 7 true] (lL s1 0) ((lI s1 1).toNat) fun (e4 : r11_) =>
 F89 _ (lL s1 0) e4.1 fun n5 =>
 br (n5 != (lI s1 1)) (
 some (.inr (0, [.l (lL s1 0), .b false]))) (
 some (.inl [.l (lL s1 0), .i (IntKind.wrap .i64 ((lI s1 1) + 1))])))) (
 some (.inr (1, [.l (lL s1 0)])))) [.l l, .i 0] fun r6 =>
 if r6.1 = 0 then
 k (lB r6.2 1)
 else
 k (decide (((lL r6.2 0).length : Int) ≤ 4))
def F39 : T39 := P39 F88 F89
def X39 : Exits := fun i => lookN i [] [(2, [(.ret, xk 30 [(0, .sl 2 false []), (2, .bool false)] []), (.exit 0, xk 30 [(0, .sl 2 false [])] [])])]
abbrev s39 : List (Bool × List CK) := s42
def G39 (F : T39) (β : Type) (e : argsT s39) (k : V → Option β) : Option β := F β e.1.1 (fun y1 => k (.bool y1))
abbrev W39 (F : T39) : WT := wrap s39 (G39 F)
theorem k39 (F88 : T88) (F89 : T89) : KO [(88, W88 F88), (89, W89 F89)] X39 39 Tryz.f39 s39 (G39 (P39 F88 F89)) := fun _ _ _ => by kernel_rfl
theorem ok39 : FnOk D 39 (W39 F39) := oW Tryz.func39 (tc ok88 (tc ok89 tn)) (k39 F88 F89 )
abbrev T91 : Type 1 := (β : Type) → LU → LU → (Bool → Option β) → Option β
def P91 (F90 : T90) : T91 := fun β a b k =>
 F90 _ a fun b1 =>
 br b1 (
 F90 _ b fun b2 =>
 k b2) (
 k false)
def F91 : T91 := P91 F90
abbrev s91 : List (Bool × List CK) := s98
def G91 (F : T91) (β : Type) (e : argsT s91) (k : V → Option β) : Option β := F β e.1.1 e.1.2.1 (fun y1 => k (.bool y1))
abbrev W91 (F : T91) : WT := wrap s91 (G91 F)
theorem k91 (F90 : T90) : KO [(90, W90 F90)] noX 91 Tryz.f91 s91 (G91 (P91 F90)) := fun _ _ _ => by kernel_rfl
theorem ok91 : FnOk D 91 (W91 F91) := oW Tryz.func91 (tc ok90 tn) (k91 F90 )
abbrev T93 : Type 1 := (β : Type) → LV → LU → LU → LU → (Int → Option β) → Option β
def P93 : T93 := fun β a top b c k =>
 whileK (fun s1 =>
 br (decide ((lI s1 1) < ((lL s1 2).length : Int))) (
 chk (0 ≤ (lI s1 1)) <|
 idx true q3 (lL s1 2) ((lI s1 1).toNat) fun (e2 : r8_) =>
 br (e2.1 == (lS s1 0)) (
 chk (0 ≤ (lI s1 1)) <|
 idx true q3 (lL s1 2) ((lI s1 1).toNat) fun (e3 : r8_) =>
 br ((e3.2.1 == (lS s1 3)) && ((e3.2.2.1 == (lS s1 4)) && true)) (
 some (.inr (0, [.i (lI s1 1)]))) (
 some (.inl [.s (lS s1 0), .i (IntKind.wrap .i64 ((lI s1 1) + 1)), .l (lL s1 2), .s (lS s1 3), .s (lS s1 4)]))) (
 some (.inl [.s (lS s1 0), .i (IntKind.wrap .i64 ((lI s1 1) + 1)), .l (lL s1 2), .s (lS s1 3), .s (lS s1 4)]))) (
 some (.inr (1, [])))) [.s top, .i 0, .l a, .s b, .s c] fun r4 =>
 if r4.1 = 0 then
 k (lI r4.2 0)
 else
 k (-1)
def F93 : T93 := P93
def X93 : Exits := fun i => lookN i [] [(2, [(.ret, xk 34 [(6, .int .i64 0)] []), (.exit 0, xk 34 [] [])])]
abbrev s93 : List (Bool × List CK) := [(true, [.sl 10 true]), (false, [.str]), (true, [.str, .str])]
def G93 (F : T93) (β : Type) (e : argsT s93) (k : V → Option β) : Option β := F β e.1.1 e.2.1.1 e.2.2.1.1 e.2.2.1.2.1 (fun y1 => k (.int .i64 y1))
abbrev W93 (F : T93) : WT := wrap s93 (G93 F)
theorem k93 : KO [] X93 93 Tryz.f93 s93 (G93 (P93)) := fun _ _ _ => by kernel_rfl
theorem ok93 : FnOk D 93 (W93 F93) := oW Tryz.func93 (tn) (k93 )
abbrev T40 : Type 1 := T210
def P40 (F90 : T90) (F91 : T91) (F92 : T92) (F93 : T93) : T40 := fun β a k =>
 whileK (fun s1 =>
 br (decide ((lI s1 0) < ((lL s1 1).length : Int))) (
 chk (0 ≤ (lI s1 0)) <|
 idx true q3 (lL s1 1) ((lI s1 0).toNat) fun (e2 : r8_) =>
 F90 _ e2.1 fun b3 =>
 br (!b3) (
 some (.inr (0, [.b false, .l (lL s1 1)]))) (
 F91 _ e2.2.1 e2.2.2.1 fun b4 =>
 br (!b4) (
 some (.inr (0, [.b false, .l (lL s1 1)]))) (
 F92 _ e2.2.2.2.1 e2.2.2.2.2.1 e2.2.2.2.2.2.1 e2.2.2.2.2.2.2.1 e2.2.2.2.2.2.2.2.1 e2.2.2.2.2.2.2.2.2.1 fun b5 =>
 br (!b5) (
 some (.inr (0, [.b false, .l (lL s1 1)]))) (
 br (e2.2.2.2.1 != 200) (
 some (.inr (0, [.b false, .l (lL s1 1)]))) (
 F93 _ (lL s1 1) e2.1 e2.2.1 e2.2.2.1 fun n6 =>
 br (n6 != (lI s1 0)) (
 some (.inr (0, [.b false, .l (lL s1 1)]))) (
 some (.inl [.i (IntKind.wrap .i64 ((lI s1 0) + 1)), .l (lL s1 1)]))))))) (
 some (.inr (1, [.l (lL s1 1)])))) [.i 0, .l a] fun r7 =>
 if r7.1 = 0 then
 k (lB r7.2 0)
 else
 k (decide (((lL r7.2 0).length : Int) ≤ 100))
def F40 : T40 := P40 F90 F91 F92 F93
def X40 : Exits := fun i => lookN i [] [(2, [(.ret, xk 53 [(1, .ptr 1 0), (2, .bool false)] [(1, .agg [.sl 10 true []])]), (.exit 0, xk 53 [(1, .ptr 1 0)] [(1, .agg [.sl 10 true []])])])]
abbrev s40 : List (Bool × List CK) := s43
def G40 (F : T40) (β : Type) (e : argsT s40) (k : V → Option β) : Option β := F β e.1.1 (fun y1 => k (.bool y1))
abbrev W40 (F : T40) : WT := wrap s40 (G40 F)
theorem k40 (F90 : T90) (F91 : T91) (F92 : T92) (F93 : T93) : KO [(90, W90 F90), (91, W91 F91), (92, W92 F92), (93, W93 F93)] X40 40 Tryz.f40 s40 (G40 (P40 F90 F91 F92 F93)) := fun _ _ _ => by kernel_rfl
theorem ok40 : FnOk D 40 (W40 F40) := oW Tryz.func40 (tc ok90 (tc ok91 (tc ok92 (tc ok93 tn)))) (k40 F90 F91 F92 F93 )
abbrev T15 : Type 1 := (β : Type) → LV → LV → LV → Int → (Bool → Option β) → Option β
def P15 (F39 : T39) (F40 : T40) (F41 : T41) : T15 := fun β a b c d k =>
 F39 _ a fun b1 =>
 br b1 (
 F40 _ b fun b2 =>
 br b2 (
 br (decide ((c.length : Int) ≤ 400)) (
 F41 _ d 0 999999998000 fun b3 =>
 k b3) (
 k false)) (
 k false)) (
 k false)
def F15 : T15 := P15 F39 F40 F41
abbrev s15 : List (Bool × List CK) := s17
def G15 (F : T15) (β : Type) (e : argsT s15) (k : V → Option β) : Option β := F β e.1.1 e.1.2.1 e.1.2.2.1 e.1.2.2.2.1 (fun y1 => k (.bool y1))
abbrev W15 (F : T15) : WT := wrap s15 (G15 F)
theorem k15 (F39 : T39) (F40 : T40) (F41 : T41) : KO [(39, W39 F39), (40, W40 F40), (41, W41 F41)] noX 15 Tryz.f15 s15 (G15 (P15 F39 F40 F41)) := fun _ _ _ => by kernel_rfl
theorem ok15 : FnOk D 15 (W15 F15) := oW Tryz.func15 (tc ok39 (tc ok40 (tc ok41 tn))) (k15 F39 F40 F41 )
abbrev T16 : Type 1 := (β : Type) → LV → Int → (Bool → Option β) → Option β
def P16 (F41 : T41) : T16 := fun β a c k =>
 whileK (fun s1 =>
 br (decide ((lI s1 0) < ((lL s1 1).length : Int))) (
 chk (0 ≤ (lI s1 0)) <|
 idx true q0 (lL s1 1) ((lI s1 0).toNat) fun (e2 : r9_) =>
 br e2.2.2.2.2.2.2.2.2.2.2.2.2.2.2.2.2.2.2.2.2.2.2.2.2.1 (
 chk (0 ≤ (lI s1 0)) <|
 idx true q0 (lL s1 1) ((lI s1 0).toNat) fun (e3 : r9_) =>
 chk (0 ≤ (lI s1 0)) <|
 idx true q0 (lL s1 1) ((lI s1 0).toNat) fun (e4 : r9_) =>
 br (!((e3.1 == e4.2.2.1) && ((e3.2.1 == e4.2.2.2.1) && true))) (
 some (.inr (0, [.b false, .l (lL s1 1), .i (lI s1 2)]))) (
 some (.inl [.i (IntKind.wrap .i64 ((lI s1 0) + 1)), .l (lL s1 1), .i (lI s1 2)]))) (
 some (.inl [.i (IntKind.wrap .i64 ((lI s1 0) + 1)), .l (lL s1 1), .i (lI s1 2)]))) (
 some (.inr (1, [.l (lL s1 1), .i (lI s1 2)])))) [.i 0, .l a, .i c] fun r5 =>
 if r5.1 = 0 then
 k (lB r5.2 0)
 else
 br (decide (((lL r5.2 0).length : Int) ≤ 6)) (
 br (((lL r5.2 0).length : Int) == 0) (
 br ((lI r5.2 1) == (-1)) (
 k true) (
 F41 _ (lI r5.2 1) 0 (IntKind.wrap .i64 (((lL r5.2 0).length : Int) - 1)) fun b6 =>
 k b6)) (
 F41 _ (lI r5.2 1) 0 (IntKind.wrap .i64 (((lL r5.2 0).length : Int) - 1)) fun b7 =>
 k b7)) (
 k false)
def F16 : T16 := P16 F41
def X16 : Exits := fun i => lookN i [] [(2, [(.ret, xk 57 [(1, .ptr 1 0), (2, .bool false)] [(1, .agg [.sl 25 false [], .int .i64 0])]), (.exit 0, xk 57 [(1, .ptr 1 0)] [(1, .agg [.sl 25 false [], .int .i64 0])])])]
abbrev s16 : List (Bool × List CK) := s18
def G16 (F : T16) (β : Type) (e : argsT s16) (k : V → Option β) : Option β := F β e.1.1 e.1.2.1 (fun y1 => k (.bool y1))
abbrev W16 (F : T16) : WT := wrap s16 (G16 F)
theorem k16 (F41 : T41) : KO [(41, W41 F41)] X16 16 Tryz.f16 s16 (G16 (P16 F41)) := fun _ _ _ => by kernel_rfl
theorem ok16 : FnOk D 16 (W16 F16) := oW Tryz.func16 (tc ok41 tn) (k16 F41 )
abbrev T6 : Type 1 := (β : Type) → LV → LV → LV → Int → LV → Int → Bool → LU → LU → Bool → LV → LV → LV → LU → LU → LV → Bool → LV → LV → LV → LV → LV → Int → Int → Int → Int → LV → LV → Bool → LV → LV → Int → Bool → (Bool → Option β) → Option β
def P6 (F15 : T15) (F16 : T16) : T6 := fun β a b c d f g h i j l m n o p q r s t u v w x y z a1 c1 d1 f1 g1 h1 i1 j1 l1 k =>
 F15 _ a b c d fun b1 =>
 br b1 (
 F16 _ f g fun b2 =>
 k b2) (
 k false)
def F6 : T6 := P6 F15 F16
abbrev s6 : List (Bool × List CK) := s7
def G6 (F : T6) (β : Type) (e : argsT s6) (k : V → Option β) : Option β := let a:=e.1;let b:=a.2;let c:=b.2;let d:=c.2;let f:=d.2;let g:=f.2;let h:=g.2;let i:=h.2;let j:=i.2;let l:=j.2;let m:=l.2;let n:=m.2;let o:=n.2;let p:=o.2;let q:=p.2;let r:=q.2;let s:=r.2;let t:=s.2;let u:=t.2;let v:=u.2;let w:=v.2;let x:=w.2;let y:=x.2;let z:=y.2;let a1:=z.2;let b1:=a1.2;let c1:=b1.2;let d1:=c1.2;let f1:=d1.2;let g1:=f1.2;let h1:=g1.2;let i1:=h1.2;let j1:=i1.2;F β a.1 b.1 c.1 d.1 f.1 g.1 h.1 i.1 j.1 l.1 m.1 n.1 o.1 p.1 q.1 r.1 s.1 t.1 u.1 v.1 w.1 x.1 y.1 z.1 a1.1 b1.1 c1.1 d1.1 f1.1 g1.1 h1.1 i1.1 j1.1 (fun y1 => k (.bool y1))
abbrev W6 (F : T6) : WT := wrap s6 (G6 F)
theorem k6 (F15 : T15) (F16 : T16) : KO [(15, W15 F15), (16, W16 F16)] noX 6 Tryz.f6 s6 (G6 (P6 F15 F16)) := fun _ _ _ => by kernel_rfl
theorem ok6 : FnOk D 6 (W6 F6) := oW Tryz.func6 (tc ok15 (tc ok16 tn)) (k6 F15 F16 )
abbrev T50 : Type 1 := T41
def P50 : T50 := fun β n low high k =>
 br (decide (low ≤ n)) (
 k (decide (n ≤ high))) (
 k false)
def F50 : T50 := P50
abbrev s50 : List (Bool × List CK) := s41
abbrev G50 := G41
abbrev W50 (F : T50) : WT := wrap s50 (G50 F)
theorem k50 : KO [] noX 50 Tryz.f50 s50 (G50 (P50)) := fun _ _ _ => by kernel_rfl
theorem ok50 : FnOk D 50 (W50 F50) := oW Tryz.func50 (tn) (k50 )
theorem okd50 : FnOk D1 50 (W50 F50) := oW Tryz.func50 (tn) (k50 )
abbrev T110 : Type 1 := T90
def P110 (F50 : T50) : T110 := fun β s k =>
 whileK (fun s1 =>
 br (decide ((lI s1 1) < ((lS s1 0).length : Int))) (
 idxS (lS s1 0) (lI s1 1) fun b2 =>
 br (decide (b2 < 97)) (
 some (.inr (0, [.s (lS s1 0), .b false]))) (
 idxS (lS s1 0) (lI s1 1) fun b3 =>
 br (decide (b3 > 122)) (
 some (.inr (0, [.s (lS s1 0), .b false]))) (
 some (.inl [.s (lS s1 0), .i (IntKind.wrap .i64 ((lI s1 1) + 1))])))) (
 some (.inr (1, [.s (lS s1 0)])))) [.s s, .i 0] fun r4 =>
 if r4.1 = 0 then
 k (lB r4.2 1)
 else
 F50 _ ((lS r4.2 0).length : Int) 1 8 fun b5 =>
 k b5
def F110 : T110 := P110 F50
def X110 : Exits := fun i => lookN i [] [(2, [(.ret, xk 23 [(0, .str []), (2, .bool false)] []), (.exit 0, xk 23 [(0, .str [])] [])])]
abbrev s110 : List (Bool × List CK) := s90
abbrev G110 := G90
abbrev W110 (F : T110) : WT := wrap s110 (G110 F)
theorem k110 (F50 : T50) : KO [(50, W50 F50)] X110 110 Tryz.f110 s110 (G110 (P110 F50)) := fun _ _ _ => by kernel_rfl
theorem ok110 : FnOk D 110 (W110 F110) := oW Tryz.func110 (tc ok50 tn) (k110 F50 )
theorem okd110 : FnOk D1 110 (W110 F110) := oW Tryz.func110 (tc okd50 tn) (k110 F50 )
abbrev T179cAs : Type 1 := (β : Type) → LU → Int → Int → LU → Int → Bool → LU → LU → (Bool → Option β) → Option β
def P179cAs : T179cAs := fun β f_Path f_Response_Status f_Response_Kind f_Response_Body f_Response_Age f_Response_Shares f_Response_Policy c1_1 k =>
 k (f_Path == c1_1)
def F179cAs : T179cAs := P179cAs
def W179cAs (F : T179cAs) : (β : Type) → LV → (V → Option β) → Option β := fun β args k => match args with
 | [.agg [.str f_Path, .int .i64 f_Response_Status, .int .i64 f_Response_Kind, .str f_Response_Body, .int .i64 f_Response_Age, .bool f_Response_Shares, .str f_Response_Policy], .iptr (.agg [.str c1_1]) 0] => F β f_Path f_Response_Status f_Response_Kind f_Response_Body f_Response_Age f_Response_Shares f_Response_Policy c1_1 (fun y1 => k (.bool y1))
 | _ => none
theorem k179cAs {β : Type} (f_Path : LU) (f_Response_Status : Int) (f_Response_Kind : Int) (f_Response_Body : LU) (f_Response_Age : Int) (f_Response_Shares : Bool) (f_Response_Policy : LU) (c1_1 : LU) (k : V → Option β) : fnK cfg (tabL []) noX 179 Tryz.f179 β [.agg [.str f_Path, .int .i64 f_Response_Status, .int .i64 f_Response_Kind, .str f_Response_Body, .int .i64 f_Response_Age, .bool f_Response_Shares, .str f_Response_Policy], .iptr (.agg [.str c1_1]) 0] k = P179cAs β f_Path f_Response_Status f_Response_Kind f_Response_Body f_Response_Age f_Response_Shares f_Response_Policy c1_1 (fun y1 => k (.bool y1)) := by kernel_rfl
theorem ok179cAs : FnOk D 179 (W179cAs F179cAs) := fn_ok (l := []) (X := noX) (fun _ => rfl) Tryz.func179 rfl (tn) (fun β args k r h => by
 unfold W179cAs at h
 split at h
 ·rw [← h]; exact k179cAs _ _ _ _ _ _ _ _ k
 ·cases h)
abbrev T178c179 : Type 1 := (β : Type) → LV → LU → (Int → Option β) → Option β
def P178c179 (F179cAs : T179cAs) : T178c179 := fun β s f_1 k =>
 whileK (fun s1 =>
 br (decide ((lI s1 3) < (lI s1 2))) (
 chk (0 ≤ (lI s1 3)) <|
 idx true q6 (lL s1 0) ((lI s1 3).toNat) fun (e2 : LU × Int × Int × LU × Int × Bool × LU × Unit) =>
 F179cAs _ e2.1 e2.2.1 e2.2.2.1 e2.2.2.2.1 e2.2.2.2.2.1 e2.2.2.2.2.2.1 e2.2.2.2.2.2.2.1 (lS s1 1) fun b3 =>
 br b3 (
 some (.inr (0, [.i (lI s1 3)]))) (
 some (.inl [.l (lL s1 0), .s (lS s1 1), .i (lI s1 2), .i (IntKind.wrap .i64 ((lI s1 3) + 1))]))) (
 some (.inr (1, [])))) [.l s, .s f_1, .i (s.length : Int), .i 0] fun (r4 : Nat × List Leaf) =>
 if r4.1 = 0 then
 k (lI r4.2 0)
 else
 k (-1)
def F178c179 : T178c179 := P178c179 F179cAs
def X178c179 : Exits := fun i => lookN i [] [(2, [(.ret, xk 19 [(4, .int .i64 0)] []), (.exit 0, xk 19 [] [])])]
def W178c179 (F : T178c179) : (β : Type) → LV → (V → Option β) → Option β := fun β args k => match args with
 | [.sl 7 true s, .clo 179 [.iptr (.agg [.str f_1]) 0]] => F β s f_1 (fun y1 => k (.int .i64 y1))
 | _ => none
theorem k178c179 (F179cAs : T179cAs) {β : Type} (s : LV) (f_1 : LU) (k : V → Option β) : fnK cfg (tabL [(179, W179cAs F179cAs)]) X178c179 178 Tryz.f178 β [.sl 7 true s, .clo 179 [.iptr (.agg [.str f_1]) 0]] k = P178c179 F179cAs β s f_1 (fun y1 => k (.int .i64 y1)) := by kernel_rfl
theorem ok178c179 : FnOk D 178 (W178c179 F178c179) := fn_ok (l := [(179, W179cAs F179cAs)]) (X := X178c179) (fun _ => rfl) Tryz.func178 rfl (tc ok179cAs tn) (fun β args k r h => by
 unfold W178c179 at h
 split at h
 ·rw [← h]; exact k178c179 F179cAs _ _ k
 ·cases h)
abbrev T152 : Type 1 := (β : Type) → LU → LV → LU → (Int → Option β) → Option β
def P152 (F178c179 : T178c179) : T152 := fun β b a path k =>
 F178c179 _ a path fun n1 =>
 k n1
def F152 : T152 := P152 F178c179
abbrev s152 : List (Bool × List CK) := [(true, [.str, .sl 7 true]), (false, [.str])]
def G152 (F : T152) (β : Type) (e : argsT s152) (k : V → Option β) : Option β := F β e.1.1 e.1.2.1 e.2.1.1 (fun y1 => k (.int .i64 y1))
abbrev W152 (F : T152) : WT := wrap s152 (G152 F)
theorem k152 (F178c179 : T178c179) (β : Type) (e : argsT s152) (k : V → Option β) : fnK cfg (tabL [(178, W178c179 F178c179)]) noX 152 Tryz.f152 β (argsEnc s152 e) k = G152 (P152 F178c179 ) β e k := by kernel_rfl
theorem ok152 : FnOk D 152 (W152 F152) := oW Tryz.func152 (tc ok178c179 tn) (k152 F178c179 )
abbrev T232 : Type 1 := T90
def P232 (F110 : T110) : T232 := fun β s k =>
 F110 _ s fun b1 =>
 k (!b1)
def F232 : T232 := P232 F110
abbrev s232 : List (Bool × List CK) := s90
abbrev G232 := G90
abbrev W232 (F : T232) : WT := wrap s232 (G232 F)
theorem k232 (F110 : T110) : KO [(110, W110 F110)] noX 232 Tryz.f232 s232 (G232 (P232 F110)) := fun _ _ _ => by kernel_rfl
theorem okd232 : FnOk D1 232 (W232 F232) := oW Tryz.func232 (tc okd110 tn) (k232 F110 )
abbrev T241c232 : Type 1 := (β : Type) → LV → (Int → Option β) → Option β
def P241c232 (F232 : T232) : T241c232 := fun β s k =>
 whileK (fun s1 =>
 br (decide ((lI s1 2) < (lI s1 1))) (
 chk (0 ≤ (lI s1 2)) <|
 idx false [.str] (lL s1 0) ((lI s1 2).toNat) fun (e2 : LU × Unit) =>
 F232 _ e2.1 fun b3 =>
 br b3 (
 some (.inr (0, [.i (lI s1 2)]))) (
 some (.inl [.l (lL s1 0), .i (lI s1 1), .i (IntKind.wrap .i64 ((lI s1 2) + 1))]))) (
 some (.inr (1, [])))) [.l s, .i (s.length : Int), .i 0] fun (r4 : Nat × List Leaf) =>
 if r4.1 = 0 then
 k (lI r4.2 0)
 else
 k (-1)
def F241c232 : T241c232 := P241c232 F232
def X241c232 : Exits := fun i => lookN i [] [(2, [(.ret, xk 19 [(4, .int .i64 0)] []), (.exit 0, xk 19 [] [])])]
def W241c232 (F : T241c232) : (β : Type) → LV → (V → Option β) → Option β := fun β args k => match args with
 | [.sl 1 true s, .clo 232 []] => F β s (fun y1 => k (.int .i64 y1))
 | _ => none
theorem k241c232 (F232 : T232) {β : Type} (s : LV) (k : V → Option β) : fnK cfg (tabL [(232, W232 F232)]) X241c232 241 Tryz.f241 β [.sl 1 true s, .clo 232 []] k = P241c232 F232 β s (fun y1 => k (.int .i64 y1)) := by kernel_rfl
theorem okd241c232 : FnOk D1 241 (W241c232 F241c232) := fn_ok (l := [(232, W232 F232)]) (X := X241c232) (fun _ => rfl) Tryz.func241 rfl (tc okd232 tn) (fun β args k r h => by
 unfold W241c232 at h
 split at h
 ·rw [← h]; exact k241c232 F232 _ k
 ·cases h)
abbrev T231c232 : Type 1 := (β : Type) → LV → (Bool → Option β) → Option β
def P231c232 (F241c232 : T241c232) : T231c232 := fun β s k =>
 F241c232 _ s fun n1 =>
 k (decide (n1 ≥ 0))
def F231c232 : T231c232 := P231c232 F241c232
def W231c232 (F : T231c232) : (β : Type) → LV → (V → Option β) → Option β := fun β args k => match args with
 | [.sl 1 true s, .clo 232 []] => F β s (fun y1 => k (.bool y1))
 | _ => none
theorem k231c232 (F241c232 : T241c232) {β : Type} (s : LV) (k : V → Option β) : fnK cfg (tabL [(241, W241c232 F241c232)]) noX 231 Tryz.f231 β [.sl 1 true s, .clo 232 []] k = P231c232 F241c232 β s (fun y1 => k (.bool y1)) := by kernel_rfl
theorem okd231c232 : FnOk D1 231 (W231c232 F231c232) := fn_ok (l := [(241, W241c232 F241c232)]) (X := noX) (fun _ => rfl) Tryz.func231 rfl (tc okd241c232 tn) (fun β args k r h => by
 unfold W231c232 at h
 split at h
 ·rw [← h]; exact k231c232 F241c232 _ k
 ·cases h)
abbrev T216 : Type 1 := T210
def P216 (F231c232 : T231c232) : T216 := fun β l k =>
 br (decide ((l.length : Int) ≤ 4)) (
 F231c232 _ l fun b1 =>
 k (!b1)) (
 k false)
def F216 : T216 := P216 F231c232
abbrev s216 : List (Bool × List CK) := s106
abbrev G216 := G210
abbrev W216 (F : T216) : WT := wrap s216 (G216 F)
theorem k216 (F231c232 : T231c232) (β : Type) (e : argsT s216) (k : V → Option β) : fnK cfg (tabL [(231, W231c232 F231c232)]) noX 216 Tryz.f216 β (argsEnc s216 e) k = G216 (P216 F231c232 ) β e k := by kernel_rfl
theorem okd216 : FnOk D1 216 (W216 F216) := oW Tryz.func216 (tc okd231c232 tn) (k216 F231c232 )
abbrev T217 : Type 1 := T90
def P217 (F50 : T50) : T217 := fun β s k =>
 whileK (fun s1 =>
 br (decide ((lI s1 1) < ((lS s1 0).length : Int))) (
 idxS (lS s1 0) (lI s1 1) fun b2 =>
 br (decide (b2 ≥ 97)) (
 idxS (lS s1 0) (lI s1 1) fun b3 =>
 br (decide (b3 ≤ 122)) (
 some (.inl [.s (lS s1 0), .i (IntKind.wrap .i64 ((lI s1 1) + 1))])) (
 idxS (lS s1 0) (lI s1 1) fun b4 =>
 br (decide (b4 ≥ 48)) (
 idxS (lS s1 0) (lI s1 1) fun b5 =>
 br (decide (b5 ≤ 57)) (
 some (.inl [.s (lS s1 0), .i (IntKind.wrap .i64 ((lI s1 1) + 1))])) (
 idxS (lS s1 0) (lI s1 1) fun b6 =>
 br (!(b6 == 47)) (
 some (.inr (0, [.s (lS s1 0), .b false]))) (
 some (.inl [.s (lS s1 0), .i (IntKind.wrap .i64 ((lI s1 1) + 1))])))) (
 idxS (lS s1 0) (lI s1 1) fun b7 =>
 br (!(b7 == 47)) (
 some (.inr (0, [.s (lS s1 0), .b false]))) (
 some (.inl [.s (lS s1 0), .i (IntKind.wrap .i64 ((lI s1 1) + 1))]))))) (
 idxS (lS s1 0) (lI s1 1) fun b8 =>
 br (decide (b8 ≥ 48)) (
 idxS (lS s1 0) (lI s1 1) fun b9 =>
 br (decide (b9 ≤ 57)) (
 some (.inl [.s (lS s1 0), .i (IntKind.wrap .i64 ((lI s1 1) + 1))])) (
 idxS (lS s1 0) (lI s1 1) fun b10 =>
 br (!(b10 == 47)) (
 some (.inr (0, [.s (lS s1 0), .b false]))) (
 some (.inl [.s (lS s1 0), .i (IntKind.wrap .i64 ((lI s1 1) + 1))])))) (
 idxS (lS s1 0) (lI s1 1) fun b11 =>
 br (!(b11 == 47)) (
 some (.inr (0, [.s (lS s1 0), .b false]))) (
 some (.inl [.s (lS s1 0), .i (IntKind.wrap .i64 ((lI s1 1) + 1))]))))) (
 some (.inr (1, [.s (lS s1 0)])))) [.s s, .i 0] fun r12 =>
 if r12.1 = 0 then
 k (lB r12.2 1)
 else
 F50 _ ((lS r12.2 0).length : Int) 1 20 fun b13 =>
 k b13
def F217 : T217 := P217 F50
def X217 : Exits := fun i => lookN i [] [(2, [(.ret, xk 42 [(0, .str []), (2, .bool false)] []), (.exit 0, xk 42 [(0, .str [])] [])])]
abbrev s217 : List (Bool × List CK) := s90
abbrev G217 := G90
abbrev W217 (F : T217) : WT := wrap s217 (G217 F)
theorem k217 (F50 : T50) : KO [(50, W50 F50)] X217 217 Tryz.f217 s217 (G217 (P217 F50)) := fun _ _ _ => by kernel_rfl
theorem okd217 : FnOk D1 217 (W217 F217) := oW Tryz.func217 (tc okd50 tn) (k217 F50 )
abbrev T196 : Type 1 := T191
def P196 (F216 : T216) (F217 : T217) : T196 := fun β f b c d a k =>
 br (!f) (
 br ((b.length : Int) == 0) (
 br ((c.length : Int) == 0) (
 br ((d.length : Int) == 0) (
 k (a == [])) (
 k false)) (
 k false)) (
 k false)) (
 F216 _ b fun b1 =>
 br b1 (
 F216 _ c fun b2 =>
 br b2 (
 F216 _ d fun b3 =>
 br b3 (
 br (a == []) (
 k true) (
 F217 _ a fun b4 =>
 k b4)) (
 k false)) (
 k false)) (
 k false))
def F196 : T196 := P196 F216 F217
abbrev s196 : List (Bool × List CK) := s99
abbrev G196 := G191
abbrev W196 (F : T196) : WT := wrap s196 (G196 F)
theorem k196 (F216 : T216) (F217 : T217) : KO [(216, W216 F216), (217, W217 F217)] noX 196 Tryz.f196 s196 (G196 (P196 F216 F217)) := fun _ _ _ => by kernel_rfl
theorem okd196 : FnOk D1 196 (W196 F196) := oW Tryz.func196 (tc okd216 (tc okd217 tn)) (k196 F216 F217 )
abbrev T197 : Type 1 := (β : Type) → LV → LU → (LU → Option β) → Option β
def F197 : T197 := joinK
abbrev s197 : List (Bool × List CK) := [(false, [.sl 1 true]), (false, [.str])]
def G197 (F : T197) (β : Type) (e : argsT s197) (k : V → Option β) : Option β := F β e.1.1 e.2.1.1 (fun y1 => k (.str y1))
abbrev W197 (F : T197) : WT := wrap s197 (G197 F)
theorem okd197 : FnOk D1 197 (W197 F197) := ok_join (fun _ => rfl)
abbrev T182 : Type 1 := T174
def P182 (F196 : T196) (F197 : T197) : T182 := fun β f b c d a k =>
 F196 _ f b c d a fun b1 =>
 br (!b1) (
 k []) (
 br (!f) (
 k []) (
 chk ((([.str [115, 99, 114, 105, 112, 116]] : LV).length + b.length) * 16 ≤ 140737488355328 ∧ ([.str [115, 99, 114, 105, 112, 116]] : LV).length + b.length ≤ 140737488355328) <|
 F197 _ (([.str [115, 99, 114, 105, 112, 116]] : LV) ++ b) [32] fun t2 =>
 chk (t2.length + ([59] : LU).length ≤ 9223372036854775807) <|
 chk ((([.str [115, 116, 121, 108, 101]] : LV).length + c.length) * 16 ≤ 140737488355328 ∧ ([.str [115, 116, 121, 108, 101]] : LV).length + c.length ≤ 140737488355328) <|
 F197 _ (([.str [115, 116, 121, 108, 101]] : LV) ++ c) [32] fun t3 =>
 chk ((t2 ++ [59]).length + t3.length ≤ 9223372036854775807) <|
 chk (((t2 ++ [59]) ++ t3).length + ([59] : LU).length ≤ 9223372036854775807) <|
 chk ((([.str [105, 109, 103]] : LV).length + d.length) * 16 ≤ 140737488355328 ∧ ([.str [105, 109, 103]] : LV).length + d.length ≤ 140737488355328) <|
 F197 _ (([.str [105, 109, 103]] : LV) ++ d) [32] fun t4 =>
 chk ((((t2 ++ [59]) ++ t3) ++ [59]).length + t4.length ≤ 9223372036854775807) <|
 br (!(a == [])) (
 chk (([59, 110, 111, 110, 99, 101, 32] : LU).length + a.length ≤ 9223372036854775807) <|
 chk (((((t2 ++ [59]) ++ t3) ++ [59]) ++ t4).length + ([59, 110, 111, 110, 99, 101, 32] ++ a : LU).length ≤ 9223372036854775807) <|
 k (((((t2 ++ [59]) ++ t3) ++ [59]) ++ t4) ++ ([59, 110, 111, 110, 99, 101, 32] ++ a))) (
 k ((((t2 ++ [59]) ++ t3) ++ [59]) ++ t4))))
def F182 : T182 := P182 F196 F197
abbrev s182 : List (Bool × List CK) := s99
abbrev G182 := G174
abbrev W182 (F : T182) : WT := wrap s182 (G182 F)
theorem k182 (F196 : T196) (F197 : T197) : KO [(196, W196 F196), (197, W197 F197)] noX 182 Tryz.f182 s182 (G182 (P182 F196 F197)) := fun _ _ _ => by kernel_rfl
theorem okd182 : FnOk D1 182 (W182 F182) := oW Tryz.func182 (tc okd196 (tc okd197 tn)) (k182 F196 F197 )
abbrev T183 : Type 1 := T99
def P183 : T183 := fun β d a b c f k =>
 chk ((([] : LV).length + a.length) * 16 ≤ 140737488355328 ∧ ([] : LV).length + a.length ≤ 140737488355328) <|
 chk ((([] : LV).length + b.length) * 16 ≤ 140737488355328 ∧ ([] : LV).length + b.length ≤ 140737488355328) <|
 chk ((([] : LV).length + c.length) * 16 ≤ 140737488355328 ∧ ([] : LV).length + c.length ≤ 140737488355328) <|
 k d (([] : LV) ++ a) (([] : LV) ++ b) (([] : LV) ++ c) f
def F183 : T183 := P183
abbrev s183 : List (Bool × List CK) := s99
abbrev G183 := G99
abbrev W183 (F : T183) : WT := wrap s183 (G183 F)
theorem k183 : KO [] noX 183 Tryz.f183 s183 (G183 (P183)) := fun _ _ _ => by kernel_rfl
theorem okd183 : FnOk D1 183 (W183 F183) := oW Tryz.func183 (tn) (k183 )
abbrev T112 : Type 1 := T92
def F112 : T112 := respK F182 F183
abbrev s112 : List (Bool × List CK) := s151
abbrev G112 := G92
abbrev W112 (F : T112) : WT := wrap s112 (G112 F)
theorem ok112 : FnOk D 112 (W112 F112) := ok_resp (Fp := F182) (Cp := F183) (fun _ => rfl) okd182 okd183
abbrev T108 : Type 1 := T88
def P108 (F110 : T110) (F152 : T152) (F112 : T112) : T108 := fun β c a k =>
 whileK (fun s1 =>
 br (decide ((lI s1 2) < (lI s1 1))) (
 chk (0 ≤ (lI s1 2)) <|
 idx true q6 (lL s1 0) ((lI s1 2).toNat) fun (e2 : r3_) =>
 F110 _ e2.1 fun b3 =>
 br (!b3) (
 some (.inr (0, [.b false, .s (lS s1 3), .l (lL s1 4)]))) (
 F152 _ (lS s1 3) (lL s1 4) e2.1 fun n4 =>
 br (n4 != (lI s1 2)) (
 some (.inr (0, [.b false, .s (lS s1 3), .l (lL s1 4)]))) (
 F112 _ e2.2.1 e2.2.2.1 e2.2.2.2.1 e2.2.2.2.2.1 e2.2.2.2.2.2.1 e2.2.2.2.2.2.2.1 fun b5 =>
 br (!b5) (
 some (.inr (0, [.b false, .s (lS s1 3), .l (lL s1 4)]))) (
 some (.inl [.l (lL s1 0), .i (lI s1 1), .i (IntKind.wrap .i64 ((lI s1 2) + 1)), .s (lS s1 3), .l (lL s1 4)]))))) (
 some (.inr (1, [.s (lS s1 3), .l (lL s1 4)])))) [.l a, .i (a.length : Int), .i 0, .s c, .l a] fun r6 =>
 if r6.1 = 0 then
 k (lB r6.2 0)
 else
 F110 _ (lS r6.2 0) fun b7 =>
 br b7 (
 k (decide (((lL r6.2 1).length : Int) ≤ 10))) (
 k false)
def F108 : T108 := P108 F110 F152 F112
def X108 : Exits := fun i => lookN i [] [(2, [(.ret, xk 41 [(1, .ptr 1 0), (2, .bool false)] [(1, .agg [.str [], .sl 7 true []])]), (.exit 0, xk 41 [(1, .ptr 1 0)] [(1, .agg [.str [], .sl 7 true []])])])]
abbrev s108 : List (Bool × List CK) := s94
abbrev G108 := G88
abbrev W108 (F : T108) : WT := wrap s108 (G108 F)
theorem k108 (F110 : T110) (F152 : T152) (F112 : T112) : KO [(110, W110 F110), (152, W152 F152), (112, W112 F112)] X108 108 Tryz.f108 s108 (G108 (P108 F110 F152 F112)) := fun _ _ _ => by kernel_rfl
theorem ok108 : FnOk D 108 (W108 F108) := oW Tryz.func108 (tc ok110 (tc ok152 (tc ok112 tn))) (k108 F110 F152 F112 )
abbrev T154cAs : Type 1 := (β : Type) → LU → LV → LU → (Bool → Option β) → Option β
def P154cAs : T154cAs := fun β s_Host s_Files c1_1 k =>
 k (s_Host == c1_1)
def F154cAs : T154cAs := P154cAs
def W154cAs (F : T154cAs) : (β : Type) → LV → (V → Option β) → Option β := fun β args k => match args with
 | [.agg [.str s_Host, .sl 7 true s_Files], .iptr (.agg [.str c1_1]) 0] => F β s_Host s_Files c1_1 (fun y1 => k (.bool y1))
 | _ => none
theorem k154cAs {β : Type} (s_Host : LU) (s_Files : LV) (c1_1 : LU) (k : V → Option β) : fnK cfg (tabL []) noX 154 Tryz.f154 β [.agg [.str s_Host, .sl 7 true s_Files], .iptr (.agg [.str c1_1]) 0] k = P154cAs β s_Host s_Files c1_1 (fun y1 => k (.bool y1)) := by kernel_rfl
theorem ok154cAs : FnOk D 154 (W154cAs F154cAs) := fn_ok (l := []) (X := noX) (fun _ => rfl) Tryz.func154 rfl (tn) (fun β args k r h => by
 unfold W154cAs at h
 split at h
 ·rw [← h]; exact k154cAs _ _ _ k
 ·cases h)
abbrev T153c154 : Type 1 := (β : Type) → LV → LU → (Int → Option β) → Option β
def P153c154 (F154cAs : T154cAs) : T153c154 := fun β s f_1 k =>
 whileK (fun s1 =>
 br (decide ((lI s1 3) < (lI s1 2))) (
 chk (0 ≤ (lI s1 3)) <|
 idx true [.str, .sl 7 true] (lL s1 0) ((lI s1 3).toNat) fun (e2 : LU × LV × Unit) =>
 F154cAs _ e2.1 e2.2.1 (lS s1 1) fun b3 =>
 br b3 (
 some (.inr (0, [.i (lI s1 3)]))) (
 some (.inl [.l (lL s1 0), .s (lS s1 1), .i (lI s1 2), .i (IntKind.wrap .i64 ((lI s1 3) + 1))]))) (
 some (.inr (1, [])))) [.l s, .s f_1, .i (s.length : Int), .i 0] fun (r4 : Nat × List Leaf) =>
 if r4.1 = 0 then
 k (lI r4.2 0)
 else
 k (-1)
def F153c154 : T153c154 := P153c154 F154cAs
def X153c154 : Exits := fun i => lookN i [] [(2, [(.ret, xk 19 [(4, .int .i64 0)] []), (.exit 0, xk 19 [] [])])]
def W153c154 (F : T153c154) : (β : Type) → LV → (V → Option β) → Option β := fun β args k => match args with
 | [.sl 2 false s, .clo 154 [.iptr (.agg [.str f_1]) 0]] => F β s f_1 (fun y1 => k (.int .i64 y1))
 | _ => none
theorem k153c154 (F154cAs : T154cAs) {β : Type} (s : LV) (f_1 : LU) (k : V → Option β) : fnK cfg (tabL [(154, W154cAs F154cAs)]) X153c154 153 Tryz.f153 β [.sl 2 false s, .clo 154 [.iptr (.agg [.str f_1]) 0]] k = P153c154 F154cAs β s f_1 (fun y1 => k (.int .i64 y1)) := by kernel_rfl
theorem ok153c154 : FnOk D 153 (W153c154 F153c154) := fn_ok (l := [(154, W154cAs F154cAs)]) (X := X153c154) (fun _ => rfl) Tryz.func153 rfl (tc ok154cAs tn) (fun β args k r h => by
 unfold W153c154 at h
 split at h
 ·rw [← h]; exact k153c154 F154cAs _ _ k
 ·cases h)
abbrev T109 : Type 1 := T89
def P109 (F153c154 : T153c154) : T109 := fun β l host k =>
 F153c154 _ l host fun n1 =>
 k n1
def F109 : T109 := P109 F153c154
abbrev s109 : List (Bool × List CK) := s89
abbrev G109 := G89
abbrev W109 (F : T109) : WT := wrap s109 (G109 F)
theorem k109 (F153c154 : T153c154) (β : Type) (e : argsT s109) (k : V → Option β) : fnK cfg (tabL [(153, W153c154 F153c154)]) noX 109 Tryz.f109 β (argsEnc s109 e) k = G109 (P109 F153c154 ) β e k := by kernel_rfl
theorem ok109 : FnOk D 109 (W109 F109) := oW Tryz.func109 (tc ok153c154 tn) (k109 F153c154 )
abbrev T48 : Type 1 := T210
def P48 (F108 : T108) (F109 : T109) : T48 := fun β l k =>
 whileK (fun s1 =>
 br (decide ((lI s1 3) < (lI s1 2))) (
 chk (0 ≤ (lI s1 3)) <|
 idx true [.str, .sl 7 true] (lL s1 1) ((lI s1 3).toNat) fun (e2 : r11_) =>
 F108 _ e2.1 e2.2.1 fun b3 =>
 br (!b3) (
 some (.inr (0, [.l (lL s1 0), .b false]))) (
 F109 _ (lL s1 0) e2.1 fun n4 =>
 br (n4 != (lI s1 3)) (
 some (.inr (0, [.l (lL s1 0), .b false]))) (
 some (.inl [.l (lL s1 0), .l (lL s1 1), .i (lI s1 2), .i (IntKind.wrap .i64 ((lI s1 3) + 1))])))) (
 some (.inr (1, [.l (lL s1 0)])))) [.l l, .l l, .i (l.length : Int), .i 0] fun r5 =>
 if r5.1 = 0 then
 k (lB r5.2 1)
 else
 k (decide (((lL r5.2 0).length : Int) ≤ 4))
def F48 : T48 := P48 F108 F109
def X48 : Exits := fun i => lookN i [] [(2, [(.ret, xk 27 [(0, .sl 2 false []), (2, .bool false)] []), (.exit 0, xk 27 [(0, .sl 2 false [])] [])])]
abbrev s48 : List (Bool × List CK) := s42
abbrev G48 := G39
abbrev W48 (F : T48) : WT := wrap s48 (G48 F)
theorem k48 (F108 : T108) (F109 : T109) : KO [(108, W108 F108), (109, W109 F109)] X48 48 Tryz.f48 s48 (G48 (P48 F108 F109)) := fun _ _ _ => by kernel_rfl
theorem ok48 : FnOk D 48 (W48 F48) := oW Tryz.func48 (tc ok108 (tc ok109 tn)) (k48 F108 F109 )
abbrev T111 : Type 1 := T91
def P111 (F110 : T110) : T111 := fun β a b k =>
 F110 _ a fun b1 =>
 br b1 (
 F110 _ b fun b2 =>
 k b2) (
 k false)
def F111 : T111 := P111 F110
abbrev s111 : List (Bool × List CK) := s98
abbrev G111 := G91
abbrev W111 (F : T111) : WT := wrap s111 (G111 F)
theorem k111 (F110 : T110) : KO [(110, W110 F110)] noX 111 Tryz.f111 s111 (G111 (P111 F110)) := fun _ _ _ => by kernel_rfl
theorem ok111 : FnOk D 111 (W111 F111) := oW Tryz.func111 (tc ok110 tn) (k111 F110 )
abbrev T157cAs_Ass : Type 1 := (β : Type) → LU → LU → LU → Int → Int → LU → Int → Bool → LU → Int → LU → LU → LU → (Bool → Option β) → Option β
def P157cAs_Ass : T157cAs_Ass := fun β e_Top e_To_Host e_To_Path e_Response_Status e_Response_Kind e_Response_Body e_Response_Age e_Response_Shares e_Response_Policy e_Until c1_1 c2_1 c2_2 k =>
 br (e_Top == c1_1) (
 k ((e_To_Host == c2_1) && ((e_To_Path == c2_2) && true))) (
 k false)
def F157cAs_Ass : T157cAs_Ass := P157cAs_Ass
def W157cAs_Ass (F : T157cAs_Ass) : (β : Type) → LV → (V → Option β) → Option β := fun β args k => match args with
 | [.agg [.str e_Top, .str e_To_Host, .str e_To_Path, .int .i64 e_Response_Status, .int .i64 e_Response_Kind, .str e_Response_Body, .int .i64 e_Response_Age, .bool e_Response_Shares, .str e_Response_Policy, .int .i64 e_Until], .iptr (.agg [.str c1_1]) 0, .iptr (.agg [.str c2_1, .str c2_2]) 0] => F β e_Top e_To_Host e_To_Path e_Response_Status e_Response_Kind e_Response_Body e_Response_Age e_Response_Shares e_Response_Policy e_Until c1_1 c2_1 c2_2 (fun y1 => k (.bool y1))
 | _ => none
theorem k157cAs_Ass {β : Type} (e_Top : LU) (e_To_Host : LU) (e_To_Path : LU) (e_Response_Status : Int) (e_Response_Kind : Int) (e_Response_Body : LU) (e_Response_Age : Int) (e_Response_Shares : Bool) (e_Response_Policy : LU) (e_Until : Int) (c1_1 : LU) (c2_1 : LU) (c2_2 : LU) (k : V → Option β) : fnK cfg (tabL []) noX 157 Tryz.f157 β [.agg [.str e_Top, .str e_To_Host, .str e_To_Path, .int .i64 e_Response_Status, .int .i64 e_Response_Kind, .str e_Response_Body, .int .i64 e_Response_Age, .bool e_Response_Shares, .str e_Response_Policy, .int .i64 e_Until], .iptr (.agg [.str c1_1]) 0, .iptr (.agg [.str c2_1, .str c2_2]) 0] k = P157cAs_Ass β e_Top e_To_Host e_To_Path e_Response_Status e_Response_Kind e_Response_Body e_Response_Age e_Response_Shares e_Response_Policy e_Until c1_1 c2_1 c2_2 (fun y1 => k (.bool y1)) := by kernel_rfl
theorem ok157cAs_Ass : FnOk D 157 (W157cAs_Ass F157cAs_Ass) := fn_ok (l := []) (X := noX) (fun _ => rfl) Tryz.func157 rfl (tn) (fun β args k r h => by
 unfold W157cAs_Ass at h
 split at h
 ·rw [← h]; exact k157cAs_Ass _ _ _ _ _ _ _ _ _ _ _ _ _ k
 ·cases h)
abbrev T156c157 : Type 1 := (β : Type) → LV → LU → LU → LU → (Int → Option β) → Option β
def P156c157 (F157cAs_Ass : T157cAs_Ass) : T156c157 := fun β s f_1 f_2 f_3 k =>
 whileK (fun s1 =>
 br (decide ((lI s1 5) < (lI s1 4))) (
 chk (0 ≤ (lI s1 5)) <|
 idx true q3 (lL s1 0) ((lI s1 5).toNat) fun (e2 : LU × LU × LU × Int × Int × LU × Int × Bool × LU × Int × Unit) =>
 F157cAs_Ass _ e2.1 e2.2.1 e2.2.2.1 e2.2.2.2.1 e2.2.2.2.2.1 e2.2.2.2.2.2.1 e2.2.2.2.2.2.2.1 e2.2.2.2.2.2.2.2.1 e2.2.2.2.2.2.2.2.2.1 e2.2.2.2.2.2.2.2.2.2.1 (lS s1 1) (lS s1 2) (lS s1 3) fun b3 =>
 br b3 (
 some (.inr (0, [.i (lI s1 5)]))) (
 some (.inl [.l (lL s1 0), .s (lS s1 1), .s (lS s1 2), .s (lS s1 3), .i (lI s1 4), .i (IntKind.wrap .i64 ((lI s1 5) + 1))]))) (
 some (.inr (1, [])))) [.l s, .s f_1, .s f_2, .s f_3, .i (s.length : Int), .i 0] fun (r4 : Nat × List Leaf) =>
 if r4.1 = 0 then
 k (lI r4.2 0)
 else
 k (-1)
def F156c157 : T156c157 := P156c157 F157cAs_Ass
def X156c157 : Exits := fun i => lookN i [] [(2, [(.ret, xk 19 [(4, .int .i64 0)] []), (.exit 0, xk 19 [] [])])]
def W156c157 (F : T156c157) : (β : Type) → LV → (V → Option β) → Option β := fun β args k => match args with
 | [.sl 10 true s, .clo 157 [.iptr (.agg [.str f_1]) 0, .iptr (.agg [.str f_2, .str f_3]) 0]] => F β s f_1 f_2 f_3 (fun y1 => k (.int .i64 y1))
 | _ => none
theorem k156c157 (F157cAs_Ass : T157cAs_Ass) {β : Type} (s : LV) (f_1 : LU) (f_2 : LU) (f_3 : LU) (k : V → Option β) : fnK cfg (tabL [(157, W157cAs_Ass F157cAs_Ass)]) X156c157 156 Tryz.f156 β [.sl 10 true s, .clo 157 [.iptr (.agg [.str f_1]) 0, .iptr (.agg [.str f_2, .str f_3]) 0]] k = P156c157 F157cAs_Ass β s f_1 f_2 f_3 (fun y1 => k (.int .i64 y1)) := by kernel_rfl
theorem ok156c157 : FnOk D 156 (W156c157 F156c157) := fn_ok (l := [(157, W157cAs_Ass F157cAs_Ass)]) (X := X156c157) (fun _ => rfl) Tryz.func156 rfl (tc ok157cAs_Ass tn) (fun β args k r h => by
 unfold W156c157 at h
 split at h
 ·rw [← h]; exact k156c157 F157cAs_Ass _ _ _ _ k
 ·cases h)
abbrev T113 : Type 1 := T93
def P113 (F156c157 : T156c157) : T113 := fun β a top b c k =>
 F156c157 _ a top b c fun n1 =>
 k n1
def F113 : T113 := P113 F156c157
abbrev s113 : List (Bool × List CK) := s93
abbrev G113 := G93
abbrev W113 (F : T113) : WT := wrap s113 (G113 F)
theorem k113 (F156c157 : T156c157) (β : Type) (e : argsT s113) (k : V → Option β) : fnK cfg (tabL [(156, W156c157 F156c157)]) noX 113 Tryz.f113 β (argsEnc s113 e) k = G113 (P113 F156c157 ) β e k := by kernel_rfl
theorem ok113 : FnOk D 113 (W113 F113) := oW Tryz.func113 (tc ok156c157 tn) (k113 F156c157 )
abbrev T49 : Type 1 := T210
def P49 (F110 : T110) (F111 : T111) (F112 : T112) (F113 : T113) : T49 := fun β a k =>
 whileK (fun s1 =>
 br (decide ((lI s1 2) < (lI s1 1))) (
 chk (0 ≤ (lI s1 2)) <|
 idx true q3 (lL s1 0) ((lI s1 2).toNat) fun (e2 : r8_) =>
 F110 _ e2.1 fun b3 =>
 br (!b3) (
 some (.inr (0, [.b false, .l (lL s1 3)]))) (
 F111 _ e2.2.1 e2.2.2.1 fun b4 =>
 br (!b4) (
 some (.inr (0, [.b false, .l (lL s1 3)]))) (
 F112 _ e2.2.2.2.1 e2.2.2.2.2.1 e2.2.2.2.2.2.1 e2.2.2.2.2.2.2.1 e2.2.2.2.2.2.2.2.1 e2.2.2.2.2.2.2.2.2.1 fun b5 =>
 br (!b5) (
 some (.inr (0, [.b false, .l (lL s1 3)]))) (
 br (e2.2.2.2.1 != 200) (
 some (.inr (0, [.b false, .l (lL s1 3)]))) (
 F113 _ (lL s1 3) e2.1 e2.2.1 e2.2.2.1 fun n6 =>
 br (n6 != (lI s1 2)) (
 some (.inr (0, [.b false, .l (lL s1 3)]))) (
 some (.inl [.l (lL s1 0), .i (lI s1 1), .i (IntKind.wrap .i64 ((lI s1 2) + 1)), .l (lL s1 3)]))))))) (
 some (.inr (1, [.l (lL s1 3)])))) [.l a, .i (a.length : Int), .i 0, .l a] fun r7 =>
 if r7.1 = 0 then
 k (lB r7.2 0)
 else
 k (decide (((lL r7.2 0).length : Int) ≤ 100))
def F49 : T49 := P49 F110 F111 F112 F113
def X49 : Exits := fun i => lookN i [] [(2, [(.ret, xk 50 [(1, .ptr 1 0), (2, .bool false)] [(1, .agg [.sl 10 true []])]), (.exit 0, xk 50 [(1, .ptr 1 0)] [(1, .agg [.sl 10 true []])])])]
abbrev s49 : List (Bool × List CK) := s43
abbrev G49 := G40
abbrev W49 (F : T49) : WT := wrap s49 (G49 F)
theorem k49 (F110 : T110) (F111 : T111) (F112 : T112) (F113 : T113) : KO [(110, W110 F110), (111, W111 F111), (112, W112 F112), (113, W113 F113)] X49 49 Tryz.f49 s49 (G49 (P49 F110 F111 F112 F113)) := fun _ _ _ => by kernel_rfl
theorem ok49 : FnOk D 49 (W49 F49) := oW Tryz.func49 (tc ok110 (tc ok111 (tc ok112 (tc ok113 tn)))) (k49 F110 F111 F112 F113 )
abbrev T20 : Type 1 := T15
def P20 (F48 : T48) (F49 : T49) (F50 : T50) : T20 := fun β a b c d k =>
 F48 _ a fun b1 =>
 br b1 (
 F49 _ b fun b2 =>
 br b2 (
 br (decide ((c.length : Int) ≤ 400)) (
 F50 _ d 0 999999998000 fun b3 =>
 k b3) (
 k false)) (
 k false)) (
 k false)
def F20 : T20 := P20 F48 F49 F50
abbrev s20 : List (Bool × List CK) := s17
abbrev G20 := G15
abbrev W20 (F : T20) : WT := wrap s20 (G20 F)
theorem k20 (F48 : T48) (F49 : T49) (F50 : T50) : KO [(48, W48 F48), (49, W49 F49), (50, W50 F50)] noX 20 Tryz.f20 s20 (G20 (P20 F48 F49 F50)) := fun _ _ _ => by kernel_rfl
theorem ok20 : FnOk D 20 (W20 F20) := oW Tryz.func20 (tc ok48 (tc ok49 (tc ok50 tn))) (k20 F48 F49 F50 )
abbrev T51 : Type 1 := T16
def P51 : T51 := fun β b a k =>
 br (decide (a ≥ 0)) (
 k (decide (a < (b.length : Int)))) (
 k false)
def F51 : T51 := P51
abbrev s51 : List (Bool × List CK) := s18
abbrev G51 := G16
abbrev W51 (F : T51) : WT := wrap s51 (G51 F)
theorem k51 : KO [] noX 51 Tryz.f51 s51 (G51 (P51)) := fun _ _ _ => by kernel_rfl
theorem ok51 : FnOk D 51 (W51 F51) := oW Tryz.func51 (tn) (k51 )
abbrev T21 : Type 1 := T16
def P21 (F51 : T51) : T21 := fun β a c k =>
 whileK (fun s1 =>
 br (decide ((lI s1 2) < (lI s1 1))) (
 chk (0 ≤ (lI s1 2)) <|
 idx true q0 (lL s1 0) ((lI s1 2).toNat) fun (e2 : r9_) =>
 br e2.2.2.2.2.2.2.2.2.2.2.2.2.2.2.2.2.2.2.2.2.2.2.2.2.1 (
 br (!((e2.2.2.1 == e2.1) && ((e2.2.2.2.1 == e2.2.1) && true))) (
 some (.inr (0, [.b false, .l (lL s1 3), .i (lI s1 4)]))) (
 some (.inl [.l (lL s1 0), .i (lI s1 1), .i (IntKind.wrap .i64 ((lI s1 2) + 1)), .l (lL s1 3), .i (lI s1 4)]))) (
 some (.inl [.l (lL s1 0), .i (lI s1 1), .i (IntKind.wrap .i64 ((lI s1 2) + 1)), .l (lL s1 3), .i (lI s1 4)]))) (
 some (.inr (1, [.l (lL s1 3), .i (lI s1 4)])))) [.l a, .i (a.length : Int), .i 0, .l a, .i c] fun r3 =>
 if r3.1 = 0 then
 k (lB r3.2 0)
 else
 br (decide (((lL r3.2 0).length : Int) ≤ 6)) (
 F51 _ (lL r3.2 0) (lI r3.2 1) fun b4 =>
 br b4 (
 k true) (
 br (((lL r3.2 0).length : Int) == 0) (
 k ((lI r3.2 1) == (-1))) (
 k false))) (
 k false)
def F21 : T21 := P21 F51
def X21 : Exits := fun i => lookN i [] [(2, [(.ret, xk 42 [(1, .ptr 1 0), (2, .bool false)] [(1, .agg [.sl 25 false [], .int .i64 0])]), (.exit 0, xk 42 [(1, .ptr 1 0)] [(1, .agg [.sl 25 false [], .int .i64 0])])])]
abbrev s21 : List (Bool × List CK) := s18
abbrev G21 := G16
abbrev W21 (F : T21) : WT := wrap s21 (G21 F)
theorem k21 (F51 : T51) : KO [(51, W51 F51)] X21 21 Tryz.f21 s21 (G21 (P21 F51)) := fun _ _ _ => by kernel_rfl
theorem ok21 : FnOk D 21 (W21 F21) := oW Tryz.func21 (tc ok51 tn) (k21 F51 )
abbrev T8 : Type 1 := T6
def P8 (F20 : T20) (F21 : T21) : T8 := fun β a b c d f g h i j l m n o p q r s t u v w x y z a1 c1 d1 f1 g1 h1 i1 j1 l1 k =>
 F20 _ a b c d fun b1 =>
 br b1 (
 F21 _ f g fun b2 =>
 k b2) (
 k false)
def F8 : T8 := P8 F20 F21
abbrev s8 : List (Bool × List CK) := s7
abbrev G8 := G6
abbrev W8 (F : T8) : WT := wrap s8 (G8 F)
theorem k8 (F20 : T20) (F21 : T21) : KO [(20, W20 F20), (21, W21 F21)] noX 8 Tryz.f8 s8 (G8 (P8 F20 F21)) := fun _ _ _ => by kernel_rfl
theorem ok8 : FnOk D 8 (W8 F8) := oW Tryz.func8 (tc ok20 (tc ok21 tn)) (k8 F20 F21 )
abbrev T165 : Type 1 := (β : Type) → Int → Int → LU → Int → Bool → LU → Int → Int → LU → Int → Bool → LU → (Bool → Option β) → Option β
def P165 : T165 := fun β a b c d f g h i j l m n k =>
 br (a != h) (
 k false) (
 br (b != i) (
 k false) (
 br (!(c == j)) (
 k false) (
 br (d != l) (
 k false) (
 br (!(f == m)) (
 k false) (
 br (!(g == n)) (
 k false) (
 k true))))))
def F165 : T165 := P165
abbrev s165 : List (Bool × List CK) := [(true, q13), (true, q13)]
def G165 (F : T165) (β : Type) (e : argsT s165) (k : V → Option β) : Option β := let a:=e.1;let b:=a.2;let c:=b.2;let d:=c.2;let f:=d.2;let g:=f.2;let h:=e.2.1;let i:=h.2;let j:=i.2;let l:=j.2;let m:=l.2;let n:=m.2;F β a.1 b.1 c.1 d.1 f.1 g.1 h.1 i.1 j.1 l.1 m.1 n.1 (fun y1 => k (.bool y1))
abbrev W165 (F : T165) : WT := wrap s165 (G165 F)
theorem k165 : KO [] noX 165 Tryz.f165 s165 (G165 (P165)) := fun _ _ _ => by kernel_rfl
theorem ok165 : FnOk D 165 (W165 F165) := oW Tryz.func165 (tn) (k165 )
abbrev T184 : Type 1 := (β : Type) → LU → Int → Int → LU → Int → Bool → LU → LU → Int → Int → LU → Int → Bool → LU → (Bool → Option β) → Option β
def P184 (F165 : T165) : T184 := fun β a b c d f g h i j l m n o p k =>
 br (!(a == i)) (
 k false) (
 F165 _ b c d f g h j l m n o p fun b1 =>
 br (!b1) (
 k false) (
 k true))
def F184 : T184 := P184 F165
abbrev s184 : List (Bool × List CK) := [(true, q6), (true, q6)]
def G184 (F : T184) (β : Type) (e : argsT s184) (k : V → Option β) : Option β := let a:=e.1;let b:=a.2;let c:=b.2;let d:=c.2;let f:=d.2;let g:=f.2;let h:=g.2;let i:=e.2.1;let j:=i.2;let l:=j.2;let m:=l.2;let n:=m.2;let o:=n.2;let p:=o.2;F β a.1 b.1 c.1 d.1 f.1 g.1 h.1 i.1 j.1 l.1 m.1 n.1 o.1 p.1 (fun y1 => k (.bool y1))
abbrev W184 (F : T184) : WT := wrap s184 (G184 F)
theorem k184 (F165 : T165) : KO [(165, W165 F165)] noX 184 Tryz.f184 s184 (G184 (P184 F165)) := fun _ _ _ => by kernel_rfl
theorem ok184 : FnOk D 184 (W184 F184) := oW Tryz.func184 (tc ok165 tn) (k184 F165 )
abbrev T158 : Type 1 := (β : Type) → LV → LV → (Bool → Option β) → Option β
def P158 (F184 : T184) : T158 := fun β a b k =>
 br ((a.length : Int) != (b.length : Int)) (
 k false) (
 whileK (fun s1 =>
 br (decide ((lI s1 2) < ((lL s1 0).length : Int))) (
 chk (0 ≤ (lI s1 2)) <|
 idx true q6 (lL s1 0) ((lI s1 2).toNat) fun (e2 : r3_) =>
 chk (0 ≤ (lI s1 2)) <|
 idx true q6 (lL s1 1) ((lI s1 2).toNat) fun (e3 : r3_) =>
 F184 _ e2.1 e2.2.1 e2.2.2.1 e2.2.2.2.1 e2.2.2.2.2.1 e2.2.2.2.2.2.1 e2.2.2.2.2.2.2.1 e3.1 e3.2.1 e3.2.2.1 e3.2.2.2.1 e3.2.2.2.2.1 e3.2.2.2.2.2.1 e3.2.2.2.2.2.2.1 fun b4 =>
 br (!b4) (
 some (.inr (0, [.b false]))) (
 some (.inl [.l (lL s1 0), .l (lL s1 1), .i (IntKind.wrap .i64 ((lI s1 2) + 1))]))) (
 some (.inr (1, [])))) [.l a, .l b, .i 0] fun r5 =>
 if r5.1 = 0 then
 k (lB r5.2 0)
 else
 k true)
def F158 : T158 := P158 F184
def X158 : Exits := fun i => lookN i [] [(4, [(.ret, xk 27 [(4, .bool false)] []), (.exit 0, xk 27 [] [])])]
abbrev s158 : List (Bool × List CK) := [(false, [.sl 7 true]), (false, [.sl 7 true])]
def G158 (F : T158) (β : Type) (e : argsT s158) (k : V → Option β) : Option β := F β e.1.1 e.2.1.1 (fun y1 => k (.bool y1))
abbrev W158 (F : T158) : WT := wrap s158 (G158 F)
theorem k158 (F184 : T184) : KO [(184, W184 F184)] X158 158 Tryz.f158 s158 (G158 (P158 F184)) := fun _ _ _ => by kernel_rfl
theorem ok158 : FnOk D 158 (W158 F158) := oW Tryz.func158 (tc ok184 tn) (k158 F184 )
abbrev T114 : Type 1 := (β : Type) → LU → LV → LU → LV → (Bool → Option β) → Option β
def P114 (F158 : T158) : T114 := fun β a b c d k =>
 br (!(a == c)) (
 k false) (
 F158 _ b d fun b1 =>
 br (!b1) (
 k false) (
 k true))
def F114 : T114 := P114 F158
abbrev s114 : List (Bool × List CK) := [(true, [.str, .sl 7 true]), (true, [.str, .sl 7 true])]
def G114 (F : T114) (β : Type) (e : argsT s114) (k : V → Option β) : Option β := F β e.1.1 e.1.2.1 e.2.1.1 e.2.1.2.1 (fun y1 => k (.bool y1))
abbrev W114 (F : T114) : WT := wrap s114 (G114 F)
theorem k114 (F158 : T158) : KO [(158, W158 F158)] noX 114 Tryz.f114 s114 (G114 (P114 F158)) := fun _ _ _ => by kernel_rfl
theorem ok114 : FnOk D 114 (W114 F114) := oW Tryz.func114 (tc ok158 tn) (k114 F158 )
abbrev T52 : Type 1 := T158
def P52 (F114 : T114) : T52 := fun β a b k =>
 br ((a.length : Int) != (b.length : Int)) (
 k false) (
 whileK (fun s1 =>
 br (decide ((lI s1 2) < ((lL s1 0).length : Int))) (
 chk (0 ≤ (lI s1 2)) <|
 idx true [.str, .sl 7 true] (lL s1 0) ((lI s1 2).toNat) fun (e2 : r11_) =>
 chk (0 ≤ (lI s1 2)) <|
 idx true [.str, .sl 7 true] (lL s1 1) ((lI s1 2).toNat) fun (e3 : r11_) =>
 F114 _ e2.1 e2.2.1 e3.1 e3.2.1 fun b4 =>
 br (!b4) (
 some (.inr (0, [.b false]))) (
 some (.inl [.l (lL s1 0), .l (lL s1 1), .i (IntKind.wrap .i64 ((lI s1 2) + 1))]))) (
 some (.inr (1, [])))) [.l a, .l b, .i 0] fun r5 =>
 if r5.1 = 0 then
 k (lB r5.2 0)
 else
 k true)
def F52 : T52 := P52 F114
def X52 : Exits := fun i => lookN i [] [(4, [(.ret, xk 27 [(4, .bool false)] []), (.exit 0, xk 27 [] [])])]
abbrev s52 : List (Bool × List CK) := [(false, [.sl 2 false]), (false, [.sl 2 false])]
def G52 (F : T52) (β : Type) (e : argsT s52) (k : V → Option β) : Option β := F β e.1.1 e.2.1.1 (fun y1 => k (.bool y1))
abbrev W52 (F : T52) : WT := wrap s52 (G52 F)
theorem k52 (F114 : T114) : KO [(114, W114 F114)] X52 52 Tryz.f52 s52 (G52 (P52 F114)) := fun _ _ _ => by kernel_rfl
theorem ok52 : FnOk D 52 (W52 F52) := oW Tryz.func52 (tc ok114 tn) (k52 F114 )
abbrev T118 : Type 1 := (β : Type) → LU → LU → LU → LU → (Bool → Option β) → Option β
def P118 : T118 := fun β a b c d k =>
 br (!(a == c)) (
 k false) (
 br (!(b == d)) (
 k false) (
 k true))
def F118 : T118 := P118
abbrev s118 : List (Bool × List CK) := [(true, [.str, .str]), (true, [.str, .str])]
def G118 (F : T118) (β : Type) (e : argsT s118) (k : V → Option β) : Option β := F β e.1.1 e.1.2.1 e.2.1.1 e.2.1.2.1 (fun y1 => k (.bool y1))
abbrev W118 (F : T118) : WT := wrap s118 (G118 F)
theorem k118 : KO [] noX 118 Tryz.f118 s118 (G118 (P118)) := fun _ _ _ => by kernel_rfl
theorem ok118 : FnOk D 118 (W118 F118) := oW Tryz.func118 (tn) (k118 )
abbrev T159 : Type 1 := (β : Type) → LU → LU → LU → Int → Int → LU → Int → Bool → LU → Int → LU → LU → LU → Int → Int → LU → Int → Bool → LU → Int → (Bool → Option β) → Option β
def P159 (F118 : T118) (F165 : T165) : T159 := fun β a b c d f g h i j l m n o p q r s t u v k =>
 br (!(a == m)) (
 k false) (
 F118 _ b c n o fun b1 =>
 br (!b1) (
 k false) (
 F165 _ d f g h i j p q r s t u fun b2 =>
 br (!b2) (
 k false) (
 br (l != v) (
 k false) (
 k true))))
def F159 : T159 := P159 F118 F165
abbrev s159 : List (Bool × List CK) := [(true, q3), (true, q3)]
def G159 (F : T159) (β : Type) (e : argsT s159) (k : V → Option β) : Option β := let a:=e.1;let b:=a.2;let c:=b.2;let d:=c.2;let f:=d.2;let g:=f.2;let h:=g.2;let i:=h.2;let j:=i.2;let l:=j.2;let m:=e.2.1;let n:=m.2;let o:=n.2;let p:=o.2;let q:=p.2;let r:=q.2;let s:=r.2;let t:=s.2;let u:=t.2;let v:=u.2;F β a.1 b.1 c.1 d.1 f.1 g.1 h.1 i.1 j.1 l.1 m.1 n.1 o.1 p.1 q.1 r.1 s.1 t.1 u.1 v.1 (fun y1 => k (.bool y1))
abbrev W159 (F : T159) : WT := wrap s159 (G159 F)
theorem k159 (F118 : T118) (F165 : T165) : KO [(118, W118 F118), (165, W165 F165)] noX 159 Tryz.f159 s159 (G159 (P159 F118 F165)) := fun _ _ _ => by kernel_rfl
theorem ok159 : FnOk D 159 (W159 F159) := oW Tryz.func159 (tc ok118 (tc ok165 tn)) (k159 F118 F165 )
abbrev T115 : Type 1 := T158
def P115 (F159 : T159) : T115 := fun β a b k =>
 br ((a.length : Int) != (b.length : Int)) (
 k false) (
 whileK (fun s1 =>
 br (decide ((lI s1 2) < ((lL s1 0).length : Int))) (
 chk (0 ≤ (lI s1 2)) <|
 idx true q3 (lL s1 0) ((lI s1 2).toNat) fun (e2 : r8_) =>
 chk (0 ≤ (lI s1 2)) <|
 idx true q3 (lL s1 1) ((lI s1 2).toNat) fun (e3 : r8_) =>
 F159 _ e2.1 e2.2.1 e2.2.2.1 e2.2.2.2.1 e2.2.2.2.2.1 e2.2.2.2.2.2.1 e2.2.2.2.2.2.2.1 e2.2.2.2.2.2.2.2.1 e2.2.2.2.2.2.2.2.2.1 e2.2.2.2.2.2.2.2.2.2.1 e3.1 e3.2.1 e3.2.2.1 e3.2.2.2.1 e3.2.2.2.2.1 e3.2.2.2.2.2.1 e3.2.2.2.2.2.2.1 e3.2.2.2.2.2.2.2.1 e3.2.2.2.2.2.2.2.2.1 e3.2.2.2.2.2.2.2.2.2.1 fun b4 =>
 br (!b4) (
 some (.inr (0, [.b false]))) (
 some (.inl [.l (lL s1 0), .l (lL s1 1), .i (IntKind.wrap .i64 ((lI s1 2) + 1))]))) (
 some (.inr (1, [])))) [.l a, .l b, .i 0] fun r5 =>
 if r5.1 = 0 then
 k (lB r5.2 0)
 else
 k true)
def F115 : T115 := P115 F159
def X115 : Exits := fun i => lookN i [] [(4, [(.ret, xk 27 [(4, .bool false)] []), (.exit 0, xk 27 [] [])])]
abbrev s115 : List (Bool × List CK) := [(false, [.sl 10 true]), (false, [.sl 10 true])]
def G115 (F : T115) (β : Type) (e : argsT s115) (k : V → Option β) : Option β := F β e.1.1 e.2.1.1 (fun y1 => k (.bool y1))
abbrev W115 (F : T115) : WT := wrap s115 (G115 F)
theorem k115 (F159 : T159) : KO [(159, W159 F159)] X115 115 Tryz.f115 s115 (G115 (P115 F159)) := fun _ _ _ => by kernel_rfl
theorem ok115 : FnOk D 115 (W115 F115) := oW Tryz.func115 (tc ok159 tn) (k115 F159 )
abbrev T53 : Type 1 := T158
def P53 (F115 : T115) : T53 := fun β a b k =>
 F115 _ a b fun b1 =>
 br (!b1) (
 k false) (
 k true)
def F53 : T53 := P53 F115
abbrev s53 : List (Bool × List CK) := [(true, [.sl 10 true]), (true, [.sl 10 true])]
def G53 (F : T53) (β : Type) (e : argsT s53) (k : V → Option β) : Option β := F β e.1.1 e.2.1.1 (fun y1 => k (.bool y1))
abbrev W53 (F : T53) : WT := wrap s53 (G53 F)
theorem k53 (F115 : T115) : KO [(115, W115 F115)] noX 53 Tryz.f53 s53 (G53 (P53 F115)) := fun _ _ _ => by kernel_rfl
theorem ok53 : FnOk D 53 (W53 F53) := oW Tryz.func53 (tc ok115 tn) (k53 F115 )
abbrev T116 : Type 1 := (β : Type) → LU → LU → LU → Bool → LU → LU → LU → Bool → (Bool → Option β) → Option β
def P116 (F118 : T118) : T116 := fun β a b c d f g h i k =>
 br (!(a == f)) (
 k false) (
 F118 _ b c g h fun b1 =>
 br (!b1) (
 k false) (
 br (!(d == i)) (
 k false) (
 k true)))
def F116 : T116 := P116 F118
abbrev s116 : List (Bool × List CK) := [(true, q12), (true, q12)]
def G116 (F : T116) (β : Type) (e : argsT s116) (k : V → Option β) : Option β := F β e.1.1 e.1.2.1 e.1.2.2.1 e.1.2.2.2.1 e.2.1.1 e.2.1.2.1 e.2.1.2.2.1 e.2.1.2.2.2.1 (fun y1 => k (.bool y1))
abbrev W116 (F : T116) : WT := wrap s116 (G116 F)
theorem k116 (F118 : T118) : KO [(118, W118 F118)] noX 116 Tryz.f116 s116 (G116 (P116 F118)) := fun _ _ _ => by kernel_rfl
theorem ok116 : FnOk D 116 (W116 F116) := oW Tryz.func116 (tc ok118 tn) (k116 F118 )
abbrev T54 : Type 1 := T158
def P54 (F116 : T116) : T54 := fun β a b k =>
 br ((a.length : Int) != (b.length : Int)) (
 k false) (
 whileK (fun s1 =>
 br (decide ((lI s1 2) < ((lL s1 0).length : Int))) (
 chk (0 ≤ (lI s1 2)) <|
 idx true q12 (lL s1 0) ((lI s1 2).toNat) fun (e2 : r7_) =>
 chk (0 ≤ (lI s1 2)) <|
 idx true q12 (lL s1 1) ((lI s1 2).toNat) fun (e3 : r7_) =>
 F116 _ e2.1 e2.2.1 e2.2.2.1 e2.2.2.2.1 e3.1 e3.2.1 e3.2.2.1 e3.2.2.2.1 fun b4 =>
 br (!b4) (
 some (.inr (0, [.b false]))) (
 some (.inl [.l (lL s1 0), .l (lL s1 1), .i (IntKind.wrap .i64 ((lI s1 2) + 1))]))) (
 some (.inr (1, [])))) [.l a, .l b, .i 0] fun r5 =>
 if r5.1 = 0 then
 k (lB r5.2 0)
 else
 k true)
def F54 : T54 := P54 F116
def X54 : Exits := fun i => lookN i [] [(4, [(.ret, xk 27 [(4, .bool false)] []), (.exit 0, xk 27 [] [])])]
abbrev s54 : List (Bool × List CK) := [(false, [.sl 4 true]), (false, [.sl 4 true])]
def G54 (F : T54) (β : Type) (e : argsT s54) (k : V → Option β) : Option β := F β e.1.1 e.2.1.1 (fun y1 => k (.bool y1))
abbrev W54 (F : T54) : WT := wrap s54 (G54 F)
theorem k54 (F116 : T116) : KO [(116, W116 F116)] X54 54 Tryz.f54 s54 (G54 (P54 F116)) := fun _ _ _ => by kernel_rfl
theorem ok54 : FnOk D 54 (W54 F54) := oW Tryz.func54 (tc ok116 tn) (k54 F116 )
abbrev T22 : Type 1 := (β : Type) → LV → LV → LV → Int → LV → LV → LV → Int → (Bool → Option β) → Option β
def P22 (F52 : T52) (F53 : T53) (F54 : T54) : T22 := fun β a b c d f g h i k =>
 F52 _ a f fun b1 =>
 br (!b1) (
 k false) (
 F53 _ b g fun b2 =>
 br (!b2) (
 k false) (
 F54 _ c h fun b3 =>
 br (!b3) (
 k false) (
 br (d != i) (
 k false) (
 k true))))
def F22 : T22 := P22 F52 F53 F54
abbrev s22 : List (Bool × List CK) := [(true, q9), (true, q9)]
def G22 (F : T22) (β : Type) (e : argsT s22) (k : V → Option β) : Option β := F β e.1.1 e.1.2.1 e.1.2.2.1 e.1.2.2.2.1 e.2.1.1 e.2.1.2.1 e.2.1.2.2.1 e.2.1.2.2.2.1 (fun y1 => k (.bool y1))
abbrev W22 (F : T22) : WT := wrap s22 (G22 F)
theorem k22 (F52 : T52) (F53 : T53) (F54 : T54) : KO [(52, W52 F52), (53, W53 F53), (54, W54 F54)] noX 22 Tryz.f22 s22 (G22 (P22 F52 F53 F54)) := fun _ _ _ => by kernel_rfl
theorem ok22 : FnOk D 22 (W22 F22) := oW Tryz.func22 (tc ok52 (tc ok53 (tc ok54 tn))) (k22 F52 F53 F54 )
abbrev T126 : Type 1 := T158
def P126 : T126 := fun β a b k =>
 br ((a.length : Int) != (b.length : Int)) (
 k false) (
 whileK (fun s1 =>
 br (decide ((lI s1 2) < ((lL s1 0).length : Int))) (
 chk (0 ≤ (lI s1 2)) <|
 idx false [.str] (lL s1 0) ((lI s1 2).toNat) fun (e2 : r12_) =>
 chk (0 ≤ (lI s1 2)) <|
 idx false [.str] (lL s1 1) ((lI s1 2).toNat) fun (e3 : r12_) =>
 br (!(e2.1 == e3.1)) (
 some (.inr (0, [.b false]))) (
 some (.inl [.l (lL s1 0), .l (lL s1 1), .i (IntKind.wrap .i64 ((lI s1 2) + 1))]))) (
 some (.inr (1, [])))) [.l a, .l b, .i 0] fun r4 =>
 if r4.1 = 0 then
 k (lB r4.2 0)
 else
 k true)
def F126 : T126 := P126
def X126 : Exits := fun i => lookN i [] [(4, [(.ret, xk 26 [(4, .bool false)] []), (.exit 0, xk 26 [] [])])]
abbrev s126 : List (Bool × List CK) := [(false, [.sl 1 true]), (false, [.sl 1 true])]
def G126 (F : T126) (β : Type) (e : argsT s126) (k : V → Option β) : Option β := F β e.1.1 e.2.1.1 (fun y1 => k (.bool y1))
abbrev W126 (F : T126) : WT := wrap s126 (G126 F)
theorem k126 : KO [] X126 126 Tryz.f126 s126 (G126 (P126)) := fun _ _ _ => by kernel_rfl
theorem ok126 : FnOk D 126 (W126 F126) := oW Tryz.func126 (tn) (k126 )
abbrev T119 : Type 1 := (β : Type) → Bool → LV → LV → LV → LU → Bool → LV → LV → LV → LU → (Bool → Option β) → Option β
def P119 (F126 : T126) : T119 := fun β a b c d f g h i j l k =>
 br (!(a == g)) (
 k false) (
 F126 _ b h fun b1 =>
 br (!b1) (
 k false) (
 F126 _ c i fun b2 =>
 br (!b2) (
 k false) (
 F126 _ d j fun b3 =>
 br (!b3) (
 k false) (
 br (!(f == l)) (
 k false) (
 k true)))))
def F119 : T119 := P119 F126
abbrev s119 : List (Bool × List CK) := [(true, q11), (true, q11)]
def G119 (F : T119) (β : Type) (e : argsT s119) (k : V → Option β) : Option β := let a:=e.1;let b:=a.2;let c:=b.2;let d:=c.2;let f:=d.2;let g:=e.2.1;let h:=g.2;let i:=h.2;let j:=i.2;let l:=j.2;F β a.1 b.1 c.1 d.1 f.1 g.1 h.1 i.1 j.1 l.1 (fun y1 => k (.bool y1))
abbrev W119 (F : T119) : WT := wrap s119 (G119 F)
theorem k119 (F126 : T126) : KO [(126, W126 F126)] noX 119 Tryz.f119 s119 (G119 (P119 F126)) := fun _ _ _ => by kernel_rfl
theorem ok119 : FnOk D 119 (W119 F119) := oW Tryz.func119 (tc ok126 tn) (k119 F126 )
abbrev T120 : Type 1 := T91
def P120 : T120 := fun β a b k =>
 br (!(a == b)) (
 k false) (
 k true)
def F120 : T120 := P120
abbrev s120 : List (Bool × List CK) := [(true, [.str]), (true, [.str])]
def G120 (F : T120) (β : Type) (e : argsT s120) (k : V → Option β) : Option β := F β e.1.1 e.2.1.1 (fun y1 => k (.bool y1))
abbrev W120 (F : T120) : WT := wrap s120 (G120 F)
theorem k120 : KO [] noX 120 Tryz.f120 s120 (G120 (P120)) := fun _ _ _ => by kernel_rfl
theorem ok120 : FnOk D 120 (W120 F120) := oW Tryz.func120 (tn) (k120 )
abbrev T198 : Type 1 := T118
def P198 : T198 := fun β a b c d k =>
 br (!(a == c)) (
 k false) (
 br (!(b == d)) (
 k false) (
 k true))
def F198 : T198 := P198
abbrev s198 : List (Bool × List CK) := s118
abbrev G198 := G118
abbrev W198 (F : T198) : WT := wrap s198 (G198 F)
theorem k198 : KO [] noX 198 Tryz.f198 s198 (G198 (P198)) := fun _ _ _ => by kernel_rfl
theorem ok198 : FnOk D 198 (W198 F198) := oW Tryz.func198 (tn) (k198 )
abbrev T185 : Type 1 := T158
def P185 (F198 : T198) : T185 := fun β a b k =>
 br ((a.length : Int) != (b.length : Int)) (
 k false) (
 whileK (fun s1 =>
 br (decide ((lI s1 2) < ((lL s1 0).length : Int))) (
 chk (0 ≤ (lI s1 2)) <|
 idx true [.str, .str] (lL s1 0) ((lI s1 2).toNat) fun (e2 : r10_) =>
 chk (0 ≤ (lI s1 2)) <|
 idx true [.str, .str] (lL s1 1) ((lI s1 2).toNat) fun (e3 : r10_) =>
 F198 _ e2.1 e2.2.1 e3.1 e3.2.1 fun b4 =>
 br (!b4) (
 some (.inr (0, [.b false]))) (
 some (.inl [.l (lL s1 0), .l (lL s1 1), .i (IntKind.wrap .i64 ((lI s1 2) + 1))]))) (
 some (.inr (1, [])))) [.l a, .l b, .i 0] fun r5 =>
 if r5.1 = 0 then
 k (lB r5.2 0)
 else
 k true)
def F185 : T185 := P185 F198
def X185 : Exits := fun i => lookN i [] [(4, [(.ret, xk 27 [(4, .bool false)] []), (.exit 0, xk 27 [] [])])]
abbrev s185 : List (Bool × List CK) := [(false, [.sl 2 true]), (false, [.sl 2 true])]
def G185 (F : T185) (β : Type) (e : argsT s185) (k : V → Option β) : Option β := F β e.1.1 e.2.1.1 (fun y1 => k (.bool y1))
abbrev W185 (F : T185) : WT := wrap s185 (G185 F)
theorem k185 (F198 : T198) : KO [(198, W198 F198)] X185 185 Tryz.f185 s185 (G185 (P185 F198)) := fun _ _ _ => by kernel_rfl
theorem ok185 : FnOk D 185 (W185 F185) := oW Tryz.func185 (tc ok198 tn) (k185 F198 )
end
end Go.Am

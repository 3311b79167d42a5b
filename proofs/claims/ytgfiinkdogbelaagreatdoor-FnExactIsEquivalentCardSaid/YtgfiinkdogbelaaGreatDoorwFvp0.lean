/-
  Functions of the program, extracted by program (sym.py) out of their code: what each computes, and, by the kernel's reckoning, that the machine's looking form computes just that; so what the machine answers.
-/
import Derived.Test.YtgfiinkdogbelaaGreatDoorwAmCfg
import Derived.Test.YtgfiinkdogbelaaGreatDoorwAmEvOk2
import Derived.KernelRfl
set_option maxRecDepth 10000
set_option linter.unusedVariables false
namespace Go.Am
open Go Go.Proofs Go.Proofs.Tryz
noncomputable section
abbrev WT : Type 1 := (M : Type) -> List V -> (V -> Option M) -> Option M
abbrev LSh := List (Bool × List CK)
abbrev GTy (s : LSh) := (M : Type) -> argsT s -> (V -> Option M) -> Option M
abbrev LU := List UInt8
abbrev LsV := List V
abbrev q0 : List CK := [.sl 2 false, .sl 10 true, .sl 4 true, .int .i64, .sl 25 false, .int .i64, .bool, .str, .str, .bool, .sl 1 true, .sl 1 true, .sl 1 true, .str, .str, .sl 4 false, .bool, .sl 4 false, .sl 1 true, .sl 8 true, .sl 5 true, .sl 2 true, .int .i64, .int .i64, .int .i64, .int .i64, .sl 2 true, .sl 1 true, .bool, .sl 8 true, .sl 2 false, .int .i64, .bool]
abbrev q1 : List CK := [.str, .str, .str, .str, .bool, .sl 1 true, .sl 1 true, .sl 1 true, .str, .str, .sl 4 false, .bool, .sl 4 false, .sl 1 true, .sl 8 true, .sl 5 true, .sl 2 true, .int .i64, .int .i64, .int .i64, .int .i64, .sl 2 true, .sl 1 true, .bool, .bool]
abbrev q2 : List CK := [.str, .str, .bool, .sl 1 true, .sl 1 true, .sl 1 true, .str, .str, .sl 4 false, .bool, .sl 4 false, .sl 1 true, .sl 8 true, .sl 5 true, .sl 2 true, .int .i64, .int .i64, .int .i64, .int .i64, .sl 2 true, .sl 1 true, .bool]
abbrev q3 : List CK := [.str, .str, .str, .int .i64, .int .i64, .str, .int .i64, .bool, .str, .int .i64]
abbrev q4 : List CK := [.bool, .str, .str, .bool, .sl 1 true, .sl 1 true, .sl 1 true, .str, .str, .sl 4 false, .bool, .sl 4 false, .sl 1 true, .sl 8 true, .sl 5 true, .sl 2 true, .int .i64, .int .i64, .int .i64, .int .i64, .sl 2 true, .sl 1 true, .bool, .sl 8 true, .sl 2 false, .int .i64]
abbrev q5 : List CK := [.int .i64, .str, .str, .str, .int .i64, .bool, .int .i64, .str]
abbrev q6 : List CK := [.str, .int .i64, .int .i64, .str, .int .i64, .bool, .str]
abbrev q7 : List CK := [.str, .str, .int .i64, .sl 2 true]
abbrev q8 : List CK := [.str, .str, .int .i64, .int .i64, .str, .int .i64, .bool, .str]
abbrev q9 : List CK := [.str, .str, .bool, .int .i64, .str]
abbrev q10 : List CK := [.int .i64, .str, .sl 2 true, .str]
abbrev q11 : List CK := [.sl 4 false, .sl 1 true, .sl 1 true, .sl 1 true, .sl 2 true, .bool]
abbrev q12 : List CK := [.sl 4 false, .sl 1 true]
abbrev q13 : List CK := [.sl 25 false, .int .i64]
abbrev q14 : List CK := [.int .i64, .int .i64, .str, .int .i64, .bool, .str]
abbrev q15 : List CK := [.str, .str, .str, .bool]
abbrev q16 : List CK := [.sl 2 false, .sl 10 true, .sl 4 true, .int .i64]
abbrev q17 : List CK := [.bool, .sl 1 true, .sl 1 true, .sl 1 true, .str]
abbrev r0_ := Int × List UInt8 × List UInt8 × List UInt8 × Int × Bool × Int × List UInt8 × Unit
abbrev r1_ := Int × List UInt8 × List V × List UInt8 × Unit
abbrev r3_ := List UInt8 × Int × Int × List UInt8 × Int × Bool × List UInt8 × Unit
abbrev r4_ := List UInt8 × Int × Unit
abbrev r5_ := List UInt8 × List UInt8 × Bool × Int × List UInt8 × Unit
abbrev r6_ := List UInt8 × List UInt8 × Int × Int × List UInt8 × Int × Bool × List UInt8 × Unit
abbrev r7_ := List UInt8 × List UInt8 × Int × List V × Unit
abbrev r8_ := List UInt8 × List UInt8 × List UInt8 × Bool × Unit
abbrev r9_ := List UInt8 × List UInt8 × List UInt8 × Int × Int × List UInt8 × Int × Bool × List UInt8 × Int × Unit
abbrev r10_ := List UInt8 × List UInt8 × List UInt8 × List UInt8 × Bool × List V × List V × List V × List UInt8 × List UInt8 × List V × Bool × List V × List V × List V × List V × List V × Int × Int × Int × Int × List V × List V × Bool × Bool × Unit
abbrev r11_ := List UInt8 × List UInt8 × Unit
abbrev r12_ := List UInt8 × List V × Unit
abbrev r13_ := List UInt8 × Unit
abbrev KO (tab : List (Nat × WT)) (X : Exits) (f : Nat) (fn : Func) (s : List (Bool × List CK)) (G : (M : Type) -> argsT s -> (V -> Option M) -> Option M) : Prop := ∀ (M : Type) (e : argsT s) (k : V -> Option M), fnK cfg (tabL tab) X f fn M (argsEnc s e) k = G M e k
theorem oW {ext : Nat -> List V -> Option V} {f : Nat} {fn : Func} {tab : List (Nat × WT)} {X : Exits} {s : List (Bool × List CK)} {G : (M : Type) -> argsT s -> (V -> Option M) -> Option M} (hf : Tryz.prog.funcs[f]? = some fn) (hl : ∀ M, TabOk (den Tryz.prog cfg ext) (tabL tab M)) (hk : KO tab X f fn s G) (he : ∀ args, ext f args = none := by exact fun _ => rfl) (hn : (fn.name == "runtime.NumGoroutine") = false := by exact rfl) : FnOk (den Tryz.prog cfg ext) f (wrap s G) := fn_okW tab X he hf hn hl hk
theorem tn {d : Nat -> List V -> Option V} : ∀ M, TabOk d (tabL [] M) := tabL_nil
theorem tc {d : Nat -> List V -> Option V} {f : Nat} {w : WT} {l : List (Nat × WT)} (hf : FnOk d f w) (hl : ∀ M, TabOk d (tabL l M)) : ∀ M, TabOk d (tabL ((f, w) :: l) M) := tabL_cons hf hl
abbrev T153 := (M : Type) -> Int -> Int -> LU -> Int -> Bool -> LU -> Int -> (Int -> Option M) -> Option M
def P153 : T153 := fun M c d a f g b left k => br (decide (IntKind.wrap .i64 (left - (a.length : Int)) < 0)) (k (-1)) (br (decide (IntKind.wrap .i64 ((IntKind.wrap .i64 (left - (a.length : Int))) - (b.length : Int)) < 0)) (k (-1)) (k (IntKind.wrap .i64 ((IntKind.wrap .i64 (left - (a.length : Int))) - (b.length : Int)))))
def F153 : T153 := P153
abbrev s153 : LSh := [(true, q14), (false, [.int .i64])]
def G153 (F : T153) : GTy s153 := fun M e k => let a:=e.1;let b:=a.2;let c:=b.2;let d:=c.2;let f:=d.2;let g:=f.2;F M a.1 b.1 c.1 d.1 f.1 g.1 e.2.1.1 (fun y1 => k (.int .i64 y1))
abbrev W153 (F : T153) : WT := wrap s153 (G153 F)
theorem k153 : KO [] noX 153 f153 s153 (G153 (P153)) := fun _ _ _ => by kernel_rfl
theorem ok153 : FnOk D 153 (W153 F153) := oW func153 tn (k153)
abbrev T189 := (M : Type) -> LU -> Int -> Int -> LU -> Int -> Bool -> LU -> Int -> (Int -> Option M) -> Option M
def P189 (F153 : T153) : T189 := fun M a b c d f g h left k => br (decide (IntKind.wrap .i64 (left - (a.length : Int)) < 0)) (k (-1)) (F153 _ b c d f g h (IntKind.wrap .i64 (left - (a.length : Int))) fun n1 => br (decide (n1 < 0)) (k (-1)) (k n1))
def F189 : T189 := P189 F153
abbrev s189 : LSh := [(true, q6), (false, [.int .i64])]
def G189 (F : T189) : GTy s189 := fun M e k => let a:=e.1;let b:=a.2;let c:=b.2;let d:=c.2;let f:=d.2;let g:=f.2;let h:=g.2;F M a.1 b.1 c.1 d.1 f.1 g.1 h.1 e.2.1.1 (fun y1 => k (.int .i64 y1))
abbrev W189 (F : T189) : WT := wrap s189 (G189 F)
theorem k189 (F153 : T153) : KO [(153, W153 F153)] noX 189 f189 s189 (G189 (P189 F153)) := fun _ _ _ => by kernel_rfl
theorem ok189 : FnOk D 189 (W189 F189) := oW func189 (tc ok153 tn) (k189 F153)
abbrev T146 := (M : Type) -> LsV -> Int -> (Int -> Option M) -> Option M
def P146 (F189 : T189) : T146 := fun M a left k => br (decide (IntKind.wrap .i64 (left - (a.length : Int)) < 0)) (k (-1)) (whileK (fun s1 => br (decide ((lI s1 2) < ((lL s1 0).length : Int))) (chk (0 <= (lI s1 2)) <| idx true q6 (lL s1 0) ((lI s1 2).toNat) fun (e2 : r3_) => F189 _ e2.1 e2.2.1 e2.2.2.1 e2.2.2.2.1 e2.2.2.2.2.1 e2.2.2.2.2.2.1 e2.2.2.2.2.2.2.1 (lI s1 1) fun n3 => br (decide (n3 < 0)) (some (.inr (0, [.i n3, .i (-1)]))) (some (.inl [.l (lL s1 0), .i n3, .i (IntKind.wrap .i64 ((lI s1 2) + 1))]))) (some (.inr (1, [.i (lI s1 1)])))) [.l a, .i (IntKind.wrap .i64 (left - (a.length : Int))), .i 0] fun r4 => if r4.1 = 0 then k (lI r4.2 1) else k (lI r4.2 0))
def F146 : T146 := P146 F189
def X146 : Exits := fun i => lookN i [] [(5, [(.ret, xk 27 [(1, .int .i64 0), (4, .int .i64 0)] []), (.exit 0, xk 27 [(1, .int .i64 0)] [])])]
abbrev s146 : LSh := [(false, [.sl 7 true]), (false, [.int .i64])]
def G146 (F : T146) : GTy s146 := fun M e k => F M e.1.1 e.2.1.1 (fun y1 => k (.int .i64 y1))
abbrev W146 (F : T146) : WT := wrap s146 (G146 F)
theorem k146 (F189 : T189) : KO [(189, W189 F189)] X146 146 f146 s146 (G146 (P146 F189)) := fun _ _ _ => by kernel_rfl
theorem ok146 : FnOk D 146 (W146 F146) := oW func146 (tc ok189 tn) (k146 F189)
abbrev T91 := (M : Type) -> LU -> LsV -> Int -> (Int -> Option M) -> Option M
def P91 (F146 : T146) : T91 := fun M a b left k => br (decide (IntKind.wrap .i64 (left - (a.length : Int)) < 0)) (k (-1)) (F146 _ b (IntKind.wrap .i64 (left - (a.length : Int))) fun n1 => br (decide (n1 < 0)) (k (-1)) (k n1))
def F91 : T91 := P91 F146
abbrev s91 : LSh := [(true, [.str, .sl 7 true]), (false, [.int .i64])]
def G91 (F : T91) : GTy s91 := fun M e k => F M e.1.1 e.1.2.1 e.2.1.1 (fun y1 => k (.int .i64 y1))
abbrev W91 (F : T91) : WT := wrap s91 (G91 F)
theorem k91 (F146 : T146) : KO [(146, W146 F146)] noX 91 f91 s91 (G91 (P91 F146)) := fun _ _ _ => by kernel_rfl
theorem ok91 : FnOk D 91 (W91 F91) := oW func91 (tc ok146 tn) (k91 F146)
abbrev T51 := T146
def P51 (F91 : T91) : T51 := fun M a left k => br (decide (IntKind.wrap .i64 (left - (a.length : Int)) < 0)) (k (-1)) (whileK (fun s1 => br (decide ((lI s1 2) < ((lL s1 0).length : Int))) (chk (0 <= (lI s1 2)) <| idx true [.str, .sl 7 true] (lL s1 0) ((lI s1 2).toNat) fun (e2 : r12_) => F91 _ e2.1 e2.2.1 (lI s1 1) fun n3 => br (decide (n3 < 0)) (some (.inr (0, [.i n3, .i (-1)]))) (some (.inl [.l (lL s1 0), .i n3, .i (IntKind.wrap .i64 ((lI s1 2) + 1))]))) (some (.inr (1, [.i (lI s1 1)])))) [.l a, .i (IntKind.wrap .i64 (left - (a.length : Int))), .i 0] fun r4 => if r4.1 = 0 then k (lI r4.2 1) else k (lI r4.2 0))
def F51 : T51 := P51 F91
def X51 : Exits := fun i => lookN i [] [(5, [(.ret, xk 27 [(1, .int .i64 0), (4, .int .i64 0)] []), (.exit 0, xk 27 [(1, .int .i64 0)] [])])]
abbrev s51 : LSh := [(false, [.sl 2 false]), (false, [.int .i64])]
def G51 (F : T51) : GTy s51 := fun M e k => F M e.1.1 e.2.1.1 (fun y1 => k (.int .i64 y1))
abbrev W51 (F : T51) : WT := wrap s51 (G51 F)
theorem k51 (F91 : T91) : KO [(91, W91 F91)] X51 51 f51 s51 (G51 (P51 F91)) := fun _ _ _ => by kernel_rfl
theorem ok51 : FnOk D 51 (W51 F51) := oW func51 (tc ok91 tn) (k51 F91)
abbrev T71 := (M : Type) -> LU -> LU -> Int -> (Int -> Option M) -> Option M
def P71 : T71 := fun M a b left k => br (decide (IntKind.wrap .i64 (left - (a.length : Int)) < 0)) (k (-1)) (br (decide (IntKind.wrap .i64 ((IntKind.wrap .i64 (left - (a.length : Int))) - (b.length : Int)) < 0)) (k (-1)) (k (IntKind.wrap .i64 ((IntKind.wrap .i64 (left - (a.length : Int))) - (b.length : Int)))))
def F71 : T71 := P71
abbrev s71 : LSh := [(true, [.str, .str]), (false, [.int .i64])]
def G71 (F : T71) : GTy s71 := fun M e k => F M e.1.1 e.1.2.1 e.2.1.1 (fun y1 => k (.int .i64 y1))
abbrev W71 (F : T71) : WT := wrap s71 (G71 F)
theorem k71 : KO [] noX 71 f71 s71 (G71 (P71)) := fun _ _ _ => by kernel_rfl
theorem ok71 : FnOk D 71 (W71 F71) := oW func71 tn (k71)
abbrev T147 := (M : Type) -> LU -> LU -> LU -> Int -> Int -> LU -> Int -> Bool -> LU -> Int -> Int -> (Int -> Option M) -> Option M
def P147 (F71 : T71) (F153 : T153) : T147 := fun M a b c d f g h i j l left k => br (decide (IntKind.wrap .i64 (left - (a.length : Int)) < 0)) (k (-1)) (F71 _ b c (IntKind.wrap .i64 (left - (a.length : Int))) fun n1 => br (decide (n1 < 0)) (k (-1)) (F153 _ d f g h i j n1 fun n2 => br (decide (n2 < 0)) (k (-1)) (k n2)))
def F147 : T147 := P147 F71 F153
abbrev s147 : LSh := [(true, q3), (false, [.int .i64])]
def G147 (F : T147) : GTy s147 := fun M e k => let a:=e.1;let b:=a.2;let c:=b.2;let d:=c.2;let f:=d.2;let g:=f.2;let h:=g.2;let i:=h.2;let j:=i.2;let l:=j.2;F M a.1 b.1 c.1 d.1 f.1 g.1 h.1 i.1 j.1 l.1 e.2.1.1 (fun y1 => k (.int .i64 y1))
abbrev W147 (F : T147) : WT := wrap s147 (G147 F)
theorem k147 (F71 : T71) (F153 : T153) : KO [(71, W71 F71), (153, W153 F153)] noX 147 f147 s147 (G147 (P147 F71 F153)) := fun _ _ _ => by kernel_rfl
theorem ok147 : FnOk D 147 (W147 F147) := oW func147 (tc ok71 (tc ok153 tn)) (k147 F71 F153)
abbrev T92 := T146
def P92 (F147 : T147) : T92 := fun M a left k => br (decide (IntKind.wrap .i64 (left - (a.length : Int)) < 0)) (k (-1)) (whileK (fun s1 => br (decide ((lI s1 2) < ((lL s1 0).length : Int))) (chk (0 <= (lI s1 2)) <| idx true q3 (lL s1 0) ((lI s1 2).toNat) fun (e2 : r9_) => F147 _ e2.1 e2.2.1 e2.2.2.1 e2.2.2.2.1 e2.2.2.2.2.1 e2.2.2.2.2.2.1 e2.2.2.2.2.2.2.1 e2.2.2.2.2.2.2.2.1 e2.2.2.2.2.2.2.2.2.1 e2.2.2.2.2.2.2.2.2.2.1 (lI s1 1) fun n3 => br (decide (n3 < 0)) (some (.inr (0, [.i n3, .i (-1)]))) (some (.inl [.l (lL s1 0), .i n3, .i (IntKind.wrap .i64 ((lI s1 2) + 1))]))) (some (.inr (1, [.i (lI s1 1)])))) [.l a, .i (IntKind.wrap .i64 (left - (a.length : Int))), .i 0] fun r4 => if r4.1 = 0 then k (lI r4.2 1) else k (lI r4.2 0))
def F92 : T92 := P92 F147
def X92 : Exits := fun i => lookN i [] [(5, [(.ret, xk 27 [(1, .int .i64 0), (4, .int .i64 0)] []), (.exit 0, xk 27 [(1, .int .i64 0)] [])])]
abbrev s92 : LSh := [(false, [.sl 10 true]), (false, [.int .i64])]
def G92 (F : T92) : GTy s92 := fun M e k => F M e.1.1 e.2.1.1 (fun y1 => k (.int .i64 y1))
abbrev W92 (F : T92) : WT := wrap s92 (G92 F)
theorem k92 (F147 : T147) : KO [(147, W147 F147)] X92 92 f92 s92 (G92 (P92 F147)) := fun _ _ _ => by kernel_rfl
theorem ok92 : FnOk D 92 (W92 F92) := oW func92 (tc ok147 tn) (k92 F147)
abbrev T52 := T146
def P52 (F92 : T92) : T52 := fun M a left k => F92 _ a left fun n1 => br (decide (n1 < 0)) (k (-1)) (k n1)
def F52 : T52 := P52 F92
abbrev s52 : LSh := [(true, [.sl 10 true]), (false, [.int .i64])]
def G52 (F : T52) : GTy s52 := fun M e k => F M e.1.1 e.2.1.1 (fun y1 => k (.int .i64 y1))
abbrev W52 (F : T52) : WT := wrap s52 (G52 F)
theorem k52 (F92 : T92) : KO [(92, W92 F92)] noX 52 f52 s52 (G52 (P52 F92)) := fun _ _ _ => by kernel_rfl
theorem ok52 : FnOk D 52 (W52 F52) := oW func52 (tc ok92 tn) (k52 F92)
abbrev T93 := (M : Type) -> LU -> LU -> LU -> Bool -> Int -> (Int -> Option M) -> Option M
def P93 (F71 : T71) : T93 := fun M a b c d left k => br (decide (IntKind.wrap .i64 (left - (a.length : Int)) < 0)) (k (-1)) (F71 _ b c (IntKind.wrap .i64 (left - (a.length : Int))) fun n1 => br (decide (n1 < 0)) (k (-1)) (k n1))
def F93 : T93 := P93 F71
abbrev s93 : LSh := [(true, q15), (false, [.int .i64])]
def G93 (F : T93) : GTy s93 := fun M e k => F M e.1.1 e.1.2.1 e.1.2.2.1 e.1.2.2.2.1 e.2.1.1 (fun y1 => k (.int .i64 y1))
abbrev W93 (F : T93) : WT := wrap s93 (G93 F)
theorem k93 (F71 : T71) : KO [(71, W71 F71)] noX 93 f93 s93 (G93 (P93 F71)) := fun _ _ _ => by kernel_rfl
theorem ok93 : FnOk D 93 (W93 F93) := oW func93 (tc ok71 tn) (k93 F71)
abbrev T53 := T146
def P53 (F93 : T93) : T53 := fun M a left k => br (decide (IntKind.wrap .i64 (left - (a.length : Int)) < 0)) (k (-1)) (whileK (fun s1 => br (decide ((lI s1 2) < ((lL s1 0).length : Int))) (chk (0 <= (lI s1 2)) <| idx true q15 (lL s1 0) ((lI s1 2).toNat) fun (e2 : r8_) => F93 _ e2.1 e2.2.1 e2.2.2.1 e2.2.2.2.1 (lI s1 1) fun n3 => br (decide (n3 < 0)) (some (.inr (0, [.i n3, .i (-1)]))) (some (.inl [.l (lL s1 0), .i n3, .i (IntKind.wrap .i64 ((lI s1 2) + 1))]))) (some (.inr (1, [.i (lI s1 1)])))) [.l a, .i (IntKind.wrap .i64 (left - (a.length : Int))), .i 0] fun r4 => if r4.1 = 0 then k (lI r4.2 1) else k (lI r4.2 0))
def F53 : T53 := P53 F93
def X53 : Exits := fun i => lookN i [] [(5, [(.ret, xk 27 [(1, .int .i64 0), (4, .int .i64 0)] []), (.exit 0, xk 27 [(1, .int .i64 0)] [])])]
abbrev s53 : LSh := [(false, [.sl 4 true]), (false, [.int .i64])]
def G53 (F : T53) : GTy s53 := fun M e k => F M e.1.1 e.2.1.1 (fun y1 => k (.int .i64 y1))
abbrev W53 (F : T53) : WT := wrap s53 (G53 F)
theorem k53 (F93 : T93) : KO [(93, W93 F93)] X53 53 f53 s53 (G53 (P53 F93)) := fun _ _ _ => by kernel_rfl
theorem ok53 : FnOk D 53 (W53 F53) := oW func53 (tc ok93 tn) (k53 F93)
abbrev T24 := (M : Type) -> LsV -> LsV -> LsV -> Int -> Int -> (Int -> Option M) -> Option M
def P24 (F51 : T51) (F52 : T52) (F53 : T53) : T24 := fun M a b c d left k => F51 _ a left fun n1 => br (decide (n1 < 0)) (k (-1)) (F52 _ b n1 fun n2 => br (decide (n2 < 0)) (k (-1)) (F53 _ c n2 fun n3 => br (decide (n3 < 0)) (k (-1)) (k n3)))
def F24 : T24 := P24 F51 F52 F53
abbrev s24 : LSh := [(true, q16), (false, [.int .i64])]
def G24 (F : T24) : GTy s24 := fun M e k => F M e.1.1 e.1.2.1 e.1.2.2.1 e.1.2.2.2.1 e.2.1.1 (fun y1 => k (.int .i64 y1))
abbrev W24 (F : T24) : WT := wrap s24 (G24 F)
theorem k24 (F51 : T51) (F52 : T52) (F53 : T53) : KO [(51, W51 F51), (52, W52 F52), (53, W53 F53)] noX 24 f24 s24 (G24 (P24 F51 F52 F53)) := fun _ _ _ => by kernel_rfl
theorem ok24 : FnOk D 24 (W24 F24) := oW func24 (tc ok51 (tc ok52 (tc ok53 tn))) (k24 F51 F52 F53)
abbrev T101 := T146
def P101 : T101 := fun M a left k => br (decide (IntKind.wrap .i64 (left - (a.length : Int)) < 0)) (k (-1)) (whileK (fun s1 => br (decide ((lI s1 2) < ((lL s1 0).length : Int))) (chk (0 <= (lI s1 2)) <| idx false [.str] (lL s1 0) ((lI s1 2).toNat) fun (e2 : r13_) => br (decide (IntKind.wrap .i64 ((lI s1 1) - (e2.1.length : Int)) < 0)) (some (.inr (0, [.i (IntKind.wrap .i64 ((lI s1 1) - (e2.1.length : Int))), .i (-1)]))) (some (.inl [.l (lL s1 0), .i (IntKind.wrap .i64 ((lI s1 1) - (e2.1.length : Int))), .i (IntKind.wrap .i64 ((lI s1 2) + 1))]))) (some (.inr (1, [.i (lI s1 1)])))) [.l a, .i (IntKind.wrap .i64 (left - (a.length : Int))), .i 0] fun r3 => if r3.1 = 0 then k (lI r3.2 1) else k (lI r3.2 0))
def F101 : T101 := P101
def X101 : Exits := fun i => lookN i [] [(5, [(.ret, xk 28 [(1, .int .i64 0), (4, .int .i64 0)] []), (.exit 0, xk 28 [(1, .int .i64 0)] [])])]
abbrev s101 : LSh := [(false, [.sl 1 true]), (false, [.int .i64])]
def G101 (F : T101) : GTy s101 := fun M e k => F M e.1.1 e.2.1.1 (fun y1 => k (.int .i64 y1))
abbrev W101 (F : T101) : WT := wrap s101 (G101 F)
theorem k101 : KO [] X101 101 f101 s101 (G101 (P101)) := fun _ _ _ => by kernel_rfl
theorem ok101 : FnOk D 101 (W101 F101) := oW func101 tn (k101)
abbrev T94 := (M : Type) -> Bool -> LsV -> LsV -> LsV -> LU -> Int -> (Int -> Option M) -> Option M
def P94 (F101 : T101) : T94 := fun M f b c d a left k => F101 _ b left fun n1 => br (decide (n1 < 0)) (k (-1)) (F101 _ c n1 fun n2 => br (decide (n2 < 0)) (k (-1)) (F101 _ d n2 fun n3 => br (decide (n3 < 0)) (k (-1)) (br (decide (IntKind.wrap .i64 (n3 - (a.length : Int)) < 0)) (k (-1)) (k (IntKind.wrap .i64 (n3 - (a.length : Int)))))))
def F94 : T94 := P94 F101
abbrev s94 : LSh := [(true, q17), (false, [.int .i64])]
def G94 (F : T94) : GTy s94 := fun M e k => let a:=e.1;let b:=a.2;let c:=b.2;let d:=c.2;let f:=d.2;F M a.1 b.1 c.1 d.1 f.1 e.2.1.1 (fun y1 => k (.int .i64 y1))
abbrev W94 (F : T94) : WT := wrap s94 (G94 F)
theorem k94 (F101 : T101) : KO [(101, W101 F101)] noX 94 f94 s94 (G94 (P94 F101)) := fun _ _ _ => by kernel_rfl
theorem ok94 : FnOk D 94 (W94 F94) := oW func94 (tc ok101 tn) (k94 F101)
abbrev T95 := (M : Type) -> LU -> Int -> (Int -> Option M) -> Option M
def P95 : T95 := fun M a left k => br (decide (IntKind.wrap .i64 (left - (a.length : Int)) < 0)) (k (-1)) (k (IntKind.wrap .i64 (left - (a.length : Int))))
def F95 : T95 := P95
abbrev s95 : LSh := [(true, [.str]), (false, [.int .i64])]
def G95 (F : T95) : GTy s95 := fun M e k => F M e.1.1 e.2.1.1 (fun y1 => k (.int .i64 y1))
abbrev W95 (F : T95) : WT := wrap s95 (G95 F)
theorem k95 : KO [] noX 95 f95 s95 (G95 (P95)) := fun _ _ _ => by kernel_rfl
theorem ok95 : FnOk D 95 (W95 F95) := oW func95 tn (k95)
abbrev T211 := T71
def P211 : T211 := fun M a b left k => br (decide (IntKind.wrap .i64 (left - (a.length : Int)) < 0)) (k (-1)) (br (decide (IntKind.wrap .i64 ((IntKind.wrap .i64 (left - (a.length : Int))) - (b.length : Int)) < 0)) (k (-1)) (k (IntKind.wrap .i64 ((IntKind.wrap .i64 (left - (a.length : Int))) - (b.length : Int)))))
def F211 : T211 := P211
abbrev s211 : LSh := s71
abbrev G211 := G71
abbrev W211 (F : T211) : WT := wrap s211 (G211 F)
theorem k211 : KO [] noX 211 f211 s211 (G211 (P211)) := fun _ _ _ => by kernel_rfl
theorem ok211 : FnOk D 211 (W211 F211) := oW func211 tn (k211)
abbrev T190 := T146
def P190 (F211 : T211) : T190 := fun M a left k => br (decide (IntKind.wrap .i64 (left - (a.length : Int)) < 0)) (k (-1)) (whileK (fun s1 => br (decide ((lI s1 2) < ((lL s1 0).length : Int))) (chk (0 <= (lI s1 2)) <| idx true [.str, .str] (lL s1 0) ((lI s1 2).toNat) fun (e2 : r11_) => F211 _ e2.1 e2.2.1 (lI s1 1) fun n3 => br (decide (n3 < 0)) (some (.inr (0, [.i n3, .i (-1)]))) (some (.inl [.l (lL s1 0), .i n3, .i (IntKind.wrap .i64 ((lI s1 2) + 1))]))) (some (.inr (1, [.i (lI s1 1)])))) [.l a, .i (IntKind.wrap .i64 (left - (a.length : Int))), .i 0] fun r4 => if r4.1 = 0 then k (lI r4.2 1) else k (lI r4.2 0))
def F190 : T190 := P190 F211
def X190 : Exits := fun i => lookN i [] [(5, [(.ret, xk 27 [(1, .int .i64 0), (4, .int .i64 0)] []), (.exit 0, xk 27 [(1, .int .i64 0)] [])])]
abbrev s190 : LSh := [(false, [.sl 2 true]), (false, [.int .i64])]
def G190 (F : T190) : GTy s190 := fun M e k => F M e.1.1 e.2.1.1 (fun y1 => k (.int .i64 y1))
abbrev W190 (F : T190) : WT := wrap s190 (G190 F)
theorem k190 (F211 : T211) : KO [(211, W211 F211)] X190 190 f190 s190 (G190 (P190 F211)) := fun _ _ _ => by kernel_rfl
theorem ok190 : FnOk D 190 (W190 F190) := oW func190 (tc ok211 tn) (k190 F211)
abbrev T148 := (M : Type) -> Int -> LU -> LsV -> LU -> Int -> (Int -> Option M) -> Option M
def P148 (F190 : T190) : T148 := fun M d a c b left k => br (decide (IntKind.wrap .i64 (left - (a.length : Int)) < 0)) (k (-1)) (F190 _ c (IntKind.wrap .i64 (left - (a.length : Int))) fun n1 => br (decide (n1 < 0)) (k (-1)) (br (decide (IntKind.wrap .i64 (n1 - (b.length : Int)) < 0)) (k (-1)) (k (IntKind.wrap .i64 (n1 - (b.length : Int))))))
def F148 : T148 := P148 F190
abbrev s148 : LSh := [(true, q10), (false, [.int .i64])]
def G148 (F : T148) : GTy s148 := fun M e k => F M e.1.1 e.1.2.1 e.1.2.2.1 e.1.2.2.2.1 e.2.1.1 (fun y1 => k (.int .i64 y1))
abbrev W148 (F : T148) : WT := wrap s148 (G148 F)
theorem k148 (F190 : T190) : KO [(190, W190 F190)] noX 148 f148 s148 (G148 (P148 F190)) := fun _ _ _ => by kernel_rfl
theorem ok148 : FnOk D 148 (W148 F148) := oW func148 (tc ok190 tn) (k148 F190)
abbrev T96 := T146
def P96 (F148 : T148) : T96 := fun M a left k => br (decide (IntKind.wrap .i64 (left - (a.length : Int)) < 0)) (k (-1)) (whileK (fun s1 => br (decide ((lI s1 2) < ((lL s1 0).length : Int))) (chk (0 <= (lI s1 2)) <| idx true q10 (lL s1 0) ((lI s1 2).toNat) fun (e2 : r1_) => F148 _ e2.1 e2.2.1 e2.2.2.1 e2.2.2.2.1 (lI s1 1) fun n3 => br (decide (n3 < 0)) (some (.inr (0, [.i n3, .i (-1)]))) (some (.inl [.l (lL s1 0), .i n3, .i (IntKind.wrap .i64 ((lI s1 2) + 1))]))) (some (.inr (1, [.i (lI s1 1)])))) [.l a, .i (IntKind.wrap .i64 (left - (a.length : Int))), .i 0] fun r4 => if r4.1 = 0 then k (lI r4.2 1) else k (lI r4.2 0))
def F96 : T96 := P96 F148
def X96 : Exits := fun i => lookN i [] [(5, [(.ret, xk 27 [(1, .int .i64 0), (4, .int .i64 0)] []), (.exit 0, xk 27 [(1, .int .i64 0)] [])])]
abbrev s96 : LSh := [(false, [.sl 4 false]), (false, [.int .i64])]
def G96 (F : T96) : GTy s96 := fun M e k => F M e.1.1 e.2.1.1 (fun y1 => k (.int .i64 y1))
abbrev W96 (F : T96) : WT := wrap s96 (G96 F)
theorem k96 (F148 : T148) : KO [(148, W148 F148)] X96 96 f96 s96 (G96 (P96 F148)) := fun _ _ _ => by kernel_rfl
theorem ok96 : FnOk D 96 (W96 F96) := oW func96 (tc ok148 tn) (k96 F148)
abbrev T191 := (M : Type) -> LU -> LU -> Int -> LsV -> Int -> (Int -> Option M) -> Option M
def P191 (F190 : T190) : T191 := fun M a b d c left k => br (decide (IntKind.wrap .i64 (left - (a.length : Int)) < 0)) (k (-1)) (br (decide (IntKind.wrap .i64 ((IntKind.wrap .i64 (left - (a.length : Int))) - (b.length : Int)) < 0)) (k (-1)) (F190 _ c (IntKind.wrap .i64 ((IntKind.wrap .i64 (left - (a.length : Int))) - (b.length : Int))) fun n1 => br (decide (n1 < 0)) (k (-1)) (k n1)))
def F191 : T191 := P191 F190
abbrev s191 : LSh := [(true, q7), (false, [.int .i64])]
def G191 (F : T191) : GTy s191 := fun M e k => F M e.1.1 e.1.2.1 e.1.2.2.1 e.1.2.2.2.1 e.2.1.1 (fun y1 => k (.int .i64 y1))
abbrev W191 (F : T191) : WT := wrap s191 (G191 F)
theorem k191 (F190 : T190) : KO [(190, W190 F190)] noX 191 f191 s191 (G191 (P191 F190)) := fun _ _ _ => by kernel_rfl
theorem ok191 : FnOk D 191 (W191 F191) := oW func191 (tc ok190 tn) (k191 F190)
abbrev T149 := T146
def P149 (F191 : T191) : T149 := fun M a left k => br (decide (IntKind.wrap .i64 (left - (a.length : Int)) < 0)) (k (-1)) (whileK (fun s1 => br (decide ((lI s1 2) < ((lL s1 0).length : Int))) (chk (0 <= (lI s1 2)) <| idx true q7 (lL s1 0) ((lI s1 2).toNat) fun (e2 : r7_) => F191 _ e2.1 e2.2.1 e2.2.2.1 e2.2.2.2.1 (lI s1 1) fun n3 => br (decide (n3 < 0)) (some (.inr (0, [.i n3, .i (-1)]))) (some (.inl [.l (lL s1 0), .i n3, .i (IntKind.wrap .i64 ((lI s1 2) + 1))]))) (some (.inr (1, [.i (lI s1 1)])))) [.l a, .i (IntKind.wrap .i64 (left - (a.length : Int))), .i 0] fun r4 => if r4.1 = 0 then k (lI r4.2 1) else k (lI r4.2 0))
def F149 : T149 := P149 F191
def X149 : Exits := fun i => lookN i [] [(5, [(.ret, xk 27 [(1, .int .i64 0), (4, .int .i64 0)] []), (.exit 0, xk 27 [(1, .int .i64 0)] [])])]
abbrev s149 : LSh := s96
abbrev G149 := G96
abbrev W149 (F : T149) : WT := wrap s149 (G149 F)
theorem k149 (F191 : T191) : KO [(191, W191 F191)] X149 149 f149 s149 (G149 (P149 F191)) := fun _ _ _ => by kernel_rfl
theorem ok149 : FnOk D 149 (W149 F149) := oW func149 (tc ok191 tn) (k149 F191)
abbrev T150 := T146
def P150 : T150 := fun M a left k => br (decide (IntKind.wrap .i64 (left - (a.length : Int)) < 0)) (k (-1)) (k (IntKind.wrap .i64 (left - (a.length : Int))))
def F150 : T150 := P150
abbrev s150 : LSh := s101
abbrev G150 := G101
abbrev W150 (F : T150) : WT := wrap s150 (G150 F)
theorem k150 : KO [] noX 150 f150 s150 (G150 (P150)) := fun _ _ _ => by kernel_rfl
theorem ok150 : FnOk D 150 (W150 F150) := oW func150 tn (k150)
abbrev T97 := (M : Type) -> LsV -> LsV -> Int -> (Int -> Option M) -> Option M
def P97 (F149 : T149) (F150 : T150) : T97 := fun M a b left k => F149 _ a left fun n1 => br (decide (n1 < 0)) (k (-1)) (F150 _ b n1 fun n2 => br (decide (n2 < 0)) (k (-1)) (k n2))
def F97 : T97 := P97 F149 F150
abbrev s97 : LSh := [(true, q12), (false, [.int .i64])]
def G97 (F : T97) : GTy s97 := fun M e k => F M e.1.1 e.1.2.1 e.2.1.1 (fun y1 => k (.int .i64 y1))
abbrev W97 (F : T97) : WT := wrap s97 (G97 F)
theorem k97 (F149 : T149) (F150 : T150) : KO [(149, W149 F149), (150, W150 F150)] noX 97 f97 s97 (G97 (P97 F149 F150)) := fun _ _ _ => by kernel_rfl
theorem ok97 : FnOk D 97 (W97 F97) := oW func97 (tc ok149 (tc ok150 tn)) (k97 F149 F150)
abbrev T151 := (M : Type) -> Int -> LU -> LU -> LU -> Int -> Bool -> Int -> LU -> Int -> (Int -> Option M) -> Option M
def P151 (F71 : T71) : T151 := fun M f c d a g h i b left k => F71 _ c d left fun n1 => br (decide (n1 < 0)) (k (-1)) (br (decide (IntKind.wrap .i64 (n1 - (a.length : Int)) < 0)) (k (-1)) (br (decide (IntKind.wrap .i64 ((IntKind.wrap .i64 (n1 - (a.length : Int))) - (b.length : Int)) < 0)) (k (-1)) (k (IntKind.wrap .i64 ((IntKind.wrap .i64 (n1 - (a.length : Int))) - (b.length : Int))))))
def F151 : T151 := P151 F71
abbrev s151 : LSh := [(true, q5), (false, [.int .i64])]
def G151 (F : T151) : GTy s151 := fun M e k => let a:=e.1;let b:=a.2;let c:=b.2;let d:=c.2;let f:=d.2;let g:=f.2;let h:=g.2;let i:=h.2;F M a.1 b.1 c.1 d.1 f.1 g.1 h.1 i.1 e.2.1.1 (fun y1 => k (.int .i64 y1))
abbrev W151 (F : T151) : WT := wrap s151 (G151 F)
theorem k151 (F71 : T71) : KO [(71, W71 F71)] noX 151 f151 s151 (G151 (P151 F71)) := fun _ _ _ => by kernel_rfl
theorem ok151 : FnOk D 151 (W151 F151) := oW func151 (tc ok71 tn) (k151 F71)
abbrev T98 := T146
def P98 (F151 : T151) : T98 := fun M a left k => br (decide (IntKind.wrap .i64 (left - (a.length : Int)) < 0)) (k (-1)) (whileK (fun s1 => br (decide ((lI s1 2) < ((lL s1 0).length : Int))) (chk (0 <= (lI s1 2)) <| idx true q5 (lL s1 0) ((lI s1 2).toNat) fun (e2 : r0_) => F151 _ e2.1 e2.2.1 e2.2.2.1 e2.2.2.2.1 e2.2.2.2.2.1 e2.2.2.2.2.2.1 e2.2.2.2.2.2.2.1 e2.2.2.2.2.2.2.2.1 (lI s1 1) fun n3 => br (decide (n3 < 0)) (some (.inr (0, [.i n3, .i (-1)]))) (some (.inl [.l (lL s1 0), .i n3, .i (IntKind.wrap .i64 ((lI s1 2) + 1))]))) (some (.inr (1, [.i (lI s1 1)])))) [.l a, .i (IntKind.wrap .i64 (left - (a.length : Int))), .i 0] fun r4 => if r4.1 = 0 then k (lI r4.2 1) else k (lI r4.2 0))
def F98 : T98 := P98 F151
def X98 : Exits := fun i => lookN i [] [(5, [(.ret, xk 27 [(1, .int .i64 0), (4, .int .i64 0)] []), (.exit 0, xk 27 [(1, .int .i64 0)] [])])]
abbrev s98 : LSh := [(false, [.sl 8 true]), (false, [.int .i64])]
def G98 (F : T98) : GTy s98 := fun M e k => F M e.1.1 e.2.1.1 (fun y1 => k (.int .i64 y1))
abbrev W98 (F : T98) : WT := wrap s98 (G98 F)
theorem k98 (F151 : T151) : KO [(151, W151 F151)] X98 98 f98 s98 (G98 (P98 F151)) := fun _ _ _ => by kernel_rfl
theorem ok98 : FnOk D 98 (W98 F98) := oW func98 (tc ok151 tn) (k98 F151)
abbrev T152 := (M : Type) -> LU -> LU -> Bool -> Int -> LU -> Int -> (Int -> Option M) -> Option M
def P152 (F71 : T71) : T152 := fun M b c d f a left k => F71 _ b c left fun n1 => br (decide (n1 < 0)) (k (-1)) (br (decide (IntKind.wrap .i64 (n1 - (a.length : Int)) < 0)) (k (-1)) (k (IntKind.wrap .i64 (n1 - (a.length : Int)))))
def F152 : T152 := P152 F71
abbrev s152 : LSh := [(true, q9), (false, [.int .i64])]
def G152 (F : T152) : GTy s152 := fun M e k => let a:=e.1;let b:=a.2;let c:=b.2;let d:=c.2;let f:=d.2;F M a.1 b.1 c.1 d.1 f.1 e.2.1.1 (fun y1 => k (.int .i64 y1))
abbrev W152 (F : T152) : WT := wrap s152 (G152 F)
theorem k152 (F71 : T71) : KO [(71, W71 F71)] noX 152 f152 s152 (G152 (P152 F71)) := fun _ _ _ => by kernel_rfl
theorem ok152 : FnOk D 152 (W152 F152) := oW func152 (tc ok71 tn) (k152 F71)
abbrev T99 := T146
def P99 (F152 : T152) : T99 := fun M a left k => br (decide (IntKind.wrap .i64 (left - (a.length : Int)) < 0)) (k (-1)) (whileK (fun s1 => br (decide ((lI s1 2) < ((lL s1 0).length : Int))) (chk (0 <= (lI s1 2)) <| idx true q9 (lL s1 0) ((lI s1 2).toNat) fun (e2 : r5_) => F152 _ e2.1 e2.2.1 e2.2.2.1 e2.2.2.2.1 e2.2.2.2.2.1 (lI s1 1) fun n3 => br (decide (n3 < 0)) (some (.inr (0, [.i n3, .i (-1)]))) (some (.inl [.l (lL s1 0), .i n3, .i (IntKind.wrap .i64 ((lI s1 2) + 1))]))) (some (.inr (1, [.i (lI s1 1)])))) [.l a, .i (IntKind.wrap .i64 (left - (a.length : Int))), .i 0] fun r4 => if r4.1 = 0 then k (lI r4.2 1) else k (lI r4.2 0))
def F99 : T99 := P99 F152
def X99 : Exits := fun i => lookN i [] [(5, [(.ret, xk 27 [(1, .int .i64 0), (4, .int .i64 0)] []), (.exit 0, xk 27 [(1, .int .i64 0)] [])])]
abbrev s99 : LSh := [(false, [.sl 5 true]), (false, [.int .i64])]
def G99 (F : T99) : GTy s99 := fun M e k => F M e.1.1 e.2.1.1 (fun y1 => k (.int .i64 y1))
abbrev W99 (F : T99) : WT := wrap s99 (G99 F)
theorem k99 (F152 : T152) : KO [(152, W152 F152)] X99 99 f99 s99 (G99 (P99 F152)) := fun _ _ _ => by kernel_rfl
theorem ok99 : FnOk D 99 (W99 F99) := oW func99 (tc ok152 tn) (k99 F152)
abbrev T100 := T146
def P100 (F71 : T71) : T100 := fun M a left k => br (decide (IntKind.wrap .i64 (left - (a.length : Int)) < 0)) (k (-1)) (whileK (fun s1 => br (decide ((lI s1 2) < ((lL s1 0).length : Int))) (chk (0 <= (lI s1 2)) <| idx true [.str, .str] (lL s1 0) ((lI s1 2).toNat) fun (e2 : r11_) => F71 _ e2.1 e2.2.1 (lI s1 1) fun n3 => br (decide (n3 < 0)) (some (.inr (0, [.i n3, .i (-1)]))) (some (.inl [.l (lL s1 0), .i n3, .i (IntKind.wrap .i64 ((lI s1 2) + 1))]))) (some (.inr (1, [.i (lI s1 1)])))) [.l a, .i (IntKind.wrap .i64 (left - (a.length : Int))), .i 0] fun r4 => if r4.1 = 0 then k (lI r4.2 1) else k (lI r4.2 0))
def F100 : T100 := P100 F71
def X100 : Exits := fun i => lookN i [] [(5, [(.ret, xk 27 [(1, .int .i64 0), (4, .int .i64 0)] []), (.exit 0, xk 27 [(1, .int .i64 0)] [])])]
abbrev s100 : LSh := s190
abbrev G100 := G190
abbrev W100 (F : T100) : WT := wrap s100 (G100 F)
theorem k100 (F71 : T71) : KO [(71, W71 F71)] X100 100 f100 s100 (G100 (P100 F71)) := fun _ _ _ => by kernel_rfl
theorem ok100 : FnOk D 100 (W100 F100) := oW func100 (tc ok71 tn) (k100 F71)
abbrev T54 := (M : Type) -> LU -> LU -> Bool -> LsV -> LsV -> LsV -> LU -> LU -> LsV -> Bool -> LsV -> LsV -> LsV -> LsV -> LsV -> Int -> Int -> Int -> Int -> LsV -> LsV -> Bool -> Int -> (Int -> Option M) -> Option M
def P54 (F71 : T71) (F94 : T94) (F95 : T95) (F96 : T96) (F97 : T97) (F98 : T98) (F99 : T99) (F100 : T100) (F101 : T101) : T54 := fun M a b c d f g h i j s l m n o p t u v w q r x left k => F71 _ a b left fun n1 => br (decide (n1 < 0)) (k (-1)) (F94 _ c d f g h n1 fun n2 => br (decide (n2 < 0)) (k (-1)) (F95 _ i n2 fun n3 => br (decide (n3 < 0)) (k (-1)) (F96 _ j n3 fun n4 => br (decide (n4 < 0)) (k (-1)) (F97 _ l m n4 fun n5 => br (decide (n5 < 0)) (k (-1)) (F98 _ n n5 fun n6 => br (decide (n6 < 0)) (k (-1)) (F99 _ o n6 fun n7 => br (decide (n7 < 0)) (k (-1)) (F100 _ p n7 fun n8 => br (decide (n8 < 0)) (k (-1)) (F100 _ q n8 fun n9 => br (decide (n9 < 0)) (k (-1)) (F101 _ r n9 fun n10 => br (decide (n10 < 0)) (k (-1)) (k n10))))))))))
def F54 : T54 := P54 F71 F94 F95 F96 F97 F98 F99 F100 F101
abbrev s54 : LSh := [(true, q2), (false, [.int .i64])]
def G54 (F : T54) : GTy s54 := fun M e k => let a:=e.1;let b:=a.2;let c:=b.2;let d:=c.2;let f:=d.2;let g:=f.2;let h:=g.2;let i:=h.2;let j:=i.2;let l:=j.2;let m:=l.2;let n:=m.2;let o:=n.2;let p:=o.2;let q:=p.2;let r:=q.2;let s:=r.2;let t:=s.2;let u:=t.2;let v:=u.2;let w:=v.2;let x:=w.2;F M a.1 b.1 c.1 d.1 f.1 g.1 h.1 i.1 j.1 l.1 m.1 n.1 o.1 p.1 q.1 r.1 s.1 t.1 u.1 v.1 w.1 x.1 e.2.1.1 (fun y1 => k (.int .i64 y1))
abbrev W54 (F : T54) : WT := wrap s54 (G54 F)
theorem k54 (F71 : T71) (F94 : T94) (F95 : T95) (F96 : T96) (F97 : T97) (F98 : T98) (F99 : T99) (F100 : T100) (F101 : T101) : KO [(71, W71 F71), (94, W94 F94), (95, W95 F95), (96, W96 F96), (97, W97 F97), (98, W98 F98), (99, W99 F99), (100, W100 F100), (101, W101 F101)] noX 54 f54 s54 (G54 (P54 F71 F94 F95 F96 F97 F98 F99 F100 F101)) := fun _ _ _ => by kernel_rfl
theorem ok54 : FnOk D 54 (W54 F54) := oW func54 (tc ok71 (tc ok94 (tc ok95 (tc ok96 (tc ok97 (tc ok98 (tc ok99 (tc ok100 (tc ok101 tn))))))))) (k54 F71 F94 F95 F96 F97 F98 F99 F100 F101)
abbrev T34 := (M : Type) -> LU -> LU -> LU -> LU -> Bool -> LsV -> LsV -> LsV -> LU -> LU -> LsV -> Bool -> LsV -> LsV -> LsV -> LsV -> LsV -> Int -> Int -> Int -> Int -> LsV -> LsV -> Bool -> Bool -> Int -> (Int -> Option M) -> Option M
def P34 (F71 : T71) (F54 : T54) : T34 := fun M a b c d f g h i j l m n o p q r s t u v w x y z a1 left k => F71 _ a b left fun n1 => br (decide (n1 < 0)) (k (-1)) (F54 _ c d f g h i j l m n o p q r s t u v w x y z n1 fun n2 => br (decide (n2 < 0)) (k (-1)) (k n2))
def F34 : T34 := P34 F71 F54
abbrev s34 : LSh := [(true, q1), (false, [.int .i64])]
def G34 (F : T34) : GTy s34 := fun M e k => let a:=e.1;let b:=a.2;let c:=b.2;let d:=c.2;let f:=d.2;let g:=f.2;let h:=g.2;let i:=h.2;let j:=i.2;let l:=j.2;let m:=l.2;let n:=m.2;let o:=n.2;let p:=o.2;let q:=p.2;let r:=q.2;let s:=r.2;let t:=s.2;let u:=t.2;let v:=u.2;let w:=v.2;let x:=w.2;let y:=x.2;let z:=y.2;let a1:=z.2;F M a.1 b.1 c.1 d.1 f.1 g.1 h.1 i.1 j.1 l.1 m.1 n.1 o.1 p.1 q.1 r.1 s.1 t.1 u.1 v.1 w.1 x.1 y.1 z.1 a1.1 e.2.1.1 (fun y1 => k (.int .i64 y1))
abbrev W34 (F : T34) : WT := wrap s34 (G34 F)
theorem k34 (F71 : T71) (F54 : T54) : KO [(71, W71 F71), (54, W54 F54)] noX 34 f34 s34 (G34 (P34 F71 F54)) := fun _ _ _ => by kernel_rfl
theorem ok34 : FnOk D 34 (W34 F34) := oW func34 (tc ok71 (tc ok54 tn)) (k34 F71 F54)
abbrev T15 := T146
def P15 (F34 : T34) : T15 := fun M a left k => br (decide (IntKind.wrap .i64 (left - (a.length : Int)) < 0)) (k (-1)) (whileK (fun s1 => br (decide ((lI s1 2) < ((lL s1 0).length : Int))) (chk (0 <= (lI s1 2)) <| idx true q1 (lL s1 0) ((lI s1 2).toNat) fun (e2 : r10_) => F34 _ e2.1 e2.2.1 e2.2.2.1 e2.2.2.2.1 e2.2.2.2.2.1 e2.2.2.2.2.2.1 e2.2.2.2.2.2.2.1 e2.2.2.2.2.2.2.2.1 e2.2.2.2.2.2.2.2.2.1 e2.2.2.2.2.2.2.2.2.2.1 e2.2.2.2.2.2.2.2.2.2.2.1 e2.2.2.2.2.2.2.2.2.2.2.2.1 e2.2.2.2.2.2.2.2.2.2.2.2.2.1 e2.2.2.2.2.2.2.2.2.2.2.2.2.2.1 e2.2.2.2.2.2.2.2.2.2.2.2.2.2.2.1 e2.2.2.2.2.2.2.2.2.2.2.2.2.2.2.2.1 e2.2.2.2.2.2.2.2.2.2.2.2.2.2.2.2.2.1 e2.2.2.2.2.2.2.2.2.2.2.2.2.2.2.2.2.2.1 e2.2.2.2.2.2.2.2.2.2.2.2.2.2.2.2.2.2.2.1 e2.2.2.2.2.2.2.2.2.2.2.2.2.2.2.2.2.2.2.2.1 e2.2.2.2.2.2.2.2.2.2.2.2.2.2.2.2.2.2.2.2.2.1 e2.2.2.2.2.2.2.2.2.2.2.2.2.2.2.2.2.2.2.2.2.2.1 e2.2.2.2.2.2.2.2.2.2.2.2.2.2.2.2.2.2.2.2.2.2.2.1 e2.2.2.2.2.2.2.2.2.2.2.2.2.2.2.2.2.2.2.2.2.2.2.2.1 e2.2.2.2.2.2.2.2.2.2.2.2.2.2.2.2.2.2.2.2.2.2.2.2.2.1 (lI s1 1) fun n3 => br (decide (n3 < 0)) (some (.inr (0, [.i n3, .i (-1)]))) (some (.inl [.l (lL s1 0), .i n3, .i (IntKind.wrap .i64 ((lI s1 2) + 1))]))) (some (.inr (1, [.i (lI s1 1)])))) [.l a, .i (IntKind.wrap .i64 (left - (a.length : Int))), .i 0] fun r4 => if r4.1 = 0 then k (lI r4.2 1) else k (lI r4.2 0))
def F15 : T15 := P15 F34
def X15 : Exits := fun i => lookN i [] [(5, [(.ret, xk 27 [(1, .int .i64 0), (4, .int .i64 0)] []), (.exit 0, xk 27 [(1, .int .i64 0)] [])])]
abbrev s15 : LSh := [(false, [.sl 25 false]), (false, [.int .i64])]
def G15 (F : T15) : GTy s15 := fun M e k => F M e.1.1 e.2.1.1 (fun y1 => k (.int .i64 y1))
abbrev W15 (F : T15) : WT := wrap s15 (G15 F)
theorem k15 (F34 : T34) : KO [(34, W34 F34)] X15 15 f15 s15 (G15 (P15 F34)) := fun _ _ _ => by kernel_rfl
theorem ok15 : FnOk D 15 (W15 F15) := oW func15 (tc ok34 tn) (k15 F34)
abbrev T5 := (M : Type) -> LsV -> Int -> Int -> (Int -> Option M) -> Option M
def P5 (F15 : T15) : T5 := fun M a b left k => F15 _ a left fun n1 => br (decide (n1 < 0)) (k (-1)) (k n1)
def F5 : T5 := P5 F15
abbrev s5 : LSh := [(true, q13), (false, [.int .i64])]
def G5 (F : T5) : GTy s5 := fun M e k => F M e.1.1 e.1.2.1 e.2.1.1 (fun y1 => k (.int .i64 y1))
abbrev W5 (F : T5) : WT := wrap s5 (G5 F)
theorem k5 (F15 : T15) : KO [(15, W15 F15)] noX 5 f5 s5 (G5 (P5 F15)) := fun _ _ _ => by kernel_rfl
theorem ok5 : FnOk D 5 (W5 F5) := oW func5 (tc ok15 tn) (k5 F15)
abbrev T102 := (M : Type) -> LU -> LU -> Int -> Int -> LU -> Int -> Bool -> LU -> Int -> (Int -> Option M) -> Option M
def P102 (F71 : T71) (F153 : T153) : T102 := fun M a b c d f g h i left k => F71 _ a b left fun n1 => br (decide (n1 < 0)) (k (-1)) (F153 _ c d f g h i n1 fun n2 => br (decide (n2 < 0)) (k (-1)) (k n2))
def F102 : T102 := P102 F71 F153
abbrev s102 : LSh := [(true, q8), (false, [.int .i64])]
def G102 (F : T102) : GTy s102 := fun M e k => let a:=e.1;let b:=a.2;let c:=b.2;let d:=c.2;let f:=d.2;let g:=f.2;let h:=g.2;let i:=h.2;F M a.1 b.1 c.1 d.1 f.1 g.1 h.1 i.1 e.2.1.1 (fun y1 => k (.int .i64 y1))
abbrev W102 (F : T102) : WT := wrap s102 (G102 F)
theorem k102 (F71 : T71) (F153 : T153) : KO [(71, W71 F71), (153, W153 F153)] noX 102 f102 s102 (G102 (P102 F71 F153)) := fun _ _ _ => by kernel_rfl
theorem ok102 : FnOk D 102 (W102 F102) := oW func102 (tc ok71 (tc ok153 tn)) (k102 F71 F153)
abbrev T55 := T146
def P55 (F102 : T102) : T55 := fun M a left k => br (decide (IntKind.wrap .i64 (left - (a.length : Int)) < 0)) (k (-1)) (whileK (fun s1 => br (decide ((lI s1 2) < ((lL s1 0).length : Int))) (chk (0 <= (lI s1 2)) <| idx true q8 (lL s1 0) ((lI s1 2).toNat) fun (e2 : r6_) => F102 _ e2.1 e2.2.1 e2.2.2.1 e2.2.2.2.1 e2.2.2.2.2.1 e2.2.2.2.2.2.1 e2.2.2.2.2.2.2.1 e2.2.2.2.2.2.2.2.1 (lI s1 1) fun n3 => br (decide (n3 < 0)) (some (.inr (0, [.i n3, .i (-1)]))) (some (.inl [.l (lL s1 0), .i n3, .i (IntKind.wrap .i64 ((lI s1 2) + 1))]))) (some (.inr (1, [.i (lI s1 1)])))) [.l a, .i (IntKind.wrap .i64 (left - (a.length : Int))), .i 0] fun r4 => if r4.1 = 0 then k (lI r4.2 1) else k (lI r4.2 0))
def F55 : T55 := P55 F102
def X55 : Exits := fun i => lookN i [] [(5, [(.ret, xk 27 [(1, .int .i64 0), (4, .int .i64 0)] []), (.exit 0, xk 27 [(1, .int .i64 0)] [])])]
abbrev s55 : LSh := s98
abbrev G55 := G98
abbrev W55 (F : T55) : WT := wrap s55 (G55 F)
theorem k55 (F102 : T102) : KO [(102, W102 F102)] X55 55 f55 s55 (G55 (P55 F102)) := fun _ _ _ => by kernel_rfl
theorem ok55 : FnOk D 55 (W55 F55) := oW func55 (tc ok102 tn) (k55 F102)
abbrev T25 := (M : Type) -> Bool -> LU -> LU -> Bool -> LsV -> LsV -> LsV -> LU -> LU -> LsV -> Bool -> LsV -> LsV -> LsV -> LsV -> LsV -> Int -> Int -> Int -> Int -> LsV -> LsV -> Bool -> LsV -> LsV -> Int -> Int -> (Int -> Option M) -> Option M
def P25 (F54 : T54) (F55 : T55) (F51 : T51) : T25 := fun M a1 a b c d f g h i j l m n o p q r s t u v w x y z b1 left k => F54 _ a b c d f g h i j l m n o p q r s t u v w x left fun n1 => br (decide (n1 < 0)) (k (-1)) (F55 _ y n1 fun n2 => br (decide (n2 < 0)) (k (-1)) (F51 _ z n2 fun n3 => br (decide (n3 < 0)) (k (-1)) (k n3)))
def F25 : T25 := P25 F54 F55 F51
abbrev s25 : LSh := [(true, q4), (false, [.int .i64])]
def G25 (F : T25) : GTy s25 := fun M e k => let a:=e.1;let b:=a.2;let c:=b.2;let d:=c.2;let f:=d.2;let g:=f.2;let h:=g.2;let i:=h.2;let j:=i.2;let l:=j.2;let m:=l.2;let n:=m.2;let o:=n.2;let p:=o.2;let q:=p.2;let r:=q.2;let s:=r.2;let t:=s.2;let u:=t.2;let v:=u.2;let w:=v.2;let x:=w.2;let y:=x.2;let z:=y.2;let a1:=z.2;let b1:=a1.2;F M a.1 b.1 c.1 d.1 f.1 g.1 h.1 i.1 j.1 l.1 m.1 n.1 o.1 p.1 q.1 r.1 s.1 t.1 u.1 v.1 w.1 x.1 y.1 z.1 a1.1 b1.1 e.2.1.1 (fun y1 => k (.int .i64 y1))
abbrev W25 (F : T25) : WT := wrap s25 (G25 F)
theorem k25 (F54 : T54) (F55 : T55) (F51 : T51) : KO [(54, W54 F54), (55, W55 F55), (51, W51 F51)] noX 25 f25 s25 (G25 (P25 F54 F55 F51)) := fun _ _ _ => by kernel_rfl
theorem ok25 : FnOk D 25 (W25 F25) := oW func25 (tc ok54 (tc ok55 (tc ok51 tn))) (k25 F54 F55 F51)
abbrev T10 := (M : Type) -> LsV -> LsV -> LsV -> Int -> LsV -> Int -> Bool -> LU -> LU -> Bool -> LsV -> LsV -> LsV -> LU -> LU -> LsV -> Bool -> LsV -> LsV -> LsV -> LsV -> LsV -> Int -> Int -> Int -> Int -> LsV -> LsV -> Bool -> LsV -> LsV -> Int -> Bool -> Int -> (Int -> Option M) -> Option M
def P10 (F24 : T24) (F5 : T5) (F25 : T25) : T10 := fun M a b c d f g h i j l m n o p q r s t u v w x y z a1 b1 c1 d1 f1 g1 h1 i1 j1 left k => F24 _ a b c d left fun n1 => br (decide (n1 < 0)) (k (-1)) (F5 _ f g n1 fun n2 => br (decide (n2 < 0)) (k (-1)) (F25 _ h i j l m n o p q r s t u v w x y z a1 b1 c1 d1 f1 g1 h1 i1 n2 fun n3 => br (decide (n3 < 0)) (k (-1)) (k n3)))
def F10 : T10 := P10 F24 F5 F25
abbrev s10 : LSh := [(true, q0), (false, [.int .i64])]
def G10 (F : T10) : GTy s10 := fun M e k => let a:=e.1;let b:=a.2;let c:=b.2;let d:=c.2;let f:=d.2;let g:=f.2;let h:=g.2;let i:=h.2;let j:=i.2;let l:=j.2;let m:=l.2;let n:=m.2;let o:=n.2;let p:=o.2;let q:=p.2;let r:=q.2;let s:=r.2;let t:=s.2;let u:=t.2;let v:=u.2;let w:=v.2;let x:=w.2;let y:=x.2;let z:=y.2;let a1:=z.2;let b1:=a1.2;let c1:=b1.2;let d1:=c1.2;let f1:=d1.2;let g1:=f1.2;let h1:=g1.2;let i1:=h1.2;let j1:=i1.2;F M a.1 b.1 c.1 d.1 f.1 g.1 h.1 i.1 j.1 l.1 m.1 n.1 o.1 p.1 q.1 r.1 s.1 t.1 u.1 v.1 w.1 x.1 y.1 z.1 a1.1 b1.1 c1.1 d1.1 f1.1 g1.1 h1.1 i1.1 j1.1 e.2.1.1 (fun y1 => k (.int .i64 y1))
abbrev W10 (F : T10) : WT := wrap s10 (G10 F)
theorem k10 (F24 : T24) (F5 : T5) (F25 : T25) : KO [(24, W24 F24), (5, W5 F5), (25, W25 F25)] noX 10 f10 s10 (G10 (P10 F24 F5 F25)) := fun _ _ _ => by kernel_rfl
theorem ok10 : FnOk D 10 (W10 F10) := oW func10 (tc ok24 (tc ok5 (tc ok25 tn))) (k10 F24 F5 F25)
abbrev T161 := (M : Type) -> Int -> Int -> LU -> Int -> Bool -> LU -> (Int -> Int -> LU -> Int -> Bool -> LU -> Option M) -> Option M
def P161 : T161 := fun M a b c d f g k => k a b c d f g
def F161 : T161 := P161
abbrev s161 : LSh := [(true, q14)]
def G161 (F : T161) : GTy s161 := fun M e k => let a:=e.1;let b:=a.2;let c:=b.2;let d:=c.2;let f:=d.2;let g:=f.2;F M a.1 b.1 c.1 d.1 f.1 g.1 (fun y1 y2 y3 y4 y5 y6 => k (.agg [.int .i64 y1, .int .i64 y2, .str y3, .int .i64 y4, .bool y5, .str y6]))
abbrev W161 (F : T161) : WT := wrap s161 (G161 F)
theorem k161 : KO [] noX 161 f161 s161 (G161 (P161)) := fun _ _ _ => by kernel_rfl
theorem ok161 : FnOk D 161 (W161 F161) := oW func161 tn (k161)
abbrev T192 := (M : Type) -> LU -> Int -> Int -> LU -> Int -> Bool -> LU -> (LU -> Int -> Int -> LU -> Int -> Bool -> LU -> Option M) -> Option M
def P192 (F161 : T161) : T192 := fun M a b c d f g h k => F161 _ b c d f g h fun n1 n2 t3 n4 b5 t6 => k a n1 n2 t3 n4 b5 t6
def F192 : T192 := P192 F161
abbrev s192 : LSh := [(true, q6)]
def G192 (F : T192) : GTy s192 := fun M e k => let a:=e.1;let b:=a.2;let c:=b.2;let d:=c.2;let f:=d.2;let g:=f.2;let h:=g.2;F M a.1 b.1 c.1 d.1 f.1 g.1 h.1 (fun y1 y2 y3 y4 y5 y6 y7 => k (.agg [.str y1, .int .i64 y2, .int .i64 y3, .str y4, .int .i64 y5, .bool y6, .str y7]))
abbrev W192 (F : T192) : WT := wrap s192 (G192 F)
theorem k192 (F161 : T161) : KO [(161, W161 F161)] noX 192 f192 s192 (G192 (P192 F161)) := fun _ _ _ => by kernel_rfl
theorem ok192 : FnOk D 192 (W192 F192) := oW func192 (tc ok161 tn) (k192 F161)
abbrev T154 := (M : Type) -> LsV -> (LsV -> Option M) -> Option M
def P154 (F192 : T192) : T154 := fun M a k => chk (0 <= (a.length : Int) /\ (a.length : Int) <= (a.length : Int) /\ (a.length : Int) * 80 <= 140737488355328 /\ (a.length : Int) <= 140737488355328) <| whileK (fun s1 => br (decide ((lI s1 2) < ((lL s1 0).length : Int))) (chk (0 <= (lI s1 2)) <| idx true q6 (lL s1 0) ((lI s1 2).toNat) fun (e2 : r3_) => F192 _ e2.1 e2.2.1 e2.2.2.1 e2.2.2.2.1 e2.2.2.2.2.1 e2.2.2.2.2.2.1 e2.2.2.2.2.2.2.1 fun t3 n4 n5 t6 n7 b8 t9 => chk (0 <= (lI s1 2) /\ (lI s1 2).toNat < (lL s1 1).length) <| storeO (lL s1 1) ((lI s1 2).toNat) 0 [.str t3, .int .i64 n4, .int .i64 n5, .str t6, .int .i64 n7, .bool b8, .str t9] fun l10 => some (.inl [.l (lL s1 0), .l l10, .i (IntKind.wrap .i64 ((lI s1 2) + 1))])) (some (.inr (0, [.l (lL s1 1)])))) [.l a, .l (List.replicate ((a.length : Int).toNat) (.agg [.str [], .int .i64 0, .int .i64 0, .str [], .int .i64 0, .bool false, .str []])), .i 0] fun r11 => k (lL r11.2 0)
def F154 : T154 := P154 F192
def X154 : Exits := fun i => lookN i [] [(3, [(.exit 0, xk 23 [(3, .own 1000000 7 .flat [])] [])])]
abbrev s154 : LSh := [(false, [.sl 7 true])]
def G154 (F : T154) : GTy s154 := fun M e k => F M e.1.1 (fun y1 => k (.own 0 7 .flat y1))
abbrev W154 (F : T154) : WT := wrap s154 (G154 F)
theorem k154 (F192 : T192) : KO [(192, W192 F192)] X154 154 f154 s154 (G154 (P154 F192)) := fun _ _ _ => by kernel_rfl
theorem ok154 : FnOk D 154 (W154 F154) := oW func154 (tc ok192 tn) (k154 F192)
abbrev T103 := (M : Type) -> LU -> LsV -> (LU -> LsV -> Option M) -> Option M
def P103 (F154 : T154) : T103 := fun M a b k => F154 _ b fun l1 => k a l1
def F103 : T103 := P103 F154
abbrev s103 : LSh := [(true, [.str, .sl 7 true])]
def G103 (F : T103) : GTy s103 := fun M e k => F M e.1.1 e.1.2.1 (fun y1 y2 => k (.agg [.str y1, .own 1 7 .flat y2]))
abbrev W103 (F : T103) : WT := wrap s103 (G103 F)
theorem k103 (F154 : T154) : KO [(154, W154 F154)] noX 103 f103 s103 (G103 (P103 F154)) := fun _ _ _ => by kernel_rfl
theorem ok103 : FnOk D 103 (W103 F103) := oW func103 (tc ok154 tn) (k103 F154)
abbrev T57 := T154
def P57 (F103 : T103) : T57 := fun M a k => chk (0 <= (a.length : Int) /\ (a.length : Int) <= (a.length : Int) /\ (a.length : Int) * 40 <= 140737488355328 /\ (a.length : Int) <= 140737488355328) <| whileK (fun s1 => br (decide ((lI s1 2) < ((lL s1 0).length : Int))) (chk (0 <= (lI s1 2)) <| idx true [.str, .sl 7 true] (lL s1 0) ((lI s1 2).toNat) fun (e2 : r12_) => F103 _ e2.1 e2.2.1 fun t3 l4 => chk (0 <= (lI s1 2) /\ (lI s1 2).toNat < (lL s1 1).length) <| storeO (lL s1 1) ((lI s1 2).toNat) 0 [.str t3, .sl 7 true l4] fun l5 => some (.inl [.l (lL s1 0), .l l5, .i (IntKind.wrap .i64 ((lI s1 2) + 1))])) (some (.inr (0, [.l (lL s1 1)])))) [.l a, .l (List.replicate ((a.length : Int).toNat) (.agg [.str [], .sl 7 true []])), .i 0] fun r6 => k (lL r6.2 0)
def F57 : T57 := P57 F103
def X57 : Exits := fun i => lookN i [] [(3, [(.exit 0, xk 23 [(3, .own 1000000 2 .clean [])] [])])]
abbrev s57 : LSh := [(false, [.sl 2 false])]
def G57 (F : T57) : GTy s57 := fun M e k => F M e.1.1 (fun y1 => k (.own 0 2 .clean y1))
abbrev W57 (F : T57) : WT := wrap s57 (G57 F)
theorem k57 (F103 : T103) : KO [(103, W103 F103)] X57 57 f57 s57 (G57 (P57 F103)) := fun _ _ _ => by kernel_rfl
theorem ok57 : FnOk D 57 (W57 F57) := oW func57 (tc ok103 tn) (k57 F103)
abbrev T79 := (M : Type) -> LU -> LU -> (LU -> LU -> Option M) -> Option M
def P79 : T79 := fun M a b k => k a b
def F79 : T79 := P79
abbrev s79 : LSh := [(true, [.str, .str])]
def G79 (F : T79) : GTy s79 := fun M e k => F M e.1.1 e.1.2.1 (fun y1 y2 => k (.agg [.str y1, .str y2]))
abbrev W79 (F : T79) : WT := wrap s79 (G79 F)
theorem k79 : KO [] noX 79 f79 s79 (G79 (P79)) := fun _ _ _ => by kernel_rfl
theorem ok79 : FnOk D 79 (W79 F79) := oW func79 tn (k79)
abbrev T155 := (M : Type) -> LU -> LU -> LU -> Int -> Int -> LU -> Int -> Bool -> LU -> Int -> (LU -> LU -> LU -> Int -> Int -> LU -> Int -> Bool -> LU -> Int -> Option M) -> Option M
def P155 (F79 : T79) (F161 : T161) : T155 := fun M a b c d f g h i j l k => F79 _ b c fun t1 t2 => F161 _ d f g h i j fun n3 n4 t5 n6 b7 t8 => k a t1 t2 n3 n4 t5 n6 b7 t8 l
def F155 : T155 := P155 F79 F161
abbrev s155 : LSh := [(true, q3)]
def G155 (F : T155) : GTy s155 := fun M e k => let a:=e.1;let b:=a.2;let c:=b.2;let d:=c.2;let f:=d.2;let g:=f.2;let h:=g.2;let i:=h.2;let j:=i.2;let l:=j.2;F M a.1 b.1 c.1 d.1 f.1 g.1 h.1 i.1 j.1 l.1 (fun y1 y2 y3 y4 y5 y6 y7 y8 y9 y10 => k (.agg [.str y1, .str y2, .str y3, .int .i64 y4, .int .i64 y5, .str y6, .int .i64 y7, .bool y8, .str y9, .int .i64 y10]))
abbrev W155 (F : T155) : WT := wrap s155 (G155 F)
theorem k155 (F79 : T79) (F161 : T161) : KO [(79, W79 F79), (161, W161 F161)] noX 155 f155 s155 (G155 (P155 F79 F161)) := fun _ _ _ => by kernel_rfl
theorem ok155 : FnOk D 155 (W155 F155) := oW func155 (tc ok79 (tc ok161 tn)) (k155 F79 F161)
abbrev T104 := T154
def P104 (F155 : T155) : T104 := fun M a k => chk (0 <= (a.length : Int) /\ (a.length : Int) <= (a.length : Int) /\ (a.length : Int) * 120 <= 140737488355328 /\ (a.length : Int) <= 140737488355328) <| whileK (fun s1 => br (decide ((lI s1 2) < ((lL s1 0).length : Int))) (chk (0 <= (lI s1 2)) <| idx true q3 (lL s1 0) ((lI s1 2).toNat) fun (e2 : r9_) => F155 _ e2.1 e2.2.1 e2.2.2.1 e2.2.2.2.1 e2.2.2.2.2.1 e2.2.2.2.2.2.1 e2.2.2.2.2.2.2.1 e2.2.2.2.2.2.2.2.1 e2.2.2.2.2.2.2.2.2.1 e2.2.2.2.2.2.2.2.2.2.1 fun t3 t4 t5 n6 n7 t8 n9 b10 t11 n12 => chk (0 <= (lI s1 2) /\ (lI s1 2).toNat < (lL s1 1).length) <| storeO (lL s1 1) ((lI s1 2).toNat) 0 [.str t3, .str t4, .str t5, .int .i64 n6, .int .i64 n7, .str t8, .int .i64 n9, .bool b10, .str t11, .int .i64 n12] fun l13 => some (.inl [.l (lL s1 0), .l l13, .i (IntKind.wrap .i64 ((lI s1 2) + 1))])) (some (.inr (0, [.l (lL s1 1)])))) [.l a, .l (List.replicate ((a.length : Int).toNat) (.agg [.str [], .str [], .str [], .int .i64 0, .int .i64 0, .str [], .int .i64 0, .bool false, .str [], .int .i64 0])), .i 0] fun r14 => k (lL r14.2 0)
def F104 : T104 := P104 F155
def X104 : Exits := fun i => lookN i [] [(3, [(.exit 0, xk 23 [(3, .own 1000000 10 .flat [])] [])])]
abbrev s104 : LSh := [(false, [.sl 10 true])]
def G104 (F : T104) : GTy s104 := fun M e k => F M e.1.1 (fun y1 => k (.own 0 10 .flat y1))
abbrev W104 (F : T104) : WT := wrap s104 (G104 F)
theorem k104 (F155 : T155) : KO [(155, W155 F155)] X104 104 f104 s104 (G104 (P104 F155)) := fun _ _ _ => by kernel_rfl
theorem ok104 : FnOk D 104 (W104 F104) := oW func104 (tc ok155 tn) (k104 F155)
abbrev T58 := T154
def P58 (F104 : T104) : T58 := fun M a k => F104 _ a fun l1 => k l1
def F58 : T58 := P58 F104
abbrev s58 : LSh := [(true, [.sl 10 true])]
def G58 (F : T58) : GTy s58 := fun M e k => F M e.1.1 (fun y1 => k (.agg [.own 0 10 .flat y1]))
abbrev W58 (F : T58) : WT := wrap s58 (G58 F)
theorem k58 (F104 : T104) : KO [(104, W104 F104)] noX 58 f58 s58 (G58 (P58 F104)) := fun _ _ _ => by kernel_rfl
theorem ok58 : FnOk D 58 (W58 F58) := oW func58 (tc ok104 tn) (k58 F104)
abbrev T105 := (M : Type) -> LU -> LU -> LU -> Bool -> (LU -> LU -> LU -> Bool -> Option M) -> Option M
def P105 (F79 : T79) : T105 := fun M a b c d k => F79 _ b c fun t1 t2 => k a t1 t2 d
def F105 : T105 := P105 F79
abbrev s105 : LSh := [(true, q15)]
def G105 (F : T105) : GTy s105 := fun M e k => F M e.1.1 e.1.2.1 e.1.2.2.1 e.1.2.2.2.1 (fun y1 y2 y3 y4 => k (.agg [.str y1, .str y2, .str y3, .bool y4]))
abbrev W105 (F : T105) : WT := wrap s105 (G105 F)
theorem k105 (F79 : T79) : KO [(79, W79 F79)] noX 105 f105 s105 (G105 (P105 F79)) := fun _ _ _ => by kernel_rfl
theorem ok105 : FnOk D 105 (W105 F105) := oW func105 (tc ok79 tn) (k105 F79)
abbrev T59 := T154
def P59 (F105 : T105) : T59 := fun M a k => chk (0 <= (a.length : Int) /\ (a.length : Int) <= (a.length : Int) /\ (a.length : Int) * 56 <= 140737488355328 /\ (a.length : Int) <= 140737488355328) <| whileK (fun s1 => br (decide ((lI s1 2) < ((lL s1 0).length : Int))) (chk (0 <= (lI s1 2)) <| idx true q15 (lL s1 0) ((lI s1 2).toNat) fun (e2 : r8_) => F105 _ e2.1 e2.2.1 e2.2.2.1 e2.2.2.2.1 fun t3 t4 t5 b6 => chk (0 <= (lI s1 2) /\ (lI s1 2).toNat < (lL s1 1).length) <| storeO (lL s1 1) ((lI s1 2).toNat) 0 [.str t3, .str t4, .str t5, .bool b6] fun l7 => some (.inl [.l (lL s1 0), .l l7, .i (IntKind.wrap .i64 ((lI s1 2) + 1))])) (some (.inr (0, [.l (lL s1 1)])))) [.l a, .l (List.replicate ((a.length : Int).toNat) (.agg [.str [], .str [], .str [], .bool false])), .i 0] fun r8 => k (lL r8.2 0)
def F59 : T59 := P59 F105
def X59 : Exits := fun i => lookN i [] [(3, [(.exit 0, xk 23 [(3, .own 1000000 4 .flat [])] [])])]
abbrev s59 : LSh := [(false, [.sl 4 true])]
def G59 (F : T59) : GTy s59 := fun M e k => F M e.1.1 (fun y1 => k (.own 0 4 .flat y1))
abbrev W59 (F : T59) : WT := wrap s59 (G59 F)
theorem k59 (F105 : T105) : KO [(105, W105 F105)] X59 59 f59 s59 (G59 (P59 F105)) := fun _ _ _ => by kernel_rfl
theorem ok59 : FnOk D 59 (W59 F59) := oW func59 (tc ok105 tn) (k59 F105)
abbrev T28 := (M : Type) -> LsV -> LsV -> LsV -> Int -> (LsV -> LsV -> LsV -> Int -> Option M) -> Option M
def P28 (F57 : T57) (F58 : T58) (F59 : T59) : T28 := fun M a b c d k => F57 _ a fun l1 => F58 _ b fun l2 => F59 _ c fun l3 => k l1 l2 l3 d
def F28 : T28 := P28 F57 F58 F59
abbrev s28 : LSh := [(true, q16)]
def G28 (F : T28) : GTy s28 := fun M e k => F M e.1.1 e.1.2.1 e.1.2.2.1 e.1.2.2.2.1 (fun y1 y2 y3 y4 => k (.agg [.own 0 2 .clean y1, .own 1 10 .flat y2, .own 2 4 .flat y3, .int .i64 y4]))
abbrev W28 (F : T28) : WT := wrap s28 (G28 F)
theorem k28 (F57 : T57) (F58 : T58) (F59 : T59) : KO [(57, W57 F57), (58, W58 F58), (59, W59 F59)] noX 28 f28 s28 (G28 (P28 F57 F58 F59)) := fun _ _ _ => by kernel_rfl
theorem ok28 : FnOk D 28 (W28 F28) := oW func28 (tc ok57 (tc ok58 (tc ok59 tn))) (k28 F57 F58 F59)
abbrev T113 := T154
def P113 : T113 := fun M a k => chk (0 <= (a.length : Int) /\ (a.length : Int) <= (a.length : Int) /\ (a.length : Int) * 16 <= 140737488355328 /\ (a.length : Int) <= 140737488355328) <| whileK (fun s1 => br (decide ((lI s1 2) < ((lL s1 0).length : Int))) (chk (0 <= (lI s1 2)) <| idx false [.str] (lL s1 0) ((lI s1 2).toNat) fun (e2 : r13_) => chk (0 <= (lI s1 2) /\ (lI s1 2).toNat < (lL s1 1).length) <| storeO (lL s1 1) ((lI s1 2).toNat) 0 [.str e2.1] fun l3 => some (.inl [.l (lL s1 0), .l l3, .i (IntKind.wrap .i64 ((lI s1 2) + 1))])) (some (.inr (0, [.l (lL s1 1)])))) [.l a, .l (List.replicate ((a.length : Int).toNat) (.str [])), .i 0] fun r4 => k (lL r4.2 0)
def F113 : T113 := P113
def X113 : Exits := fun i => lookN i [] [(3, [(.exit 0, xk 22 [(3, .own 1000000 1 .flat [])] [])])]
abbrev s113 : LSh := [(false, [.sl 1 true])]
def G113 (F : T113) : GTy s113 := fun M e k => F M e.1.1 (fun y1 => k (.own 0 1 .flat y1))
abbrev W113 (F : T113) : WT := wrap s113 (G113 F)
theorem k113 : KO [] X113 113 f113 s113 (G113 (P113)) := fun _ _ _ => by kernel_rfl
theorem ok113 : FnOk D 113 (W113 F113) := oW func113 tn (k113)
abbrev T106 := (M : Type) -> Bool -> LsV -> LsV -> LsV -> LU -> (Bool -> LsV -> LsV -> LsV -> LU -> Option M) -> Option M
def P106 (F113 : T113) : T106 := fun M a b c d f k => F113 _ b fun l1 => F113 _ c fun l2 => F113 _ d fun l3 => k a l1 l2 l3 f
def F106 : T106 := P106 F113
abbrev s106 : LSh := [(true, q17)]
def G106 (F : T106) : GTy s106 := fun M e k => let a:=e.1;let b:=a.2;let c:=b.2;let d:=c.2;let f:=d.2;F M a.1 b.1 c.1 d.1 f.1 (fun y1 y2 y3 y4 y5 => k (.agg [.bool y1, .own 1 1 .flat y2, .own 2 1 .flat y3, .own 3 1 .flat y4, .str y5]))
abbrev W106 (F : T106) : WT := wrap s106 (G106 F)
theorem k106 (F113 : T113) : KO [(113, W113 F113)] noX 106 f106 s106 (G106 (P106 F113)) := fun _ _ _ => by kernel_rfl
theorem ok106 : FnOk D 106 (W106 F106) := oW func106 (tc ok113 tn) (k106 F113)
abbrev T107 := (M : Type) -> LU -> (LU -> Option M) -> Option M
def P107 : T107 := fun M a k => k a
def F107 : T107 := P107
abbrev s107 : LSh := [(true, [.str])]
def G107 (F : T107) : GTy s107 := fun M e k => F M e.1.1 (fun y1 => k (.agg [.str y1]))
abbrev W107 (F : T107) : WT := wrap s107 (G107 F)
theorem k107 : KO [] noX 107 f107 s107 (G107 (P107)) := fun _ _ _ => by kernel_rfl
theorem ok107 : FnOk D 107 (W107 F107) := oW func107 tn (k107)
abbrev T212 := T79
def P212 : T212 := fun M a b k => k a b
def F212 : T212 := P212
abbrev s212 : LSh := s79
abbrev G212 := G79
abbrev W212 (F : T212) : WT := wrap s212 (G212 F)
theorem k212 : KO [] noX 212 f212 s212 (G212 (P212)) := fun _ _ _ => by kernel_rfl
theorem ok212 : FnOk D 212 (W212 F212) := oW func212 tn (k212)
abbrev T193 := T154
def P193 (F212 : T212) : T193 := fun M a k => chk (0 <= (a.length : Int) /\ (a.length : Int) <= (a.length : Int) /\ (a.length : Int) * 32 <= 140737488355328 /\ (a.length : Int) <= 140737488355328) <| whileK (fun s1 => br (decide ((lI s1 2) < ((lL s1 0).length : Int))) (chk (0 <= (lI s1 2)) <| idx true [.str, .str] (lL s1 0) ((lI s1 2).toNat) fun (e2 : r11_) => F212 _ e2.1 e2.2.1 fun t3 t4 => chk (0 <= (lI s1 2) /\ (lI s1 2).toNat < (lL s1 1).length) <| storeO (lL s1 1) ((lI s1 2).toNat) 0 [.str t3, .str t4] fun l5 => some (.inl [.l (lL s1 0), .l l5, .i (IntKind.wrap .i64 ((lI s1 2) + 1))])) (some (.inr (0, [.l (lL s1 1)])))) [.l a, .l (List.replicate ((a.length : Int).toNat) (.agg [.str [], .str []])), .i 0] fun r6 => k (lL r6.2 0)
def F193 : T193 := P193 F212
def X193 : Exits := fun i => lookN i [] [(3, [(.exit 0, xk 23 [(3, .own 1000000 2 .flat [])] [])])]
abbrev s193 : LSh := [(false, [.sl 2 true])]
def G193 (F : T193) : GTy s193 := fun M e k => F M e.1.1 (fun y1 => k (.own 0 2 .flat y1))
abbrev W193 (F : T193) : WT := wrap s193 (G193 F)
theorem k193 (F212 : T212) : KO [(212, W212 F212)] X193 193 f193 s193 (G193 (P193 F212)) := fun _ _ _ => by kernel_rfl
theorem ok193 : FnOk D 193 (W193 F193) := oW func193 (tc ok212 tn) (k193 F212)
abbrev T156 := (M : Type) -> Int -> LU -> LsV -> LU -> (Int -> LU -> LsV -> LU -> Option M) -> Option M
def P156 (F193 : T193) : T156 := fun M a b c d k => F193 _ c fun l1 => k a b l1 d
def F156 : T156 := P156 F193
abbrev s156 : LSh := [(true, q10)]
def G156 (F : T156) : GTy s156 := fun M e k => F M e.1.1 e.1.2.1 e.1.2.2.1 e.1.2.2.2.1 (fun y1 y2 y3 y4 => k (.agg [.int .i64 y1, .str y2, .own 2 2 .flat y3, .str y4]))
abbrev W156 (F : T156) : WT := wrap s156 (G156 F)
theorem k156 (F193 : T193) : KO [(193, W193 F193)] noX 156 f156 s156 (G156 (P156 F193)) := fun _ _ _ => by kernel_rfl
theorem ok156 : FnOk D 156 (W156 F156) := oW func156 (tc ok193 tn) (k156 F193)
abbrev T108 := T154
def P108 (F156 : T156) : T108 := fun M a k => chk (0 <= (a.length : Int) /\ (a.length : Int) <= (a.length : Int) /\ (a.length : Int) * 64 <= 140737488355328 /\ (a.length : Int) <= 140737488355328) <| whileK (fun s1 => br (decide ((lI s1 2) < ((lL s1 0).length : Int))) (chk (0 <= (lI s1 2)) <| idx true q10 (lL s1 0) ((lI s1 2).toNat) fun (e2 : r1_) => F156 _ e2.1 e2.2.1 e2.2.2.1 e2.2.2.2.1 fun n3 t4 l5 t6 => chk (0 <= (lI s1 2) /\ (lI s1 2).toNat < (lL s1 1).length) <| storeO (lL s1 1) ((lI s1 2).toNat) 0 [.int .i64 n3, .str t4, .sl 2 true l5, .str t6] fun l7 => some (.inl [.l (lL s1 0), .l l7, .i (IntKind.wrap .i64 ((lI s1 2) + 1))])) (some (.inr (0, [.l (lL s1 1)])))) [.l a, .l (List.replicate ((a.length : Int).toNat) (.agg [.int .i64 0, .str [], .sl 2 true [], .str []])), .i 0] fun r8 => k (lL r8.2 0)
def F108 : T108 := P108 F156
def X108 : Exits := fun i => lookN i [] [(3, [(.exit 0, xk 23 [(3, .own 1000000 4 .clean [])] [])])]
abbrev s108 : LSh := [(false, [.sl 4 false])]
def G108 (F : T108) : GTy s108 := fun M e k => F M e.1.1 (fun y1 => k (.own 0 4 .clean y1))
abbrev W108 (F : T108) : WT := wrap s108 (G108 F)
theorem k108 (F156 : T156) : KO [(156, W156 F156)] X108 108 f108 s108 (G108 (P108 F156)) := fun _ _ _ => by kernel_rfl
theorem ok108 : FnOk D 108 (W108 F108) := oW func108 (tc ok156 tn) (k108 F156)
abbrev T194 := (M : Type) -> LU -> LU -> Int -> LsV -> (LU -> LU -> Int -> LsV -> Option M) -> Option M
def P194 (F193 : T193) : T194 := fun M a b c d k => F193 _ d fun l1 => k a b c l1
def F194 : T194 := P194 F193
abbrev s194 : LSh := [(true, q7)]
def G194 (F : T194) : GTy s194 := fun M e k => F M e.1.1 e.1.2.1 e.1.2.2.1 e.1.2.2.2.1 (fun y1 y2 y3 y4 => k (.agg [.str y1, .str y2, .int .i64 y3, .own 3 2 .flat y4]))
abbrev W194 (F : T194) : WT := wrap s194 (G194 F)
theorem k194 (F193 : T193) : KO [(193, W193 F193)] noX 194 f194 s194 (G194 (P194 F193)) := fun _ _ _ => by kernel_rfl
theorem ok194 : FnOk D 194 (W194 F194) := oW func194 (tc ok193 tn) (k194 F193)
abbrev T157 := T154
def P157 (F194 : T194) : T157 := fun M a k => chk (0 <= (a.length : Int) /\ (a.length : Int) <= (a.length : Int) /\ (a.length : Int) * 64 <= 140737488355328 /\ (a.length : Int) <= 140737488355328) <| whileK (fun s1 => br (decide ((lI s1 2) < ((lL s1 0).length : Int))) (chk (0 <= (lI s1 2)) <| idx true q7 (lL s1 0) ((lI s1 2).toNat) fun (e2 : r7_) => F194 _ e2.1 e2.2.1 e2.2.2.1 e2.2.2.2.1 fun t3 t4 n5 l6 => chk (0 <= (lI s1 2) /\ (lI s1 2).toNat < (lL s1 1).length) <| storeO (lL s1 1) ((lI s1 2).toNat) 0 [.str t3, .str t4, .int .i64 n5, .sl 2 true l6] fun l7 => some (.inl [.l (lL s1 0), .l l7, .i (IntKind.wrap .i64 ((lI s1 2) + 1))])) (some (.inr (0, [.l (lL s1 1)])))) [.l a, .l (List.replicate ((a.length : Int).toNat) (.agg [.str [], .str [], .int .i64 0, .sl 2 true []])), .i 0] fun r8 => k (lL r8.2 0)
def F157 : T157 := P157 F194
def X157 : Exits := fun i => lookN i [] [(3, [(.exit 0, xk 23 [(3, .own 1000000 4 .clean [])] [])])]
abbrev s157 : LSh := s108
abbrev G157 := G108
abbrev W157 (F : T157) : WT := wrap s157 (G157 F)
theorem k157 (F194 : T194) : KO [(194, W194 F194)] X157 157 f157 s157 (G157 (P157 F194)) := fun _ _ _ => by kernel_rfl
theorem ok157 : FnOk D 157 (W157 F157) := oW func157 (tc ok194 tn) (k157 F194)
abbrev T158 := T154
def P158 : T158 := fun M a k => chk (0 <= (a.length : Int) /\ (a.length : Int) <= (a.length : Int) /\ (a.length : Int) * 8 <= 140737488355328 /\ (a.length : Int) <= 140737488355328) <| whileK (fun s1 => br (decide ((lI s1 2) < ((lL s1 0).length : Int))) (chk (0 <= (lI s1 2)) <| idx false [.int .i64] (lL s1 0) ((lI s1 2).toNat) fun (e2 : Int × Unit) => chk (0 <= (lI s1 2) /\ (lI s1 2).toNat < (lL s1 1).length) <| storeO (lL s1 1) ((lI s1 2).toNat) 0 [.int .i64 e2.1] fun l3 => some (.inl [.l (lL s1 0), .l l3, .i (IntKind.wrap .i64 ((lI s1 2) + 1))])) (some (.inr (0, [.l (lL s1 1)])))) [.l a, .l (List.replicate ((a.length : Int).toNat) (.int .i64 0)), .i 0] fun r4 => k (lL r4.2 0)
def F158 : T158 := P158
def X158 : Exits := fun i => lookN i [] [(3, [(.exit 0, xk 22 [(3, .own 1000000 1 .flat [])] [])])]
abbrev s158 : LSh := s113
abbrev G158 := G113
abbrev W158 (F : T158) : WT := wrap s158 (G158 F)
theorem k158 : KO [] X158 158 f158 s158 (G158 (P158)) := fun _ _ _ => by kernel_rfl
theorem ok158 : FnOk D 158 (W158 F158) := oW func158 tn (k158)
abbrev T109 := (M : Type) -> LsV -> LsV -> (LsV -> LsV -> Option M) -> Option M
def P109 (F157 : T157) (F158 : T158) : T109 := fun M a b k => F157 _ a fun l1 => F158 _ b fun l2 => k l1 l2
def F109 : T109 := P109 F157 F158
abbrev s109 : LSh := [(true, q12)]
def G109 (F : T109) : GTy s109 := fun M e k => F M e.1.1 e.1.2.1 (fun y1 y2 => k (.agg [.own 0 4 .clean y1, .own 1 1 .flat y2]))
abbrev W109 (F : T109) : WT := wrap s109 (G109 F)
theorem k109 (F157 : T157) (F158 : T158) : KO [(157, W157 F157), (158, W158 F158)] noX 109 f109 s109 (G109 (P109 F157 F158)) := fun _ _ _ => by kernel_rfl
theorem ok109 : FnOk D 109 (W109 F109) := oW func109 (tc ok157 (tc ok158 tn)) (k109 F157 F158)
abbrev T159 := (M : Type) -> Int -> LU -> LU -> LU -> Int -> Bool -> Int -> LU -> (Int -> LU -> LU -> LU -> Int -> Bool -> Int -> LU -> Option M) -> Option M
def P159 (F79 : T79) : T159 := fun M a b c d f g h i k => F79 _ b c fun t1 t2 => k a t1 t2 d f g h i
def F159 : T159 := P159 F79
abbrev s159 : LSh := [(true, q5)]
def G159 (F : T159) : GTy s159 := fun M e k => let a:=e.1;let b:=a.2;let c:=b.2;let d:=c.2;let f:=d.2;let g:=f.2;let h:=g.2;let i:=h.2;F M a.1 b.1 c.1 d.1 f.1 g.1 h.1 i.1 (fun y1 y2 y3 y4 y5 y6 y7 y8 => k (.agg [.int .i64 y1, .str y2, .str y3, .str y4, .int .i64 y5, .bool y6, .int .i64 y7, .str y8]))
abbrev W159 (F : T159) : WT := wrap s159 (G159 F)
theorem k159 (F79 : T79) : KO [(79, W79 F79)] noX 159 f159 s159 (G159 (P159 F79)) := fun _ _ _ => by kernel_rfl
theorem ok159 : FnOk D 159 (W159 F159) := oW func159 (tc ok79 tn) (k159 F79)
abbrev T110 := T154
def P110 (F159 : T159) : T110 := fun M a k => chk (0 <= (a.length : Int) /\ (a.length : Int) <= (a.length : Int) /\ (a.length : Int) * 96 <= 140737488355328 /\ (a.length : Int) <= 140737488355328) <| whileK (fun s1 => br (decide ((lI s1 2) < ((lL s1 0).length : Int))) (chk (0 <= (lI s1 2)) <| idx true q5 (lL s1 0) ((lI s1 2).toNat) fun (e2 : r0_) => F159 _ e2.1 e2.2.1 e2.2.2.1 e2.2.2.2.1 e2.2.2.2.2.1 e2.2.2.2.2.2.1 e2.2.2.2.2.2.2.1 e2.2.2.2.2.2.2.2.1 fun n3 t4 t5 t6 n7 b8 n9 t10 => chk (0 <= (lI s1 2) /\ (lI s1 2).toNat < (lL s1 1).length) <| storeO (lL s1 1) ((lI s1 2).toNat) 0 [.int .i64 n3, .str t4, .str t5, .str t6, .int .i64 n7, .bool b8, .int .i64 n9, .str t10] fun l11 => some (.inl [.l (lL s1 0), .l l11, .i (IntKind.wrap .i64 ((lI s1 2) + 1))])) (some (.inr (0, [.l (lL s1 1)])))) [.l a, .l (List.replicate ((a.length : Int).toNat) (.agg [.int .i64 0, .str [], .str [], .str [], .int .i64 0, .bool false, .int .i64 0, .str []])), .i 0] fun r12 => k (lL r12.2 0)
def F110 : T110 := P110 F159
def X110 : Exits := fun i => lookN i [] [(3, [(.exit 0, xk 23 [(3, .own 1000000 8 .flat [])] [])])]
abbrev s110 : LSh := [(false, [.sl 8 true])]
def G110 (F : T110) : GTy s110 := fun M e k => F M e.1.1 (fun y1 => k (.own 0 8 .flat y1))
abbrev W110 (F : T110) : WT := wrap s110 (G110 F)
theorem k110 (F159 : T159) : KO [(159, W159 F159)] X110 110 f110 s110 (G110 (P110 F159)) := fun _ _ _ => by kernel_rfl
theorem ok110 : FnOk D 110 (W110 F110) := oW func110 (tc ok159 tn) (k110 F159)
abbrev T160 := (M : Type) -> LU -> LU -> Bool -> Int -> LU -> (LU -> LU -> Bool -> Int -> LU -> Option M) -> Option M
def P160 (F79 : T79) : T160 := fun M a b c d f k => F79 _ a b fun t1 t2 => k t1 t2 c d f
def F160 : T160 := P160 F79
abbrev s160 : LSh := [(true, q9)]
def G160 (F : T160) : GTy s160 := fun M e k => let a:=e.1;let b:=a.2;let c:=b.2;let d:=c.2;let f:=d.2;F M a.1 b.1 c.1 d.1 f.1 (fun y1 y2 y3 y4 y5 => k (.agg [.str y1, .str y2, .bool y3, .int .i64 y4, .str y5]))
abbrev W160 (F : T160) : WT := wrap s160 (G160 F)
theorem k160 (F79 : T79) : KO [(79, W79 F79)] noX 160 f160 s160 (G160 (P160 F79)) := fun _ _ _ => by kernel_rfl
theorem ok160 : FnOk D 160 (W160 F160) := oW func160 (tc ok79 tn) (k160 F79)
abbrev T111 := T154
def P111 (F160 : T160) : T111 := fun M a k => chk (0 <= (a.length : Int) /\ (a.length : Int) <= (a.length : Int) /\ (a.length : Int) * 64 <= 140737488355328 /\ (a.length : Int) <= 140737488355328) <| whileK (fun s1 => br (decide ((lI s1 2) < ((lL s1 0).length : Int))) (chk (0 <= (lI s1 2)) <| idx true q9 (lL s1 0) ((lI s1 2).toNat) fun (e2 : r5_) => F160 _ e2.1 e2.2.1 e2.2.2.1 e2.2.2.2.1 e2.2.2.2.2.1 fun t3 t4 b5 n6 t7 => chk (0 <= (lI s1 2) /\ (lI s1 2).toNat < (lL s1 1).length) <| storeO (lL s1 1) ((lI s1 2).toNat) 0 [.str t3, .str t4, .bool b5, .int .i64 n6, .str t7] fun l8 => some (.inl [.l (lL s1 0), .l l8, .i (IntKind.wrap .i64 ((lI s1 2) + 1))])) (some (.inr (0, [.l (lL s1 1)])))) [.l a, .l (List.replicate ((a.length : Int).toNat) (.agg [.str [], .str [], .bool false, .int .i64 0, .str []])), .i 0] fun r9 => k (lL r9.2 0)
def F111 : T111 := P111 F160
def X111 : Exits := fun i => lookN i [] [(3, [(.exit 0, xk 23 [(3, .own 1000000 5 .flat [])] [])])]
abbrev s111 : LSh := [(false, [.sl 5 true])]
def G111 (F : T111) : GTy s111 := fun M e k => F M e.1.1 (fun y1 => k (.own 0 5 .flat y1))
abbrev W111 (F : T111) : WT := wrap s111 (G111 F)
theorem k111 (F160 : T160) : KO [(160, W160 F160)] X111 111 f111 s111 (G111 (P111 F160)) := fun _ _ _ => by kernel_rfl
theorem ok111 : FnOk D 111 (W111 F111) := oW func111 (tc ok160 tn) (k111 F160)
abbrev T112 := T154
def P112 (F79 : T79) : T112 := fun M a k => chk (0 <= (a.length : Int) /\ (a.length : Int) <= (a.length : Int) /\ (a.length : Int) * 32 <= 140737488355328 /\ (a.length : Int) <= 140737488355328) <| whileK (fun s1 => br (decide ((lI s1 2) < ((lL s1 0).length : Int))) (chk (0 <= (lI s1 2)) <| idx true [.str, .str] (lL s1 0) ((lI s1 2).toNat) fun (e2 : r11_) => F79 _ e2.1 e2.2.1 fun t3 t4 => chk (0 <= (lI s1 2) /\ (lI s1 2).toNat < (lL s1 1).length) <| storeO (lL s1 1) ((lI s1 2).toNat) 0 [.str t3, .str t4] fun l5 => some (.inl [.l (lL s1 0), .l l5, .i (IntKind.wrap .i64 ((lI s1 2) + 1))])) (some (.inr (0, [.l (lL s1 1)])))) [.l a, .l (List.replicate ((a.length : Int).toNat) (.agg [.str [], .str []])), .i 0] fun r6 => k (lL r6.2 0)
def F112 : T112 := P112 F79
def X112 : Exits := fun i => lookN i [] [(3, [(.exit 0, xk 23 [(3, .own 1000000 2 .flat [])] [])])]
abbrev s112 : LSh := s193
abbrev G112 := G193
abbrev W112 (F : T112) : WT := wrap s112 (G112 F)
theorem k112 (F79 : T79) : KO [(79, W79 F79)] X112 112 f112 s112 (G112 (P112 F79)) := fun _ _ _ => by kernel_rfl
theorem ok112 : FnOk D 112 (W112 F112) := oW func112 (tc ok79 tn) (k112 F79)
abbrev T60 := (M : Type) -> LU -> LU -> Bool -> LsV -> LsV -> LsV -> LU -> LU -> LsV -> Bool -> LsV -> LsV -> LsV -> LsV -> LsV -> Int -> Int -> Int -> Int -> LsV -> LsV -> Bool -> (LU -> LU -> Bool -> LsV -> LsV -> LsV -> LU -> LU -> LsV -> Bool -> LsV -> LsV -> LsV -> LsV -> LsV -> Int -> Int -> Int -> Int -> LsV -> LsV -> Bool -> Option M) -> Option M
def P60 (F79 : T79) (F106 : T106) (F107 : T107) (F108 : T108) (F109 : T109) (F110 : T110) (F111 : T111) (F112 : T112) (F113 : T113) : T60 := fun M a b c d f g h i j l m n o p q r s t u v w x k => F79 _ a b fun t1 t2 => F106 _ c d f g h fun b3 l4 l5 l6 t7 => F107 _ i fun t8 => F108 _ j fun l9 => F109 _ m n fun l10 l11 => F110 _ o fun l12 => F111 _ p fun l13 => F112 _ q fun l14 => F112 _ v fun l15 => F113 _ w fun l16 => k t1 t2 b3 l4 l5 l6 t7 t8 l9 l l10 l11 l12 l13 l14 r s t u l15 l16 x
def F60 : T60 := P60 F79 F106 F107 F108 F109 F110 F111 F112 F113
abbrev s60 : LSh := [(true, q2)]
def G60 (F : T60) : GTy s60 := fun M e k => let a:=e.1;let b:=a.2;let c:=b.2;let d:=c.2;let f:=d.2;let g:=f.2;let h:=g.2;let i:=h.2;let j:=i.2;let l:=j.2;let m:=l.2;let n:=m.2;let o:=n.2;let p:=o.2;let q:=p.2;let r:=q.2;let s:=r.2;let t:=s.2;let u:=t.2;let v:=u.2;let w:=v.2;let x:=w.2;F M a.1 b.1 c.1 d.1 f.1 g.1 h.1 i.1 j.1 l.1 m.1 n.1 o.1 p.1 q.1 r.1 s.1 t.1 u.1 v.1 w.1 x.1 (fun y1 y2 y3 y4 y5 y6 y7 y8 y9 y10 y11 y12 y13 y14 y15 y16 y17 y18 y19 y20 y21 y22 => k (.agg [.str y1, .str y2, .bool y3, .own 3 1 .flat y4, .own 4 1 .flat y5, .own 5 1 .flat y6, .str y7, .str y8, .own 8 4 .clean y9, .bool y10, .own 10 4 .clean y11, .own 11 1 .flat y12, .own 12 8 .flat y13, .own 13 5 .flat y14, .own 14 2 .flat y15, .int .i64 y16, .int .i64 y17, .int .i64 y18, .int .i64 y19, .own 19 2 .flat y20, .own 20 1 .flat y21, .bool y22]))
abbrev W60 (F : T60) : WT := wrap s60 (G60 F)
theorem k60 (F79 : T79) (F106 : T106) (F107 : T107) (F108 : T108) (F109 : T109) (F110 : T110) (F111 : T111) (F112 : T112) (F113 : T113) : KO [(79, W79 F79), (106, W106 F106), (107, W107 F107), (108, W108 F108), (109, W109 F109), (110, W110 F110), (111, W111 F111), (112, W112 F112), (113, W113 F113)] noX 60 f60 s60 (G60 (P60 F79 F106 F107 F108 F109 F110 F111 F112 F113)) := fun _ _ _ => by kernel_rfl
theorem ok60 : FnOk D 60 (W60 F60) := oW func60 (tc ok79 (tc ok106 (tc ok107 (tc ok108 (tc ok109 (tc ok110 (tc ok111 (tc ok112 (tc ok113 tn))))))))) (k60 F79 F106 F107 F108 F109 F110 F111 F112 F113)
abbrev T42 := (M : Type) -> LU -> LU -> LU -> LU -> Bool -> LsV -> LsV -> LsV -> LU -> LU -> LsV -> Bool -> LsV -> LsV -> LsV -> LsV -> LsV -> Int -> Int -> Int -> Int -> LsV -> LsV -> Bool -> Bool -> (LU -> LU -> LU -> LU -> Bool -> LsV -> LsV -> LsV -> LU -> LU -> LsV -> Bool -> LsV -> LsV -> LsV -> LsV -> LsV -> Int -> Int -> Int -> Int -> LsV -> LsV -> Bool -> Bool -> Option M) -> Option M
def P42 (F79 : T79) (F60 : T60) : T42 := fun M a b c d f g h i j l m n o p q r s t u v w x y z a1 k => F79 _ a b fun t1 t2 => F60 _ c d f g h i j l m n o p q r s t u v w x y z fun t3 t4 b5 l6 l7 l8 t9 t10 l11 b12 l13 l14 l15 l16 l17 n18 n19 n20 n21 l22 l23 b24 => k t1 t2 t3 t4 b5 l6 l7 l8 t9 t10 l11 b12 l13 l14 l15 l16 l17 n18 n19 n20 n21 l22 l23 b24 a1
def F42 : T42 := P42 F79 F60
abbrev s42 : LSh := [(true, q1)]
def G42 (F : T42) : GTy s42 := fun M e k => let a:=e.1;let b:=a.2;let c:=b.2;let d:=c.2;let f:=d.2;let g:=f.2;let h:=g.2;let i:=h.2;let j:=i.2;let l:=j.2;let m:=l.2;let n:=m.2;let o:=n.2;let p:=o.2;let q:=p.2;let r:=q.2;let s:=r.2;let t:=s.2;let u:=t.2;let v:=u.2;let w:=v.2;let x:=w.2;let y:=x.2;let z:=y.2;let a1:=z.2;F M a.1 b.1 c.1 d.1 f.1 g.1 h.1 i.1 j.1 l.1 m.1 n.1 o.1 p.1 q.1 r.1 s.1 t.1 u.1 v.1 w.1 x.1 y.1 z.1 a1.1 (fun y1 y2 y3 y4 y5 y6 y7 y8 y9 y10 y11 y12 y13 y14 y15 y16 y17 y18 y19 y20 y21 y22 y23 y24 y25 => k (.agg [.str y1, .str y2, .str y3, .str y4, .bool y5, .own 5 1 .flat y6, .own 6 1 .flat y7, .own 7 1 .flat y8, .str y9, .str y10, .own 10 4 .clean y11, .bool y12, .own 12 4 .clean y13, .own 13 1 .flat y14, .own 14 8 .flat y15, .own 15 5 .flat y16, .own 16 2 .flat y17, .int .i64 y18, .int .i64 y19, .int .i64 y20, .int .i64 y21, .own 21 2 .flat y22, .own 22 1 .flat y23, .bool y24, .bool y25]))
abbrev W42 (F : T42) : WT := wrap s42 (G42 F)
theorem k42 (F79 : T79) (F60 : T60) : KO [(79, W79 F79), (60, W60 F60)] noX 42 f42 s42 (G42 (P42 F79 F60)) := fun _ _ _ => by kernel_rfl
theorem ok42 : FnOk D 42 (W42 F42) := oW func42 (tc ok79 (tc ok60 tn)) (k42 F79 F60)
abbrev T18 := T154
def P18 (F42 : T42) : T18 := fun M a k => chk (0 <= (a.length : Int) /\ (a.length : Int) <= (a.length : Int) /\ (a.length : Int) * 424 <= 140737488355328 /\ (a.length : Int) <= 140737488355328) <| whileK (fun s1 => br (decide ((lI s1 2) < ((lL s1 0).length : Int))) (chk (0 <= (lI s1 2)) <| idx true q1 (lL s1 0) ((lI s1 2).toNat) fun (e2 : r10_) => F42 _ e2.1 e2.2.1 e2.2.2.1 e2.2.2.2.1 e2.2.2.2.2.1 e2.2.2.2.2.2.1 e2.2.2.2.2.2.2.1 e2.2.2.2.2.2.2.2.1 e2.2.2.2.2.2.2.2.2.1 e2.2.2.2.2.2.2.2.2.2.1 e2.2.2.2.2.2.2.2.2.2.2.1 e2.2.2.2.2.2.2.2.2.2.2.2.1 e2.2.2.2.2.2.2.2.2.2.2.2.2.1 e2.2.2.2.2.2.2.2.2.2.2.2.2.2.1 e2.2.2.2.2.2.2.2.2.2.2.2.2.2.2.1 e2.2.2.2.2.2.2.2.2.2.2.2.2.2.2.2.1 e2.2.2.2.2.2.2.2.2.2.2.2.2.2.2.2.2.1 e2.2.2.2.2.2.2.2.2.2.2.2.2.2.2.2.2.2.1 e2.2.2.2.2.2.2.2.2.2.2.2.2.2.2.2.2.2.2.1 e2.2.2.2.2.2.2.2.2.2.2.2.2.2.2.2.2.2.2.2.1 e2.2.2.2.2.2.2.2.2.2.2.2.2.2.2.2.2.2.2.2.2.1 e2.2.2.2.2.2.2.2.2.2.2.2.2.2.2.2.2.2.2.2.2.2.1 e2.2.2.2.2.2.2.2.2.2.2.2.2.2.2.2.2.2.2.2.2.2.2.1 e2.2.2.2.2.2.2.2.2.2.2.2.2.2.2.2.2.2.2.2.2.2.2.2.1 e2.2.2.2.2.2.2.2.2.2.2.2.2.2.2.2.2.2.2.2.2.2.2.2.2.1 fun t3 t4 t5 t6 b7 l8 l9 l10 t11 t12 l13 b14 l15 l16 l17 l18 l19 n20 n21 n22 n23 l24 l25 b26 b27 => chk (0 <= (lI s1 2) /\ (lI s1 2).toNat < (lL s1 1).length) <| storeO (lL s1 1) ((lI s1 2).toNat) 0 [.str t3, .str t4, .str t5, .str t6, .bool b7, .sl 1 true l8, .sl 1 true l9, .sl 1 true l10, .str t11, .str t12, .sl 4 false l13, .bool b14, .sl 4 false l15, .sl 1 true l16, .sl 8 true l17, .sl 5 true l18, .sl 2 true l19, .int .i64 n20, .int .i64 n21, .int .i64 n22, .int .i64 n23, .sl 2 true l24, .sl 1 true l25, .bool b26, .bool b27] fun l28 => some (.inl [.l (lL s1 0), .l l28, .i (IntKind.wrap .i64 ((lI s1 2) + 1))])) (some (.inr (0, [.l (lL s1 1)])))) [.l a, .l (List.replicate ((a.length : Int).toNat) (.agg [.str [], .str [], .str [], .str [], .bool false, .sl 1 true [], .sl 1 true [], .sl 1 true [], .str [], .str [], .sl 4 false [], .bool false, .sl 4 false [], .sl 1 true [], .sl 8 true [], .sl 5 true [], .sl 2 true [], .int .i64 0, .int .i64 0, .int .i64 0, .int .i64 0, .sl 2 true [], .sl 1 true [], .bool false, .bool false])), .i 0] fun r29 => k (lL r29.2 0)
def F18 : T18 := P18 F42
def X18 : Exits := fun i => lookN i [] [(3, [(.exit 0, xk 23 [(3, .own 1000000 25 .clean [])] [])])]
abbrev s18 : LSh := [(false, [.sl 25 false])]
def G18 (F : T18) : GTy s18 := fun M e k => F M e.1.1 (fun y1 => k (.own 0 25 .clean y1))
abbrev W18 (F : T18) : WT := wrap s18 (G18 F)
theorem k18 (F42 : T42) : KO [(42, W42 F42)] X18 18 f18 s18 (G18 (P18 F42)) := fun _ _ _ => by kernel_rfl
theorem ok18 : FnOk D 18 (W18 F18) := oW func18 (tc ok42 tn) (k18 F42)
abbrev T7 := (M : Type) -> LsV -> Int -> (LsV -> Int -> Option M) -> Option M
def P7 (F18 : T18) : T7 := fun M a b k => F18 _ a fun l1 => k l1 b
def F7 : T7 := P7 F18
abbrev s7 : LSh := [(true, q13)]
def G7 (F : T7) : GTy s7 := fun M e k => F M e.1.1 e.1.2.1 (fun y1 y2 => k (.agg [.own 0 25 .clean y1, .int .i64 y2]))
abbrev W7 (F : T7) : WT := wrap s7 (G7 F)
theorem k7 (F18 : T18) : KO [(18, W18 F18)] noX 7 f7 s7 (G7 (P7 F18)) := fun _ _ _ => by kernel_rfl
theorem ok7 : FnOk D 7 (W7 F7) := oW func7 (tc ok18 tn) (k7 F18)
abbrev T114 := (M : Type) -> LU -> LU -> Int -> Int -> LU -> Int -> Bool -> LU -> (LU -> LU -> Int -> Int -> LU -> Int -> Bool -> LU -> Option M) -> Option M
def P114 (F79 : T79) (F161 : T161) : T114 := fun M a b c d f g h i k => F79 _ a b fun t1 t2 => F161 _ c d f g h i fun n3 n4 t5 n6 b7 t8 => k t1 t2 n3 n4 t5 n6 b7 t8
def F114 : T114 := P114 F79 F161
abbrev s114 : LSh := [(true, q8)]
def G114 (F : T114) : GTy s114 := fun M e k => let a:=e.1;let b:=a.2;let c:=b.2;let d:=c.2;let f:=d.2;let g:=f.2;let h:=g.2;let i:=h.2;F M a.1 b.1 c.1 d.1 f.1 g.1 h.1 i.1 (fun y1 y2 y3 y4 y5 y6 y7 y8 => k (.agg [.str y1, .str y2, .int .i64 y3, .int .i64 y4, .str y5, .int .i64 y6, .bool y7, .str y8]))
abbrev W114 (F : T114) : WT := wrap s114 (G114 F)
theorem k114 (F79 : T79) (F161 : T161) : KO [(79, W79 F79), (161, W161 F161)] noX 114 f114 s114 (G114 (P114 F79 F161)) := fun _ _ _ => by kernel_rfl
theorem ok114 : FnOk D 114 (W114 F114) := oW func114 (tc ok79 (tc ok161 tn)) (k114 F79 F161)
abbrev T61 := T154
def P61 (F114 : T114) : T61 := fun M a k => chk (0 <= (a.length : Int) /\ (a.length : Int) <= (a.length : Int) /\ (a.length : Int) * 96 <= 140737488355328 /\ (a.length : Int) <= 140737488355328) <| whileK (fun s1 => br (decide ((lI s1 2) < ((lL s1 0).length : Int))) (chk (0 <= (lI s1 2)) <| idx true q8 (lL s1 0) ((lI s1 2).toNat) fun (e2 : r6_) => F114 _ e2.1 e2.2.1 e2.2.2.1 e2.2.2.2.1 e2.2.2.2.2.1 e2.2.2.2.2.2.1 e2.2.2.2.2.2.2.1 e2.2.2.2.2.2.2.2.1 fun t3 t4 n5 n6 t7 n8 b9 t10 => chk (0 <= (lI s1 2) /\ (lI s1 2).toNat < (lL s1 1).length) <| storeO (lL s1 1) ((lI s1 2).toNat) 0 [.str t3, .str t4, .int .i64 n5, .int .i64 n6, .str t7, .int .i64 n8, .bool b9, .str t10] fun l11 => some (.inl [.l (lL s1 0), .l l11, .i (IntKind.wrap .i64 ((lI s1 2) + 1))])) (some (.inr (0, [.l (lL s1 1)])))) [.l a, .l (List.replicate ((a.length : Int).toNat) (.agg [.str [], .str [], .int .i64 0, .int .i64 0, .str [], .int .i64 0, .bool false, .str []])), .i 0] fun r12 => k (lL r12.2 0)
def F61 : T61 := P61 F114
def X61 : Exits := fun i => lookN i [] [(3, [(.exit 0, xk 23 [(3, .own 1000000 8 .flat [])] [])])]
abbrev s61 : LSh := s110
abbrev G61 := G110
abbrev W61 (F : T61) : WT := wrap s61 (G61 F)
theorem k61 (F114 : T114) : KO [(114, W114 F114)] X61 61 f61 s61 (G61 (P61 F114)) := fun _ _ _ => by kernel_rfl
theorem ok61 : FnOk D 61 (W61 F61) := oW func61 (tc ok114 tn) (k61 F114)
abbrev T29 := (M : Type) -> Bool -> LU -> LU -> Bool -> LsV -> LsV -> LsV -> LU -> LU -> LsV -> Bool -> LsV -> LsV -> LsV -> LsV -> LsV -> Int -> Int -> Int -> Int -> LsV -> LsV -> Bool -> LsV -> LsV -> Int -> (Bool -> LU -> LU -> Bool -> LsV -> LsV -> LsV -> LU -> LU -> LsV -> Bool -> LsV -> LsV -> LsV -> LsV -> LsV -> Int -> Int -> Int -> Int -> LsV -> LsV -> Bool -> LsV -> LsV -> Int -> Option M) -> Option M
def P29 (F60 : T60) (F61 : T61) (F57 : T57) : T29 := fun M a b c d f g h i j l m n o p q r s t u v w x y z a1 b1 k => F60 _ b c d f g h i j l m n o p q r s t u v w x y fun t1 t2 b3 l4 l5 l6 t7 t8 l9 b10 l11 l12 l13 l14 l15 n16 n17 n18 n19 l20 l21 b22 => F61 _ z fun l23 => F57 _ a1 fun l24 => k a t1 t2 b3 l4 l5 l6 t7 t8 l9 b10 l11 l12 l13 l14 l15 n16 n17 n18 n19 l20 l21 b22 l23 l24 b1
def F29 : T29 := P29 F60 F61 F57
abbrev s29 : LSh := [(true, q4)]
def G29 (F : T29) : GTy s29 := fun M e k => let a:=e.1;let b:=a.2;let c:=b.2;let d:=c.2;let f:=d.2;let g:=f.2;let h:=g.2;let i:=h.2;let j:=i.2;let l:=j.2;let m:=l.2;let n:=m.2;let o:=n.2;let p:=o.2;let q:=p.2;let r:=q.2;let s:=r.2;let t:=s.2;let u:=t.2;let v:=u.2;let w:=v.2;let x:=w.2;let y:=x.2;let z:=y.2;let a1:=z.2;let b1:=a1.2;F M a.1 b.1 c.1 d.1 f.1 g.1 h.1 i.1 j.1 l.1 m.1 n.1 o.1 p.1 q.1 r.1 s.1 t.1 u.1 v.1 w.1 x.1 y.1 z.1 a1.1 b1.1 (fun y1 y2 y3 y4 y5 y6 y7 y8 y9 y10 y11 y12 y13 y14 y15 y16 y17 y18 y19 y20 y21 y22 y23 y24 y25 y26 => k (.agg [.bool y1, .str y2, .str y3, .bool y4, .own 4 1 .flat y5, .own 5 1 .flat y6, .own 6 1 .flat y7, .str y8, .str y9, .own 9 4 .clean y10, .bool y11, .own 11 4 .clean y12, .own 12 1 .flat y13, .own 13 8 .flat y14, .own 14 5 .flat y15, .own 15 2 .flat y16, .int .i64 y17, .int .i64 y18, .int .i64 y19, .int .i64 y20, .own 20 2 .flat y21, .own 21 1 .flat y22, .bool y23, .own 23 8 .flat y24, .own 24 2 .clean y25, .int .i64 y26]))
abbrev W29 (F : T29) : WT := wrap s29 (G29 F)
theorem k29 (F60 : T60) (F61 : T61) (F57 : T57) : KO [(60, W60 F60), (61, W61 F61), (57, W57 F57)] noX 29 f29 s29 (G29 (P29 F60 F61 F57)) := fun _ _ _ => by kernel_rfl
theorem ok29 : FnOk D 29 (W29 F29) := oW func29 (tc ok60 (tc ok61 (tc ok57 tn))) (k29 F60 F61 F57)
abbrev T12 := (M : Type) -> LsV -> LsV -> LsV -> Int -> LsV -> Int -> Bool -> LU -> LU -> Bool -> LsV -> LsV -> LsV -> LU -> LU -> LsV -> Bool -> LsV -> LsV -> LsV -> LsV -> LsV -> Int -> Int -> Int -> Int -> LsV -> LsV -> Bool -> LsV -> LsV -> Int -> Bool -> (LsV -> LsV -> LsV -> Int -> LsV -> Int -> Bool -> LU -> LU -> Bool -> LsV -> LsV -> LsV -> LU -> LU -> LsV -> Bool -> LsV -> LsV -> LsV -> LsV -> LsV -> Int -> Int -> Int -> Int -> LsV -> LsV -> Bool -> LsV -> LsV -> Int -> Bool -> Option M) -> Option M
def P12 (F28 : T28) (F7 : T7) (F29 : T29) : T12 := fun M a b c d f g h i j l m n o p q r s t u v w x y z a1 b1 c1 d1 f1 g1 h1 i1 j1 k => F28 _ a b c d fun l1 l2 l3 n4 => F7 _ f g fun l5 n6 => F29 _ h i j l m n o p q r s t u v w x y z a1 b1 c1 d1 f1 g1 h1 i1 fun b7 t8 t9 b10 l11 l12 l13 t14 t15 l16 b17 l18 l19 l20 l21 l22 n23 n24 n25 n26 l27 l28 b29 l30 l31 n32 => k l1 l2 l3 n4 l5 n6 b7 t8 t9 b10 l11 l12 l13 t14 t15 l16 b17 l18 l19 l20 l21 l22 n23 n24 n25 n26 l27 l28 b29 l30 l31 n32 j1
def F12 : T12 := P12 F28 F7 F29
abbrev s12 : LSh := [(true, q0)]
def G12 (F : T12) : GTy s12 := fun M e k => let a:=e.1;let b:=a.2;let c:=b.2;let d:=c.2;let f:=d.2;let g:=f.2;let h:=g.2;let i:=h.2;let j:=i.2;let l:=j.2;let m:=l.2;let n:=m.2;let o:=n.2;let p:=o.2;let q:=p.2;let r:=q.2;let s:=r.2;let t:=s.2;let u:=t.2;let v:=u.2;let w:=v.2;let x:=w.2;let y:=x.2;let z:=y.2;let a1:=z.2;let b1:=a1.2;let c1:=b1.2;let d1:=c1.2;let f1:=d1.2;let g1:=f1.2;let h1:=g1.2;let i1:=h1.2;let j1:=i1.2;F M a.1 b.1 c.1 d.1 f.1 g.1 h.1 i.1 j.1 l.1 m.1 n.1 o.1 p.1 q.1 r.1 s.1 t.1 u.1 v.1 w.1 x.1 y.1 z.1 a1.1 b1.1 c1.1 d1.1 f1.1 g1.1 h1.1 i1.1 j1.1 (fun y1 y2 y3 y4 y5 y6 y7 y8 y9 y10 y11 y12 y13 y14 y15 y16 y17 y18 y19 y20 y21 y22 y23 y24 y25 y26 y27 y28 y29 y30 y31 y32 y33 => k (.agg [.own 0 2 .clean y1, .own 1 10 .flat y2, .own 2 4 .flat y3, .int .i64 y4, .own 4 25 .clean y5, .int .i64 y6, .bool y7, .str y8, .str y9, .bool y10, .own 10 1 .flat y11, .own 11 1 .flat y12, .own 12 1 .flat y13, .str y14, .str y15, .own 15 4 .clean y16, .bool y17, .own 17 4 .clean y18, .own 18 1 .flat y19, .own 19 8 .flat y20, .own 20 5 .flat y21, .own 21 2 .flat y22, .int .i64 y23, .int .i64 y24, .int .i64 y25, .int .i64 y26, .own 26 2 .flat y27, .own 27 1 .flat y28, .bool y29, .own 29 8 .flat y30, .own 30 2 .clean y31, .int .i64 y32, .bool y33]))
abbrev W12 (F : T12) : WT := wrap s12 (G12 F)
theorem k12 (F28 : T28) (F7 : T7) (F29 : T29) : KO [(28, W28 F28), (7, W7 F7), (29, W29 F29)] noX 12 f12 s12 (G12 (P12 F28 F7 F29)) := fun _ _ _ => by kernel_rfl
theorem ok12 : FnOk D 12 (W12 F12) := oW func12 (tc ok28 (tc ok7 (tc ok29 tn))) (k12 F28 F7 F29)
abbrev T74 := T154
def P74 : T74 := fun M l k => chk ((([] : LsV).length + l.length) * 32 <= 140737488355328 /\ ([] : LsV).length + l.length <= 140737488355328) <| k (([] : LsV) ++ l)
def F74 : T74 := P74
abbrev s74 : LSh := s193
abbrev G74 := G193
abbrev W74 (F : T74) : WT := wrap s74 (G74 F)
theorem k74 : KO [] noX 74 f74 s74 (G74 (P74)) := fun _ _ _ => by kernel_rfl
theorem ok74 : FnOk D 74 (W74 F74) := oW func74 tn (k74)
abbrev T38 := T109
def P38 (F74 : T74) : T38 := fun M b a k => chk ((([] : LsV).length + a.length) * 8 <= 140737488355328 /\ ([] : LsV).length + a.length <= 140737488355328) <| whileK (fun s1 => br (decide ((lI s1 0) < ((lL s1 1).length : Int))) (chk (0 <= (lI s1 0)) <| idx true q7 (lL s1 1) ((lI s1 0).toNat) fun (e2 : r7_) => chk (0 <= (lI s1 0)) <| idx true q7 (lL s1 1) ((lI s1 0).toNat) fun (e3 : r7_) => F74 _ e3.2.2.2.1 fun l4 => chk (((lL s1 3).length + ([.agg [.str e2.1, .str e2.2.1, .int .i64 e2.2.2.1, .sl 2 true l4]] : LsV).length) * 64 <= 140737488355328 /\ (lL s1 3).length + ([.agg [.str e2.1, .str e2.2.1, .int .i64 e2.2.2.1, .sl 2 true l4]] : LsV).length <= 140737488355328) <| some (.inl [.i (IntKind.wrap .i64 ((lI s1 0) + 1)), .l (lL s1 1), .l (lL s1 2), .l ((lL s1 3) ++ ([.agg [.str e2.1, .str e2.2.1, .int .i64 e2.2.2.1, .sl 2 true l4]] : LsV)), .l (lL s1 4)])) (some (.inr (0, [.l (lL s1 3), .l (lL s1 4)])))) [.i 0, .l b, .l a, .l [], .l (([] : LsV) ++ a)] fun r5 => k (lL r5.2 0) (lL r5.2 1)
def F38 : T38 := P38 F74
def X38 : Exits := fun i => lookN i [] [(3, [(.exit 0, xk 38 [(2, .ptr 2 0), (3, .ptr 3 0)] [(2, .agg [.nil, .nil]), (3, .agg [.own 1000000 4 .clean [], .own 1000001 1 .flat []])])])]
abbrev s38 : LSh := s109
abbrev G38 := G109
abbrev W38 (F : T38) : WT := wrap s38 (G38 F)
theorem k38 (F74 : T74) : KO [(74, W74 F74)] X38 38 f38 s38 (G38 (P38 F74)) := fun _ _ _ => by kernel_rfl
theorem ok38 : FnOk D 38 (W38 F38) := oW func38 (tc ok74 tn) (k38 F74)
abbrev T76 := (M : Type) -> Int -> (Int -> Option M) -> Option M
def P76 : T76 := fun M mode k => br (mode == 1) (k 4) (br (mode == 2) (k 3) (br (mode == 3) (k 2) (br (mode == 4) (k 2) (k 0))))
def F76 : T76 := P76
abbrev s76 : LSh := [(false, [.int .i64])]
def G76 (F : T76) : GTy s76 := fun M e k => F M e.1.1 (fun y1 => k (.int .i64 y1))
abbrev W76 (F : T76) : WT := wrap s76 (G76 F)
theorem k76 : KO [] noX 76 f76 s76 (G76 (P76)) := fun _ _ _ => by kernel_rfl
theorem ok76 : FnOk D 76 (W76 F76) := oW func76 tn (k76)
abbrev T134 := (M : Type) -> Int -> Int -> Int -> (Bool -> Option M) -> Option M
def P134 : T134 := fun M x least most k => br (decide (x >= least)) (k (decide (x <= most))) (k false)
def F134 : T134 := P134
abbrev s134 : LSh := [(false, [.int .i64]), (false, [.int .i64]), (false, [.int .i64])]
def G134 (F : T134) : GTy s134 := fun M e k => F M e.1.1 e.2.1.1 e.2.2.1.1 (fun y1 => k (.bool y1))
abbrev W134 (F : T134) : WT := wrap s134 (G134 F)
theorem k134 : KO [] noX 134 f134 s134 (G134 (P134)) := fun _ _ _ => by kernel_rfl
theorem ok134 : FnOk D 134 (W134 F134) := oW func134 tn (k134)
abbrev T132 := (M : Type) -> LU -> (Bool -> Option M) -> Option M
def P132 (F134 : T134) : T132 := fun M s k => whileK (fun s1 => br (decide ((lI s1 1) < ((lS s1 0).length : Int))) (idxS (lS s1 0) (lI s1 1) fun b2 => br (decide (b2 < 97)) (some (.inr (0, [.s (lS s1 0), .b false]))) (idxS (lS s1 0) (lI s1 1) fun b3 => br (decide (b3 > 122)) (some (.inr (0, [.s (lS s1 0), .b false]))) (some (.inl [.s (lS s1 0), .i (IntKind.wrap .i64 ((lI s1 1) + 1))])))) (some (.inr (1, [.s (lS s1 0)])))) [.s s, .i 0] fun r4 => if r4.1 = 0 then k (lB r4.2 1) else F134 _ ((lS r4.2 0).length : Int) 1 8 fun b5 => k b5
def F132 : T132 := P132 F134
def X132 : Exits := fun i => lookN i [] [(2, [(.ret, xk 23 [(0, .str []), (2, .bool false)] []), (.exit 0, xk 23 [(0, .str [])] [])])]
abbrev s132 : LSh := [(false, [.str])]
def G132 (F : T132) : GTy s132 := fun M e k => F M e.1.1 (fun y1 => k (.bool y1))
abbrev W132 (F : T132) : WT := wrap s132 (G132 F)
theorem k132 (F134 : T134) : KO [(134, W134 F134)] X132 132 f132 s132 (G132 (P132 F134)) := fun _ _ _ => by kernel_rfl
theorem ok132 : FnOk D 132 (W132 F132) := oW func132 (tc ok134 tn) (k132 F134)
abbrev T171 := (M : Type) -> LU -> LU -> (Bool -> Option M) -> Option M
def P171 (F132 : T132) : T171 := fun M a b k => F132 _ a fun b1 => br b1 (F132 _ b fun b2 => k b2) (k false)
def F171 : T171 := P171 F132
abbrev s171 : LSh := s79
def G171 (F : T171) : GTy s171 := fun M e k => F M e.1.1 e.1.2.1 (fun y1 => k (.bool y1))
abbrev W171 (F : T171) : WT := wrap s171 (G171 F)
theorem k171 (F132 : T132) : KO [(132, W132 F132)] noX 171 f171 s171 (G171 (P171 F132)) := fun _ _ _ => by kernel_rfl
theorem ok171 : FnOk D 171 (W171 F171) := oW func171 (tc ok132 tn) (k171 F132)
abbrev T128 := (M : Type) -> LU -> LU -> (LU -> Option M) -> Option M
def P128 (F171 : T171) : T128 := fun M a b k => F171 _ a b fun b1 => br (!b1) (k []) (chk (a.length + ([47] : LU).length <= 9223372036854775807) <| chk ((a ++ [47]).length + b.length <= 9223372036854775807) <| k ((a ++ [47]) ++ b))
def F128 : T128 := P128 F171
abbrev s128 : LSh := s79
def G128 (F : T128) : GTy s128 := fun M e k => F M e.1.1 e.1.2.1 (fun y1 => k (.str y1))
abbrev W128 (F : T128) : WT := wrap s128 (G128 F)
theorem k128 (F171 : T171) : KO [(171, W171 F171)] noX 128 f128 s128 (G128 (P128 F171)) := fun _ _ _ => by kernel_rfl
theorem ok128 : FnOk D 128 (W128 F128) := oW func128 (tc ok171 tn) (k128 F171)
abbrev T129 := (M : Type) -> Int -> (LU -> Option M) -> Option M
def P129 (F134 : T134) : T129 := fun M code k => F134 _ code 1 6 fun b1 => br (!b1) (k []) (chk (0 <= code /\ code.toNat < ([.str [], .str [111, 107], .str [112, 111, 108, 105, 99, 121], .str [115, 116, 97, 116, 117, 115], .str [107, 105, 110, 100], .str [115, 104, 97, 114, 101], .str [100, 105, 103, 101, 115, 116]] : LsV).length) <| idxAt [.str] [.str [], .str [111, 107], .str [112, 111, 108, 105, 99, 121], .str [115, 116, 97, 116, 117, 115], .str [107, 105, 110, 100], .str [115, 104, 97, 114, 101], .str [100, 105, 103, 101, 115, 116]] code.toNat 0 fun (e2 : r13_) => k e2.1)
def F129 : T129 := P129 F134
abbrev s129 : LSh := s76
def G129 (F : T129) : GTy s129 := fun M e k => F M e.1.1 (fun y1 => k (.str y1))
abbrev W129 (F : T129) : WT := wrap s129 (G129 F)
theorem k129 (F134 : T134) : KO [(134, W134 F134)] noX 129 f129 s129 (G129 (P129 F134)) := fun _ _ _ => by kernel_rfl
theorem ok129 : FnOk D 129 (W129 F129) := oW func129 (tc ok134 tn) (k129 F134)
abbrev T130 := T129
def P130 (F134 : T134) : T130 := fun M kind k => F134 _ kind 1 5 fun b1 => br (!b1) (k []) (chk (0 <= kind /\ kind.toNat < ([.str [], .str [112, 97, 103, 101], .str [115, 99, 114, 105, 112, 116], .str [115, 116, 121, 108, 101], .str [105, 109, 97, 103, 101], .str [109, 111, 100, 117, 108, 101]] : LsV).length) <| idxAt [.str] [.str [], .str [112, 97, 103, 101], .str [115, 99, 114, 105, 112, 116], .str [115, 116, 121, 108, 101], .str [105, 109, 97, 103, 101], .str [109, 111, 100, 117, 108, 101]] kind.toNat 0 fun (e2 : r13_) => k e2.1)
def F130 : T130 := P130 F134
abbrev s130 : LSh := s76
abbrev G130 := G129
abbrev W130 (F : T130) : WT := wrap s130 (G130 F)
theorem k130 (F134 : T134) : KO [(134, W134 F134)] noX 130 f130 s130 (G130 (P130 F134)) := fun _ _ _ => by kernel_rfl
theorem ok130 : FnOk D 130 (W130 F130) := oW func130 (tc ok134 tn) (k130 F134)
abbrev T75 := (M : Type) -> Int -> LU -> LU -> Bool -> Int -> (LU -> Option M) -> Option M
def P75 (F128 : T128) (F129 : T129) (F130 : T130) : T75 := fun M kind a b done code k => F128 _ a b fun t1 => br (t1 == []) (br done (F129 _ code fun t2 => F130 _ kind fun t3 => chk (t3.length + ([32] : LU).length <= 9223372036854775807) <| chk ((t3 ++ [32]).length + ([45] : LU).length <= 9223372036854775807) <| chk (((t3 ++ [32]) ++ [45]).length + ([32] : LU).length <= 9223372036854775807) <| chk ((((t3 ++ [32]) ++ [45]) ++ [32]).length + t2.length <= 9223372036854775807) <| k ((((t3 ++ [32]) ++ [45]) ++ [32]) ++ t2)) (F130 _ kind fun t4 => chk (t4.length + ([32] : LU).length <= 9223372036854775807) <| chk ((t4 ++ [32]).length + ([45] : LU).length <= 9223372036854775807) <| chk (((t4 ++ [32]) ++ [45]).length + ([32] : LU).length <= 9223372036854775807) <| chk ((((t4 ++ [32]) ++ [45]) ++ [32]).length + ([111, 112, 101, 110] : LU).length <= 9223372036854775807) <| k ((((t4 ++ [32]) ++ [45]) ++ [32]) ++ [111, 112, 101, 110]))) (br done (F129 _ code fun t5 => F130 _ kind fun t6 => chk (t6.length + ([32] : LU).length <= 9223372036854775807) <| chk ((t6 ++ [32]).length + t1.length <= 9223372036854775807) <| chk (((t6 ++ [32]) ++ t1).length + ([32] : LU).length <= 9223372036854775807) <| chk ((((t6 ++ [32]) ++ t1) ++ [32]).length + t5.length <= 9223372036854775807) <| k ((((t6 ++ [32]) ++ t1) ++ [32]) ++ t5)) (F130 _ kind fun t7 => chk (t7.length + ([32] : LU).length <= 9223372036854775807) <| chk ((t7 ++ [32]).length + t1.length <= 9223372036854775807) <| chk (((t7 ++ [32]) ++ t1).length + ([32] : LU).length <= 9223372036854775807) <| chk ((((t7 ++ [32]) ++ t1) ++ [32]).length + ([111, 112, 101, 110] : LU).length <= 9223372036854775807) <| k ((((t7 ++ [32]) ++ t1) ++ [32]) ++ [111, 112, 101, 110])))
def F75 : T75 := P75 F128 F129 F130
abbrev s75 : LSh := [(false, [.int .i64]), (true, [.str, .str]), (false, [.bool]), (false, [.int .i64])]
def G75 (F : T75) : GTy s75 := fun M e k => F M e.1.1 e.2.1.1 e.2.1.2.1 e.2.2.1.1 e.2.2.2.1.1 (fun y1 => k (.str y1))
abbrev W75 (F : T75) : WT := wrap s75 (G75 F)
theorem k75 (F128 : T128) (F129 : T129) (F130 : T130) : KO [(128, W128 F128), (129, W129 F129), (130, W130 F130)] noX 75 f75 s75 (G75 (P75 F128 F129 F130)) := fun _ _ _ => by kernel_rfl
theorem ok75 : FnOk D 75 (W75 F75) := oW func75 (tc ok128 (tc ok129 (tc ok130 tn))) (k75 F128 F129 F130)
abbrev T39 := (M : Type) -> LU -> LU -> Bool -> LsV -> LsV -> LsV -> LU -> LU -> LsV -> Bool -> LsV -> LsV -> LsV -> LsV -> LsV -> Int -> Int -> Int -> Int -> LsV -> LsV -> Bool -> (LsV -> Option M) -> Option M
def P39 (F76 : T76) (F75 : T75) : T39 := fun M a c d f g h j m n o p q r t u v w x y z a1 b1 k => whileK (fun s1 => br (decide ((lI s1 1) < ((lL s1 14).length : Int))) (chk (0 <= (lI s1 1)) <| idx true q5 (lL s1 14) ((lI s1 1).toNat) fun (e2 : r0_) => F76 _ e2.1 fun n3 => F75 _ n3 e2.2.1 e2.2.2.1 e2.2.2.2.2.2.1 e2.2.2.2.2.2.2.1 fun t4 => chk (((lL s1 0).length + ([.str t4] : LsV).length) * 16 <= 140737488355328 /\ (lL s1 0).length + ([.str t4] : LsV).length <= 140737488355328) <| some (.inl [.l ((lL s1 0) ++ ([.str t4] : LsV)), .i (IntKind.wrap .i64 ((lI s1 1) + 1)), .s (lS s1 2), .s (lS s1 3), .b (lB s1 4), .l (lL s1 5), .l (lL s1 6), .l (lL s1 7), .s (lS s1 8), .s (lS s1 9), .l (lL s1 10), .b (lB s1 11), .l (lL s1 12), .l (lL s1 13), .l (lL s1 14), .l (lL s1 15), .l (lL s1 16), .i (lI s1 17), .i (lI s1 18), .i (lI s1 19), .i (lI s1 20), .l (lL s1 21), .l (lL s1 22), .b (lB s1 23)])) (some (.inr (0, [.l (lL s1 0), .s (lS s1 2), .s (lS s1 3), .b (lB s1 4), .l (lL s1 5), .l (lL s1 6), .l (lL s1 7), .s (lS s1 8), .s (lS s1 9), .l (lL s1 10), .b (lB s1 11), .l (lL s1 12), .l (lL s1 13), .l (lL s1 14), .l (lL s1 15), .l (lL s1 16), .i (lI s1 17), .i (lI s1 18), .i (lI s1 19), .i (lI s1 20), .l (lL s1 21), .l (lL s1 22), .b (lB s1 23)])))) [.l [], .i 0, .s a, .s c, .b d, .l f, .l g, .l h, .s j, .s m, .l n, .b o, .l p, .l q, .l r, .l t, .l u, .i v, .i w, .i x, .i y, .l z, .l a1, .b b1] fun r5 => whileK (fun s6 => br (decide ((lI s6 1) < ((lL s6 15).length : Int))) (chk (0 <= (lI s6 1)) <| idx true q9 (lL s6 15) ((lI s6 1).toNat) fun (e7 : r5_) => F75 _ 5 e7.1 e7.2.1 e7.2.2.1 e7.2.2.2.1 fun t8 => chk (((lL s6 0).length + ([.str t8] : LsV).length) * 16 <= 140737488355328 /\ (lL s6 0).length + ([.str t8] : LsV).length <= 140737488355328) <| some (.inl [.l ((lL s6 0) ++ ([.str t8] : LsV)), .i (IntKind.wrap .i64 ((lI s6 1) + 1)), .s (lS s6 2), .s (lS s6 3), .b (lB s6 4), .l (lL s6 5), .l (lL s6 6), .l (lL s6 7), .s (lS s6 8), .s (lS s6 9), .l (lL s6 10), .b (lB s6 11), .l (lL s6 12), .l (lL s6 13), .l (lL s6 14), .l (lL s6 15), .l (lL s6 16), .i (lI s6 17), .i (lI s6 18), .i (lI s6 19), .i (lI s6 20), .l (lL s6 21), .l (lL s6 22), .b (lB s6 23)])) (some (.inr (0, [.l (lL s6 0)])))) [.l (lL r5.2 0), .i 0, .s (lS r5.2 1), .s (lS r5.2 2), .b (lB r5.2 3), .l (lL r5.2 4), .l (lL r5.2 5), .l (lL r5.2 6), .s (lS r5.2 7), .s (lS r5.2 8), .l (lL r5.2 9), .b (lB r5.2 10), .l (lL r5.2 11), .l (lL r5.2 12), .l (lL r5.2 13), .l (lL r5.2 14), .l (lL r5.2 15), .i (lI r5.2 16), .i (lI r5.2 17), .i (lI r5.2 18), .i (lI r5.2 19), .l (lL r5.2 20), .l (lL r5.2 21), .b (lB r5.2 22)] fun r9 => k (lL r9.2 0)
def F39 : T39 := P39 F76 F75
def X39 : Exits := fun i => lookN i [] [(3, [(.exit 0, xk 57 [(1, .ptr 1 0), (3, .own 1000000 1 .flat [])] [(1, .agg [.str [], .str [], .bool false, .sl 1 true [], .sl 1 true [], .sl 1 true [], .str [], .str [], .sl 4 false [], .bool false, .sl 4 false [], .sl 1 true [], .sl 8 true [], .sl 5 true [], .sl 2 true [], .int .i64 0, .int .i64 0, .int .i64 0, .int .i64 0, .sl 2 true [], .sl 1 true [], .bool false])])]), (8, [(.exit 2, xk 57 [(3, .own 1000000 1 .flat [])] [])])]
abbrev s39 : LSh := s60
def G39 (F : T39) : GTy s39 := fun M e k => let a:=e.1;let b:=a.2;let c:=b.2;let d:=c.2;let f:=d.2;let g:=f.2;let h:=g.2;let i:=h.2;let j:=i.2;let l:=j.2;let m:=l.2;let n:=m.2;let o:=n.2;let p:=o.2;let q:=p.2;let r:=q.2;let s:=r.2;let t:=s.2;let u:=t.2;let v:=u.2;let w:=v.2;let x:=w.2;F M a.1 b.1 c.1 d.1 f.1 g.1 h.1 i.1 j.1 l.1 m.1 n.1 o.1 p.1 q.1 r.1 s.1 t.1 u.1 v.1 w.1 x.1 (fun y1 => k (.own 0 1 .flat y1))
abbrev W39 (F : T39) : WT := wrap s39 (G39 F)
theorem k39 (F76 : T76) (F75 : T75) : KO [(76, W76 F76), (75, W75 F75)] X39 39 f39 s39 (G39 (P39 F76 F75)) := fun _ _ _ => by kernel_rfl
theorem ok39 : FnOk D 39 (W39 F39) := oW func39 (tc ok76 (tc ok75 tn)) (k39 F76 F75)
abbrev T131 := (M : Type) -> LU -> Int -> (LsV -> Option M) -> Option M
def P131 : T131 := fun M s xby k => whileK (fun s1 => br (decide ((lI s1 4) <= ((lS s1 0).length : Int))) (br ((lI s1 4) == ((lS s1 0).length : Int)) (chk (0 <= (lI s1 3) /\ (lI s1 3) <= (lI s1 4) /\ (lI s1 4) <= ((lS s1 0).length : Int)) <| chk (((lL s1 2).length + ([.str (((lS s1 0).take ((lI s1 4).toNat)).drop ((lI s1 3).toNat))] : LsV).length) * 16 <= 140737488355328 /\ (lL s1 2).length + ([.str (((lS s1 0).take ((lI s1 4).toNat)).drop ((lI s1 3).toNat))] : LsV).length <= 140737488355328) <| some (.inl [.s (lS s1 0), .i (lI s1 1), .l ((lL s1 2) ++ ([.str (((lS s1 0).take ((lI s1 4).toNat)).drop ((lI s1 3).toNat))] : LsV)), .i (IntKind.wrap .i64 ((lI s1 4) + 1)), .i (IntKind.wrap .i64 ((lI s1 4) + 1))])) (idxS (lS s1 0) (lI s1 4) fun b2 => br (b2 == (lI s1 1)) (chk (0 <= (lI s1 3) /\ (lI s1 3) <= (lI s1 4) /\ (lI s1 4) <= ((lS s1 0).length : Int)) <| chk (((lL s1 2).length + ([.str (((lS s1 0).take ((lI s1 4).toNat)).drop ((lI s1 3).toNat))] : LsV).length) * 16 <= 140737488355328 /\ (lL s1 2).length + ([.str (((lS s1 0).take ((lI s1 4).toNat)).drop ((lI s1 3).toNat))] : LsV).length <= 140737488355328) <| some (.inl [.s (lS s1 0), .i (lI s1 1), .l ((lL s1 2) ++ ([.str (((lS s1 0).take ((lI s1 4).toNat)).drop ((lI s1 3).toNat))] : LsV)), .i (IntKind.wrap .i64 ((lI s1 4) + 1)), .i (IntKind.wrap .i64 ((lI s1 4) + 1))])) (some (.inl [.s (lS s1 0), .i (lI s1 1), .l (lL s1 2), .i (lI s1 3), .i (IntKind.wrap .i64 ((lI s1 4) + 1))])))) (some (.inr (0, [.l (lL s1 2)])))) [.s s, .i xby, .l [], .i 0, .i 0] fun r3 => k (lL r3.2 0)
def F131 : T131 := P131
def X131 : Exits := fun i => lookN i [] [(4, [(.exit 0, xk 36 [(5, .own 1000000 1 .flat [])] [])])]
abbrev s131 : LSh := [(false, [.str]), (false, [.int .u8])]
def G131 (F : T131) : GTy s131 := fun M e k => F M e.1.1 e.2.1.1 (fun y1 => k (.own 0 1 .flat y1))
abbrev W131 (F : T131) : WT := wrap s131 (G131 F)
theorem k131 : KO [] X131 131 f131 s131 (G131 (P131)) := fun _ _ _ => by kernel_rfl
theorem ok131 : FnOk D 131 (W131 F131) := oW func131 tn (k131)
abbrev T172 := T129
def P172 : T172 := fun M n k => br (n == 0) (k [48]) (whileK (fun s1 => br ((lI s1 2) != 0) (br (decide (Int.tmod (lI s1 2) 10 < 0)) (strO [.int .u8 (IntKind.wrap .u8 (IntKind.wrap .i64 (48 + (IntKind.wrap .i64 (0 - (Int.tmod (lI s1 2) 10))))))] fun t2 => chk (t2.length + (lS s1 1).length <= 9223372036854775807) <| some (.inl [.i (lI s1 0), .s (t2 ++ (lS s1 1)), .i (IntKind.wrap .i64 (Int.tdiv (lI s1 2) 10))])) (strO [.int .u8 (IntKind.wrap .u8 (IntKind.wrap .i64 (48 + (Int.tmod (lI s1 2) 10))))] fun t3 => chk (t3.length + (lS s1 1).length <= 9223372036854775807) <| some (.inl [.i (lI s1 0), .s (t3 ++ (lS s1 1)), .i (IntKind.wrap .i64 (Int.tdiv (lI s1 2) 10))]))) (some (.inr (0, [.i (lI s1 0), .s (lS s1 1)])))) [.i n, .s [], .i n] fun r4 => br (decide ((lI r4.2 0) < 0)) (chk (([45] : LU).length + (lS r4.2 1).length <= 9223372036854775807) <| k ([45] ++ (lS r4.2 1))) (k (lS r4.2 1)))
def F172 : T172 := P172
def X172 : Exits := fun i => lookN i [] [(5, [(.exit 0, xk 31 [(0, .int .i64 0), (3, .str [])] [])])]
abbrev s172 : LSh := s76
abbrev G172 := G129
abbrev W172 (F : T172) : WT := wrap s172 (G172 F)
theorem k172 : KO [] X172 172 f172 s172 (G172 (P172)) := fun _ _ _ => by kernel_rfl
theorem ok172 : FnOk D 172 (W172 F172) := oW func172 tn (k172)
abbrev T133 := (M : Type) -> LU -> (Int -> Bool -> Option M) -> Option M
def P133 (F134 : T134) (F172 : T172) : T133 := fun M s k => F134 _ (s.length : Int) 1 13 fun b1 => br (!b1) (k 0 false) (whileK (fun s2 => br (decide ((lI s2 2) < ((lS s2 0).length : Int))) (idxS (lS s2 0) (lI s2 2) fun b3 => F134 _ (IntKind.wrap .i64 b3) 48 57 fun b4 => br (!b4) (some (.inr (0, [.s (lS s2 0), .i 0, .b false, .i (lI s2 1)]))) (idxS (lS s2 0) (lI s2 2) fun b5 => some (.inl [.s (lS s2 0), .i (IntKind.wrap .i64 ((IntKind.wrap .i64 (10 * (lI s2 1))) + (IntKind.wrap .i64 (IntKind.wrap .u8 (b5 - 48))))), .i (IntKind.wrap .i64 ((lI s2 2) + 1))]))) (some (.inr (1, [.s (lS s2 0), .i (lI s2 1)])))) [.s s, .i 0, .i 0] fun r6 => if r6.1 = 0 then k (lI r6.2 1) (lB r6.2 2) else br (decide ((lI r6.2 1) > 1000000000000)) (k 0 false) (F172 _ (lI r6.2 1) fun t7 => br (!(t7 == (lS r6.2 0))) (k 0 false) (k (lI r6.2 1) true)))
def F133 : T133 := P133 F134 F172
def X133 : Exits := fun i => lookN i [] [(5, [(.ret, xk 39 [(0, .str []), (2, .int .i64 0), (3, .bool false), (4, .int .i64 0)] []), (.exit 0, xk 39 [(0, .str []), (4, .int .i64 0)] [])])]
abbrev s133 : LSh := s132
def G133 (F : T133) : GTy s133 := fun M e k => F M e.1.1 (fun y1 y2 => k (.tup [.int .i64 y1, .bool y2]))
abbrev W133 (F : T133) : WT := wrap s133 (G133 F)
theorem k133 (F134 : T134) (F172 : T172) : KO [(134, W134 F134), (172, W172 F172)] X133 133 f133 s133 (G133 (P133 F134 F172)) := fun _ _ _ => by kernel_rfl
theorem ok133 : FnOk D 133 (W133 F133) := oW func133 (tc ok134 (tc ok172 tn)) (k133 F134 F172)
abbrev T78 := (M : Type) -> LU -> (LsV -> Option M) -> Option M
def P78 (F131 : T131) (F132 : T132) (F133 : T133) (F134 : T134) : T78 := fun M s k => F131 _ s 59 fun l1 => whileK (fun s2 => br (decide ((lI s2 1) < ((lL s2 0).length : Int))) (br (decide (((lL s2 2).length : Int) < 8)) (chk (0 <= (lI s2 1) /\ (lI s2 1).toNat < (lL s2 0).length) <| idxAt [.str] (lL s2 0) ((lI s2 1).toNat) 0 fun (e3 : r13_) => F131 _ e3.1 58 fun l4 => br ((l4.length : Int) != 2) (some (.inl [.l (lL s2 0), .i (IntKind.wrap .i64 ((lI s2 1) + 1)), .l (lL s2 2)])) (chk (0 <= (0 : Int) /\ 0 < l4.length) <| idxAt [.str] l4 0 0 fun (e5 : r13_) => F132 _ e5.1 fun b6 => br (!b6) (some (.inl [.l (lL s2 0), .i (IntKind.wrap .i64 ((lI s2 1) + 1)), .l (lL s2 2)])) (chk (0 <= (1 : Int) /\ 1 < l4.length) <| idxAt [.str] l4 1 0 fun (e7 : r13_) => F133 _ e7.1 fun n8 b9 => br b9 (F134 _ n8 1 999 fun b10 => br b10 (chk (0 <= (0 : Int) /\ 0 < l4.length) <| idxAt [.str] l4 0 0 fun (e11 : r13_) => chk (((lL s2 2).length + ([.agg [.str e11.1, .int .i64 n8]] : LsV).length) * 24 <= 140737488355328 /\ (lL s2 2).length + ([.agg [.str e11.1, .int .i64 n8]] : LsV).length <= 140737488355328) <| some (.inl [.l (lL s2 0), .i (IntKind.wrap .i64 ((lI s2 1) + 1)), .l ((lL s2 2) ++ ([.agg [.str e11.1, .int .i64 n8]] : LsV))])) (some (.inl [.l (lL s2 0), .i (IntKind.wrap .i64 ((lI s2 1) + 1)), .l (lL s2 2)]))) (some (.inl [.l (lL s2 0), .i (IntKind.wrap .i64 ((lI s2 1) + 1)), .l (lL s2 2)]))))) (some (.inr (0, [.l (lL s2 2)])))) (some (.inr (0, [.l (lL s2 2)])))) [.l l1, .i 0, .l []] fun r12 => k (lL r12.2 0)
def F78 : T78 := P78 F131 F132 F133 F134
def X78 : Exits := fun i => lookN i [] [(4, [(.exit 0, xk 62 [(2, .ptr 2 0), (3, .ptr 3 0)] [(2, .agg [.nil]), (3, .agg [.own 1000000 2 .flat []])])])]
abbrev s78 : LSh := s132
def G78 (F : T78) : GTy s78 := fun M e k => F M e.1.1 (fun y1 => k (.agg [.own 0 2 .flat y1]))
abbrev W78 (F : T78) : WT := wrap s78 (G78 F)
theorem k78 (F131 : T131) (F132 : T132) (F133 : T133) (F134 : T134) : KO [(131, W131 F131), (132, W132 F132), (133, W133 F133), (134, W134 F134)] X78 78 f78 s78 (G78 (P78 F131 F132 F133 F134)) := fun _ _ _ => by kernel_rfl
theorem ok78 : FnOk D 78 (W78 F78) := oW func78 (tc ok131 (tc ok132 (tc ok133 (tc ok134 tn)))) (k78 F131 F132 F133 F134)
abbrev T41 := T39
def P41 (F78 : T78) : T41 := fun M a c d f g h j m n o p q r t u v w x y z a1 b1 k => whileK (fun s1 => br (decide ((lI s1 1) < ((lL s1 14).length : Int))) (chk (0 <= (lI s1 1)) <| idx true q5 (lL s1 14) ((lI s1 1).toNat) fun (e2 : r0_) => br (e2.1 == 2) (br e2.2.2.2.2.2.1 (br (e2.2.2.2.2.2.2.1 == 1) (F78 _ e2.2.2.2.2.2.2.2.1 fun l3 => chk (((lL s1 0).length + ([.agg [.sl 2 true l3]] : LsV).length) * 24 <= 140737488355328 /\ (lL s1 0).length + ([.agg [.sl 2 true l3]] : LsV).length <= 140737488355328) <| some (.inl [.l ((lL s1 0) ++ ([.agg [.sl 2 true l3]] : LsV)), .i (IntKind.wrap .i64 ((lI s1 1) + 1)), .s (lS s1 2), .s (lS s1 3), .b (lB s1 4), .l (lL s1 5), .l (lL s1 6), .l (lL s1 7), .s (lS s1 8), .s (lS s1 9), .l (lL s1 10), .b (lB s1 11), .l (lL s1 12), .l (lL s1 13), .l (lL s1 14), .l (lL s1 15), .l (lL s1 16), .i (lI s1 17), .i (lI s1 18), .i (lI s1 19), .i (lI s1 20), .l (lL s1 21), .l (lL s1 22), .b (lB s1 23)])) (some (.inl [.l (lL s1 0), .i (IntKind.wrap .i64 ((lI s1 1) + 1)), .s (lS s1 2), .s (lS s1 3), .b (lB s1 4), .l (lL s1 5), .l (lL s1 6), .l (lL s1 7), .s (lS s1 8), .s (lS s1 9), .l (lL s1 10), .b (lB s1 11), .l (lL s1 12), .l (lL s1 13), .l (lL s1 14), .l (lL s1 15), .l (lL s1 16), .i (lI s1 17), .i (lI s1 18), .i (lI s1 19), .i (lI s1 20), .l (lL s1 21), .l (lL s1 22), .b (lB s1 23)]))) (some (.inl [.l (lL s1 0), .i (IntKind.wrap .i64 ((lI s1 1) + 1)), .s (lS s1 2), .s (lS s1 3), .b (lB s1 4), .l (lL s1 5), .l (lL s1 6), .l (lL s1 7), .s (lS s1 8), .s (lS s1 9), .l (lL s1 10), .b (lB s1 11), .l (lL s1 12), .l (lL s1 13), .l (lL s1 14), .l (lL s1 15), .l (lL s1 16), .i (lI s1 17), .i (lI s1 18), .i (lI s1 19), .i (lI s1 20), .l (lL s1 21), .l (lL s1 22), .b (lB s1 23)]))) (some (.inl [.l (lL s1 0), .i (IntKind.wrap .i64 ((lI s1 1) + 1)), .s (lS s1 2), .s (lS s1 3), .b (lB s1 4), .l (lL s1 5), .l (lL s1 6), .l (lL s1 7), .s (lS s1 8), .s (lS s1 9), .l (lL s1 10), .b (lB s1 11), .l (lL s1 12), .l (lL s1 13), .l (lL s1 14), .l (lL s1 15), .l (lL s1 16), .i (lI s1 17), .i (lI s1 18), .i (lI s1 19), .i (lI s1 20), .l (lL s1 21), .l (lL s1 22), .b (lB s1 23)]))) (some (.inr (0, [.l (lL s1 0)])))) [.l [], .i 0, .s a, .s c, .b d, .l f, .l g, .l h, .s j, .s m, .l n, .b o, .l p, .l q, .l r, .l t, .l u, .i v, .i w, .i x, .i y, .l z, .l a1, .b b1] fun r4 => k (lL r4.2 0)
def F41 : T41 := P41 F78
def X41 : Exits := fun i => lookN i [] [(3, [(.exit 0, xk 38 [(3, .own 1000000 1 .clean [])] [])])]
abbrev s41 : LSh := s60
def G41 (F : T41) : GTy s41 := fun M e k => let a:=e.1;let b:=a.2;let c:=b.2;let d:=c.2;let f:=d.2;let g:=f.2;let h:=g.2;let i:=h.2;let j:=i.2;let l:=j.2;let m:=l.2;let n:=m.2;let o:=n.2;let p:=o.2;let q:=p.2;let r:=q.2;let s:=r.2;let t:=s.2;let u:=t.2;let v:=u.2;let w:=v.2;let x:=w.2;F M a.1 b.1 c.1 d.1 f.1 g.1 h.1 i.1 j.1 l.1 m.1 n.1 o.1 p.1 q.1 r.1 s.1 t.1 u.1 v.1 w.1 x.1 (fun y1 => k (.own 0 1 .clean y1))
abbrev W41 (F : T41) : WT := wrap s41 (G41 F)
theorem k41 (F78 : T78) : KO [(78, W78 F78)] X41 41 f41 s41 (G41 (P41 F78)) := fun _ _ _ => by kernel_rfl
theorem ok41 : FnOk D 41 (W41 F41) := oW func41 (tc ok78 tn) (k41 F78)
abbrev T77 := (M : Type) -> LsV -> LU -> (Int -> Option M) -> Option M
def P77 : T77 := fun M l name k => whileK (fun s1 => br (decide ((lI s1 2) >= 0)) (chk (0 <= (lI s1 2)) <| idx true [.sl 2 true] (lL s1 0) ((lI s1 2).toNat) fun (e2 : LsV × Unit) => whileK (fun s3 => br (decide ((lI s3 3) >= 0)) (chk (0 <= (lI s3 2)) <| idx true [.sl 2 true] (lL s3 0) ((lI s3 2).toNat) fun (e4 : LsV × Unit) => chk (0 <= (lI s3 3)) <| idx true [.str, .int .i64] e4.1 ((lI s3 3).toNat) fun (e5 : r4_) => br (e5.1 == (lS s3 1)) (chk (0 <= (lI s3 2)) <| idx true [.sl 2 true] (lL s3 0) ((lI s3 2).toNat) fun (e6 : LsV × Unit) => chk (0 <= (lI s3 3)) <| idx true [.str, .int .i64] e6.1 ((lI s3 3).toNat) fun (e7 : r4_) => some (.inr (0, [.l (lL s3 0), .s (lS s3 1), .i e7.2.1, .i (lI s3 2)]))) (some (.inl [.l (lL s3 0), .s (lS s3 1), .i (lI s3 2), .i (IntKind.wrap .i64 ((lI s3 3) - 1))]))) (some (.inr (1, [.l (lL s3 0), .s (lS s3 1), .i (lI s3 2)])))) [.l (lL s1 0), .s (lS s1 1), .i (lI s1 2), .i (IntKind.wrap .i64 ((e2.1.length : Int) - 1))] fun r8 => if r8.1 = 0 then some (.inr (0, [.i (lI r8.2 2)])) else some (.inl [.l (lL r8.2 0), .s (lS r8.2 1), .i (IntKind.wrap .i64 ((lI r8.2 2) - 1))])) (some (.inr (1, [])))) [.l l, .s name, .i (IntKind.wrap .i64 ((l.length : Int) - 1))] fun r9 => if r9.1 = 0 then k (lI r9.2 0) else k 0
def F77 : T77 := P77
def X77 : Exits := fun i => lookN i [] [(2, [(.ret, xk 45 [(4, .int .i64 0)] []), (.exit 0, xk 45 [] [])]), (5, [(.ret, xk 45 [(0, .sl 1 false []), (1, .str []), (4, .int .i64 0), (5, .int .i64 0)] []), (.exit 2, xk 45 [(0, .sl 1 false []), (1, .str []), (5, .int .i64 0)] [])])]
abbrev s77 : LSh := [(false, [.sl 1 false]), (false, [.str])]
def G77 (F : T77) : GTy s77 := fun M e k => F M e.1.1 e.2.1.1 (fun y1 => k (.int .i64 y1))
abbrev W77 (F : T77) : WT := wrap s77 (G77 F)
theorem k77 : KO [] X77 77 f77 s77 (G77 (P77)) := fun _ _ _ => by kernel_rfl
theorem ok77 : FnOk D 77 (W77 F77) := oW func77 tn (k77)
abbrev T40 := T154
def P40 (F77 : T77) : T40 := fun M l k => whileK (fun s1 => br (decide ((lI s1 1) < ((lL s1 0).length : Int))) (whileK (fun s2 => chk (0 <= (lI s2 1)) <| idx true [.sl 2 true] (lL s2 0) ((lI s2 1).toNat) fun (e3 : LsV × Unit) => br (decide ((lI s2 2) < (e3.1.length : Int))) (chk (0 <= (lI s2 1)) <| idx true [.sl 2 true] (lL s2 0) ((lI s2 1).toNat) fun (e4 : LsV × Unit) => chk (0 <= (lI s2 2)) <| idx true [.str, .int .i64] e4.1 ((lI s2 2).toNat) fun (e5 : r4_) => whileK (fun s6 => br (decide ((lI s6 4) > 0)) (chk (0 <= IntKind.wrap .i64 ((lI s6 4) - 1) /\ (IntKind.wrap .i64 ((lI s6 4) - 1)).toNat < (lL s6 6).length) <| idxAt [.str] (lL s6 6) ((IntKind.wrap .i64 ((lI s6 4) - 1)).toNat) 0 fun (e7 : r13_) => br (less (lS s6 3) e7.1) (some (.inl [.l (lL s6 0), .i (lI s6 1), .i (lI s6 2), .s (lS s6 3), .i (IntKind.wrap .i64 ((lI s6 4) - 1)), .l (lL s6 5), .l (lL s6 6)])) (some (.inr (0, [.l (lL s6 0), .i (lI s6 1), .i (lI s6 2), .s (lS s6 3), .i (lI s6 4), .l (lL s6 5), .l (lL s6 6)])))) (some (.inr (0, [.l (lL s6 0), .i (lI s6 1), .i (lI s6 2), .s (lS s6 3), .i (lI s6 4), .l (lL s6 5), .l (lL s6 6)])))) [.l (lL s2 0), .i (lI s2 1), .i (lI s2 2), .s e5.1, .i ((lL s2 4).length : Int), .l (lL s2 3), .l (lL s2 4)] fun r8 => br (decide ((lI r8.2 4) > 0)) (chk (0 <= IntKind.wrap .i64 ((lI r8.2 4) - 1) /\ (IntKind.wrap .i64 ((lI r8.2 4) - 1)).toNat < (lL r8.2 6).length) <| idxAt [.str] (lL r8.2 6) ((IntKind.wrap .i64 ((lI r8.2 4) - 1)).toNat) 0 fun (e9 : r13_) => br (e9.1 == (lS r8.2 3)) (some (.inl [.l (lL r8.2 0), .i (lI r8.2 1), .i (IntKind.wrap .i64 ((lI r8.2 2) + 1)), .l (lL r8.2 5), .l (lL r8.2 6)])) (chk (0 <= (0 : Int) /\ (0 : Int) <= (lI r8.2 4) /\ (lI r8.2 4) <= ((lL r8.2 6).length : Int)) <| chk ((([] : LsV).length + (((lL r8.2 6).take ((lI r8.2 4).toNat)).drop 0).length) * 24 <= 140737488355328 /\ ([] : LsV).length + (((lL r8.2 6).take ((lI r8.2 4).toNat)).drop 0).length <= 140737488355328) <| F77 _ (lL r8.2 0) (lS r8.2 3) fun n10 => chk (((([] : LsV) ++ (((lL r8.2 6).take ((lI r8.2 4).toNat)).drop 0)).length + ([.agg [.str (lS r8.2 3), .int .i64 n10]] : LsV).length) * 24 <= 140737488355328 /\ (([] : LsV) ++ (((lL r8.2 6).take ((lI r8.2 4).toNat)).drop 0)).length + ([.agg [.str (lS r8.2 3), .int .i64 n10]] : LsV).length <= 140737488355328) <| chk (0 <= (lI r8.2 4) /\ (lI r8.2 4) <= ((lL r8.2 6).length : Int) /\ ((lL r8.2 6).length : Int) <= ((lL r8.2 6).length : Int)) <| chk ((((([] : LsV) ++ (((lL r8.2 6).take ((lI r8.2 4).toNat)).drop 0)) ++ ([.agg [.str (lS r8.2 3), .int .i64 n10]] : LsV)).length + (((lL r8.2 6).take (((lL r8.2 6).length : Int).toNat)).drop ((lI r8.2 4).toNat)).length) * 24 <= 140737488355328 /\ ((([] : LsV) ++ (((lL r8.2 6).take ((lI r8.2 4).toNat)).drop 0)) ++ ([.agg [.str (lS r8.2 3), .int .i64 n10]] : LsV)).length + (((lL r8.2 6).take (((lL r8.2 6).length : Int).toNat)).drop ((lI r8.2 4).toNat)).length <= 140737488355328) <| some (.inl [.l (lL r8.2 0), .i (lI r8.2 1), .i (IntKind.wrap .i64 ((lI r8.2 2) + 1)), .l (lL r8.2 5), .l (((([] : LsV) ++ (((lL r8.2 6).take ((lI r8.2 4).toNat)).drop 0)) ++ ([.agg [.str (lS r8.2 3), .int .i64 n10]] : LsV)) ++ (((lL r8.2 6).take (((lL r8.2 6).length : Int).toNat)).drop ((lI r8.2 4).toNat)))]))) (chk (0 <= (0 : Int) /\ (0 : Int) <= (lI r8.2 4) /\ (lI r8.2 4) <= ((lL r8.2 6).length : Int)) <| chk ((([] : LsV).length + (((lL r8.2 6).take ((lI r8.2 4).toNat)).drop 0).length) * 24 <= 140737488355328 /\ ([] : LsV).length + (((lL r8.2 6).take ((lI r8.2 4).toNat)).drop 0).length <= 140737488355328) <| F77 _ (lL r8.2 0) (lS r8.2 3) fun n11 => chk (((([] : LsV) ++ (((lL r8.2 6).take ((lI r8.2 4).toNat)).drop 0)).length + ([.agg [.str (lS r8.2 3), .int .i64 n11]] : LsV).length) * 24 <= 140737488355328 /\ (([] : LsV) ++ (((lL r8.2 6).take ((lI r8.2 4).toNat)).drop 0)).length + ([.agg [.str (lS r8.2 3), .int .i64 n11]] : LsV).length <= 140737488355328) <| chk (0 <= (lI r8.2 4) /\ (lI r8.2 4) <= ((lL r8.2 6).length : Int) /\ ((lL r8.2 6).length : Int) <= ((lL r8.2 6).length : Int)) <| chk ((((([] : LsV) ++ (((lL r8.2 6).take ((lI r8.2 4).toNat)).drop 0)) ++ ([.agg [.str (lS r8.2 3), .int .i64 n11]] : LsV)).length + (((lL r8.2 6).take (((lL r8.2 6).length : Int).toNat)).drop ((lI r8.2 4).toNat)).length) * 24 <= 140737488355328 /\ ((([] : LsV) ++ (((lL r8.2 6).take ((lI r8.2 4).toNat)).drop 0)) ++ ([.agg [.str (lS r8.2 3), .int .i64 n11]] : LsV)).length + (((lL r8.2 6).take (((lL r8.2 6).length : Int).toNat)).drop ((lI r8.2 4).toNat)).length <= 140737488355328) <| some (.inl [.l (lL r8.2 0), .i (lI r8.2 1), .i (IntKind.wrap .i64 ((lI r8.2 2) + 1)), .l (lL r8.2 5), .l (((([] : LsV) ++ (((lL r8.2 6).take ((lI r8.2 4).toNat)).drop 0)) ++ ([.agg [.str (lS r8.2 3), .int .i64 n11]] : LsV)) ++ (((lL r8.2 6).take (((lL r8.2 6).length : Int).toNat)).drop ((lI r8.2 4).toNat)))]))) (some (.inr (0, [.l (lL s2 0), .i (lI s2 1), .l (lL s2 3), .l (lL s2 4)])))) [.l (lL s1 0), .i (lI s1 1), .i 0, .l (lL s1 2), .l (lL s1 3)] fun r12 => some (.inl [.l (lL r12.2 0), .i (IntKind.wrap .i64 ((lI r12.2 1) + 1)), .l (lL r12.2 2), .l (lL r12.2 3)])) (some (.inr (0, [.l (lL s1 2), .l (lL s1 3)])))) [.l l, .i 0, .l [], .l []] fun r13 => k (lL r13.2 1)
def F40 : T40 := P40 F77
def X40 : Exits := fun i => lookN i [] [(3, [(.exit 0, xk 88 [(2, .ptr 2 0), (3, .ptr 3 0)] [(2, .agg [.own 1000000 2 .flat []]), (3, .agg [.own 1000001 2 .flat []])])]), (6, [(.exit 2, xk 88 [(0, .sl 1 false []), (2, .ptr 2 0), (3, .ptr 3 0), (4, .int .i64 0)] [(2, .agg [.own 1000000 2 .flat []]), (3, .agg [.own 1000001 2 .flat []])])]), (10, [(.exit 4, xk 88 [(0, .sl 1 false []), (2, .ptr 2 0), (3, .ptr 3 0), (4, .int .i64 0), (5, .int .i64 0), (6, .str []), (7, .int .i64 0)] [(2, .agg [.own 1000000 2 .flat []]), (3, .agg [.own 1000001 2 .flat []])])])]
abbrev s40 : LSh := [(false, [.sl 1 false])]
def G40 (F : T40) : GTy s40 := fun M e k => F M e.1.1 (fun y1 => k (.agg [.own 0 2 .flat y1]))
abbrev W40 (F : T40) : WT := wrap s40 (G40 F)
theorem k40 (F77 : T77) : KO [(77, W77 F77)] X40 40 f40 s40 (G40 (P40 F77)) := fun _ _ _ => by kernel_rfl
theorem ok40 : FnOk D 40 (W40 F40) := oW func40 (tc ok77 tn) (k40 F77)
abbrev T17 := (M : Type) -> LU -> LU -> Bool -> LsV -> LsV -> LsV -> LU -> LU -> LsV -> Bool -> LsV -> LsV -> LsV -> LsV -> LsV -> Int -> Int -> Int -> Int -> LsV -> LsV -> Bool -> (LsV -> LsV -> LsV -> LsV -> LsV -> Bool -> Option M) -> Option M
def P17 (F38 : T38) (F39 : T39) (F41 : T41) (F40 : T40) : T17 := fun M f g h i j l m n o p b c q r s t u v w x a d k => F38 _ b c fun l1 l2 => chk ((([] : LsV).length + a.length) * 16 <= 140737488355328 /\ ([] : LsV).length + a.length <= 140737488355328) <| F39 _ f g h i j l m n o p b c q r s t u v w x a d fun l3 => F41 _ f g h i j l m n o p b c q r s t u v w x a d fun l4 => F40 _ l4 fun l5 => k l1 l2 (([] : LsV) ++ a) l3 l5 d
def F17 : T17 := P17 F38 F39 F41 F40
abbrev s17 : LSh := s60
def G17 (F : T17) : GTy s17 := fun M e k => let a:=e.1;let b:=a.2;let c:=b.2;let d:=c.2;let f:=d.2;let g:=f.2;let h:=g.2;let i:=h.2;let j:=i.2;let l:=j.2;let m:=l.2;let n:=m.2;let o:=n.2;let p:=o.2;let q:=p.2;let r:=q.2;let s:=r.2;let t:=s.2;let u:=t.2;let v:=u.2;let w:=v.2;let x:=w.2;F M a.1 b.1 c.1 d.1 f.1 g.1 h.1 i.1 j.1 l.1 m.1 n.1 o.1 p.1 q.1 r.1 s.1 t.1 u.1 v.1 w.1 x.1 (fun y1 y2 y3 y4 y5 y6 => k (.agg [.own 0 4 .clean y1, .own 1 1 .flat y2, .own 2 1 .flat y3, .own 3 1 .flat y4, .own 4 2 .flat y5, .bool y6]))
abbrev W17 (F : T17) : WT := wrap s17 (G17 F)
theorem k17 (F38 : T38) (F39 : T39) (F41 : T41) (F40 : T40) : KO [(38, W38 F38), (39, W39 F39), (41, W41 F41), (40, W40 F40)] noX 17 f17 s17 (G17 (P17 F38 F39 F41 F40)) := fun _ _ _ => by kernel_rfl
theorem ok17 : FnOk D 17 (W17 F17) := oW func17 (tc ok38 (tc ok39 (tc ok41 (tc ok40 tn)))) (k17 F38 F39 F41 F40)
abbrev T72 := (M : Type) -> LsV -> LsV -> (Bool -> Option M) -> Option M
def P72 : T72 := fun M a b k => br ((a.length : Int) != (b.length : Int)) (k false) (whileK (fun s1 => br (decide ((lI s1 2) < ((lL s1 0).length : Int))) (chk (0 <= (lI s1 2)) <| idx false [.int .i64] (lL s1 0) ((lI s1 2).toNat) fun (e2 : Int × Unit) => chk (0 <= (lI s1 2)) <| idx false [.int .i64] (lL s1 1) ((lI s1 2).toNat) fun (e3 : Int × Unit) => br (e2.1 != e3.1) (some (.inr (0, [.b false]))) (some (.inl [.l (lL s1 0), .l (lL s1 1), .i (IntKind.wrap .i64 ((lI s1 2) + 1))]))) (some (.inr (1, [])))) [.l a, .l b, .i 0] fun r4 => if r4.1 = 0 then k (lB r4.2 0) else k true)
def F72 : T72 := P72
def X72 : Exits := fun i => lookN i [] [(4, [(.ret, xk 26 [(4, .bool false)] []), (.exit 0, xk 26 [] [])])]
abbrev s72 : LSh := [(false, [.sl 1 true]), (false, [.sl 1 true])]
def G72 (F : T72) : GTy s72 := fun M e k => F M e.1.1 e.2.1.1 (fun y1 => k (.bool y1))
abbrev W72 (F : T72) : WT := wrap s72 (G72 F)
theorem k72 : KO [] X72 72 f72 s72 (G72 (P72)) := fun _ _ _ => by kernel_rfl
theorem ok72 : FnOk D 72 (W72 F72) := oW func72 tn (k72)
abbrev T73 := (M : Type) -> LU -> LU -> Int -> LsV -> LU -> LU -> Int -> LsV -> (Bool -> Option M) -> Option M
def P73 : T73 := fun M a c d f g h j m k => br (!(a == g)) (k false) (br (!(c == h)) (k false) (br (d != j) (k false) (br ((f.length : Int) != (m.length : Int)) (k false) (whileK (fun s1 => br (decide ((lI s1 0) < ((lL s1 4).length : Int))) (chk (0 <= (lI s1 0)) <| idx true [.str, .str] (lL s1 4) ((lI s1 0).toNat) fun (e2 : r11_) => chk (0 <= (lI s1 0)) <| idx true [.str, .str] (lL s1 8) ((lI s1 0).toNat) fun (e3 : r11_) => br (!((e2.1 == e3.1) && ((e2.2.1 == e3.2.1) && true))) (some (.inr (0, [.b false]))) (some (.inl [.i (IntKind.wrap .i64 ((lI s1 0) + 1)), .s (lS s1 1), .s (lS s1 2), .i (lI s1 3), .l (lL s1 4), .s (lS s1 5), .s (lS s1 6), .i (lI s1 7), .l (lL s1 8)]))) (some (.inr (1, [])))) [.i 0, .s a, .s c, .i d, .l f, .s g, .s h, .i j, .l m] fun r4 => if r4.1 = 0 then k (lB r4.2 0) else k true))))
def F73 : T73 := P73
def X73 : Exits := fun i => lookN i [] [(4, [(.ret, xk 52 [(4, .bool false)] []), (.exit 0, xk 52 [] [])])]
abbrev s73 : LSh := [(true, q7), (true, q7)]
def G73 (F : T73) : GTy s73 := fun M e k => F M e.1.1 e.1.2.1 e.1.2.2.1 e.1.2.2.2.1 e.2.1.1 e.2.1.2.1 e.2.1.2.2.1 e.2.1.2.2.2.1 (fun y1 => k (.bool y1))
abbrev W73 (F : T73) : WT := wrap s73 (G73 F)
theorem k73 : KO [] X73 73 f73 s73 (G73 (P73)) := fun _ _ _ => by kernel_rfl
theorem ok73 : FnOk D 73 (W73 F73) := oW func73 tn (k73)
abbrev T35 := (M : Type) -> LsV -> LsV -> LsV -> LsV -> (Bool -> Option M) -> Option M
def P35 (F72 : T72) (F73 : T73) : T35 := fun M a c d f k => br ((a.length : Int) != (d.length : Int)) (k false) (F72 _ c f fun b1 => br (!b1) (k false) (whileK (fun s2 => br (decide ((lI s2 0) < ((lL s2 1).length : Int))) (chk (0 <= (lI s2 0)) <| idx true q7 (lL s2 1) ((lI s2 0).toNat) fun (e3 : r7_) => chk (0 <= (lI s2 0)) <| idx true q7 (lL s2 3) ((lI s2 0).toNat) fun (e4 : r7_) => F73 _ e3.1 e3.2.1 e3.2.2.1 e3.2.2.2.1 e4.1 e4.2.1 e4.2.2.1 e4.2.2.2.1 fun b5 => br (!b5) (some (.inr (0, [.b false]))) (some (.inl [.i (IntKind.wrap .i64 ((lI s2 0) + 1)), .l (lL s2 1), .l (lL s2 2), .l (lL s2 3), .l (lL s2 4)]))) (some (.inr (1, [])))) [.i 0, .l a, .l c, .l d, .l f] fun r6 => if r6.1 = 0 then k (lB r6.2 0) else k true))
def F35 : T35 := P35 F72 F73
def X35 : Exits := fun i => lookN i [] [(4, [(.ret, xk 40 [(4, .bool false)] []), (.exit 0, xk 40 [] [])])]
abbrev s35 : LSh := [(true, q12), (true, q12)]
def G35 (F : T35) : GTy s35 := fun M e k => F M e.1.1 e.1.2.1 e.2.1.1 e.2.1.2.1 (fun y1 => k (.bool y1))
abbrev W35 (F : T35) : WT := wrap s35 (G35 F)
theorem k35 (F72 : T72) (F73 : T73) : KO [(72, W72 F72), (73, W73 F73)] X35 35 f35 s35 (G35 (P35 F72 F73)) := fun _ _ _ => by kernel_rfl
theorem ok35 : FnOk D 35 (W35 F35) := oW func35 (tc ok72 (tc ok73 tn)) (k35 F72 F73)
abbrev T36 := T72
def P36 : T36 := fun M a b k => br ((a.length : Int) != (b.length : Int)) (k false) (whileK (fun s1 => br (decide ((lI s1 2) < ((lL s1 0).length : Int))) (chk (0 <= (lI s1 2)) <| idx false [.str] (lL s1 0) ((lI s1 2).toNat) fun (e2 : r13_) => chk (0 <= (lI s1 2)) <| idx false [.str] (lL s1 1) ((lI s1 2).toNat) fun (e3 : r13_) => br (!(e2.1 == e3.1)) (some (.inr (0, [.b false]))) (some (.inl [.l (lL s1 0), .l (lL s1 1), .i (IntKind.wrap .i64 ((lI s1 2) + 1))]))) (some (.inr (1, [])))) [.l a, .l b, .i 0] fun r4 => if r4.1 = 0 then k (lB r4.2 0) else k true)
def F36 : T36 := P36
def X36 : Exits := fun i => lookN i [] [(4, [(.ret, xk 26 [(4, .bool false)] []), (.exit 0, xk 26 [] [])])]
abbrev s36 : LSh := s72
abbrev G36 := G72
abbrev W36 (F : T36) : WT := wrap s36 (G36 F)
theorem k36 : KO [] X36 36 f36 s36 (G36 (P36)) := fun _ _ _ => by kernel_rfl
theorem ok36 : FnOk D 36 (W36 F36) := oW func36 tn (k36)
abbrev T37 := T72
def P37 : T37 := fun M a b k => br ((a.length : Int) != (b.length : Int)) (k false) (whileK (fun s1 => br (decide ((lI s1 2) < ((lL s1 0).length : Int))) (chk (0 <= (lI s1 2)) <| idx true [.sl 2 true] (lL s1 0) ((lI s1 2).toNat) fun (e2 : LsV × Unit) => chk (0 <= (lI s1 2)) <| idx true [.sl 2 true] (lL s1 1) ((lI s1 2).toNat) fun (e3 : LsV × Unit) => br ((e2.1.length : Int) != (e3.1.length : Int)) (some (.inr (0, [.b false]))) (whileK (fun s4 => chk (0 <= (lI s4 2)) <| idx true [.sl 2 true] (lL s4 0) ((lI s4 2).toNat) fun (e5 : LsV × Unit) => br (decide ((lI s4 3) < (e5.1.length : Int))) (chk (0 <= (lI s4 2)) <| idx true [.sl 2 true] (lL s4 0) ((lI s4 2).toNat) fun (e6 : LsV × Unit) => chk (0 <= (lI s4 3)) <| idx true [.str, .int .i64] e6.1 ((lI s4 3).toNat) fun (e7 : r4_) => chk (0 <= (lI s4 2)) <| idx true [.sl 2 true] (lL s4 1) ((lI s4 2).toNat) fun (e8 : LsV × Unit) => chk (0 <= (lI s4 3)) <| idx true [.str, .int .i64] e8.1 ((lI s4 3).toNat) fun (e9 : r4_) => br (!((e7.1 == e9.1) && ((e7.2.1 == e9.2.1) && true))) (some (.inr (0, [.l (lL s4 0), .l (lL s4 1), .b false, .i (lI s4 2)]))) (some (.inl [.l (lL s4 0), .l (lL s4 1), .i (lI s4 2), .i (IntKind.wrap .i64 ((lI s4 3) + 1))]))) (some (.inr (1, [.l (lL s4 0), .l (lL s4 1), .i (lI s4 2)])))) [.l (lL s1 0), .l (lL s1 1), .i (lI s1 2), .i 0] fun r10 => if r10.1 = 0 then some (.inr (0, [.b (lB r10.2 2)])) else some (.inl [.l (lL r10.2 0), .l (lL r10.2 1), .i (IntKind.wrap .i64 ((lI r10.2 2) + 1))]))) (some (.inr (1, [])))) [.l a, .l b, .i 0] fun r11 => if r11.1 = 0 then k (lB r11.2 0) else k true)
def F37 : T37 := P37
def X37 : Exits := fun i => lookN i [] [(4, [(.ret, xk 58 [(4, .bool false)] []), (.exit 0, xk 58 [] [])]), (9, [(.ret, xk 58 [(0, .sl 1 false []), (1, .sl 1 false []), (4, .bool false), (5, .int .i64 0)] []), (.exit 2, xk 58 [(0, .sl 1 false []), (1, .sl 1 false []), (5, .int .i64 0)] [])])]
abbrev s37 : LSh := [(false, [.sl 1 false]), (false, [.sl 1 false])]
def G37 (F : T37) : GTy s37 := fun M e k => F M e.1.1 e.2.1.1 (fun y1 => k (.bool y1))
abbrev W37 (F : T37) : WT := wrap s37 (G37 F)
theorem k37 : KO [] X37 37 f37 s37 (G37 (P37)) := fun _ _ _ => by kernel_rfl
theorem ok37 : FnOk D 37 (W37 F37) := oW func37 tn (k37)
abbrev T16 := (M : Type) -> LsV -> LsV -> LsV -> LsV -> LsV -> Bool -> LsV -> LsV -> LsV -> LsV -> LsV -> Bool -> (Bool -> Option M) -> Option M
def P16 (F35 : T35) (F36 : T36) (F37 : T37) : T16 := fun M a b c d f g h i j l m n k => F35 _ a b h i fun b1 => br b1 (F36 _ c j fun b2 => br b2 (F36 _ d l fun b3 => br b3 (F37 _ [.agg [.sl 2 true f]] [.agg [.sl 2 true m]] fun b4 => br b4 (k (g == n)) (k false)) (k false)) (k false)) (k false)
def F16 : T16 := P16 F35 F36 F37
abbrev s16 : LSh := [(true, q11), (true, q11)]
def G16 (F : T16) : GTy s16 := fun M e k => let a:=e.1;let b:=a.2;let c:=b.2;let d:=c.2;let f:=d.2;let g:=f.2;let h:=e.2.1;let i:=h.2;let j:=i.2;let l:=j.2;let m:=l.2;let n:=m.2;F M a.1 b.1 c.1 d.1 f.1 g.1 h.1 i.1 j.1 l.1 m.1 n.1 (fun y1 => k (.bool y1))
abbrev W16 (F : T16) : WT := wrap s16 (G16 F)
theorem k16 (F35 : T35) (F36 : T36) (F37 : T37) : KO [(35, W35 F35), (36, W36 F36), (37, W37 F37)] noX 16 f16 s16 (G16 (P16 F35 F36 F37)) := fun _ _ _ => by kernel_rfl
theorem ok16 : FnOk D 16 (W16 F16) := oW func16 (tc ok35 (tc ok36 (tc ok37 tn))) (k16 F35 F36 F37)
abbrev T6 := (M : Type) -> LsV -> Int -> LsV -> Int -> (Bool -> Option M) -> Option M
def P6 (F17 : T17) (F16 : T16) : T6 := fun M a c d f k => br (c != f) (k false) (br ((a.length : Int) != (d.length : Int)) (k false) (whileK (fun s1 => br (decide ((lI s1 0) < ((lL s1 1).length : Int))) (chk (0 <= (lI s1 0)) <| idx true q1 (lL s1 1) ((lI s1 0).toNat) fun (e2 : r10_) => chk (0 <= (lI s1 0)) <| idx true q1 (lL s1 3) ((lI s1 0).toNat) fun (e3 : r10_) => br (!((e2.1 == e3.1) && ((e2.2.1 == e3.2.1) && true))) (some (.inr (0, [.b false]))) (br (!(e2.2.2.2.2.2.2.2.2.2.2.2.2.2.2.2.2.2.2.2.2.2.2.2.2.1 == e3.2.2.2.2.2.2.2.2.2.2.2.2.2.2.2.2.2.2.2.2.2.2.2.2.1)) (some (.inr (0, [.b false]))) (F17 _ e2.2.2.1 e2.2.2.2.1 e2.2.2.2.2.1 e2.2.2.2.2.2.1 e2.2.2.2.2.2.2.1 e2.2.2.2.2.2.2.2.1 e2.2.2.2.2.2.2.2.2.1 e2.2.2.2.2.2.2.2.2.2.1 e2.2.2.2.2.2.2.2.2.2.2.1 e2.2.2.2.2.2.2.2.2.2.2.2.1 e2.2.2.2.2.2.2.2.2.2.2.2.2.1 e2.2.2.2.2.2.2.2.2.2.2.2.2.2.1 e2.2.2.2.2.2.2.2.2.2.2.2.2.2.2.1 e2.2.2.2.2.2.2.2.2.2.2.2.2.2.2.2.1 e2.2.2.2.2.2.2.2.2.2.2.2.2.2.2.2.2.1 e2.2.2.2.2.2.2.2.2.2.2.2.2.2.2.2.2.2.1 e2.2.2.2.2.2.2.2.2.2.2.2.2.2.2.2.2.2.2.1 e2.2.2.2.2.2.2.2.2.2.2.2.2.2.2.2.2.2.2.2.1 e2.2.2.2.2.2.2.2.2.2.2.2.2.2.2.2.2.2.2.2.2.1 e2.2.2.2.2.2.2.2.2.2.2.2.2.2.2.2.2.2.2.2.2.2.1 e2.2.2.2.2.2.2.2.2.2.2.2.2.2.2.2.2.2.2.2.2.2.2.1 e2.2.2.2.2.2.2.2.2.2.2.2.2.2.2.2.2.2.2.2.2.2.2.2.1 fun l4 l5 l6 l7 l8 b9 => F17 _ e3.2.2.1 e3.2.2.2.1 e3.2.2.2.2.1 e3.2.2.2.2.2.1 e3.2.2.2.2.2.2.1 e3.2.2.2.2.2.2.2.1 e3.2.2.2.2.2.2.2.2.1 e3.2.2.2.2.2.2.2.2.2.1 e3.2.2.2.2.2.2.2.2.2.2.1 e3.2.2.2.2.2.2.2.2.2.2.2.1 e3.2.2.2.2.2.2.2.2.2.2.2.2.1 e3.2.2.2.2.2.2.2.2.2.2.2.2.2.1 e3.2.2.2.2.2.2.2.2.2.2.2.2.2.2.1 e3.2.2.2.2.2.2.2.2.2.2.2.2.2.2.2.1 e3.2.2.2.2.2.2.2.2.2.2.2.2.2.2.2.2.1 e3.2.2.2.2.2.2.2.2.2.2.2.2.2.2.2.2.2.1 e3.2.2.2.2.2.2.2.2.2.2.2.2.2.2.2.2.2.2.1 e3.2.2.2.2.2.2.2.2.2.2.2.2.2.2.2.2.2.2.2.1 e3.2.2.2.2.2.2.2.2.2.2.2.2.2.2.2.2.2.2.2.2.1 e3.2.2.2.2.2.2.2.2.2.2.2.2.2.2.2.2.2.2.2.2.2.1 e3.2.2.2.2.2.2.2.2.2.2.2.2.2.2.2.2.2.2.2.2.2.2.1 e3.2.2.2.2.2.2.2.2.2.2.2.2.2.2.2.2.2.2.2.2.2.2.2.1 fun l10 l11 l12 l13 l14 b15 => F16 _ l4 l5 l6 l7 l8 b9 l10 l11 l12 l13 l14 b15 fun b16 => br (!b16) (some (.inr (0, [.b false]))) (some (.inl [.i (IntKind.wrap .i64 ((lI s1 0) + 1)), .l (lL s1 1), .i (lI s1 2), .l (lL s1 3), .i (lI s1 4)]))))) (some (.inr (1, [])))) [.i 0, .l a, .i c, .l d, .i f] fun r17 => if r17.1 = 0 then k (lB r17.2 0) else k true))
def F6 : T6 := P6 F17 F16
def X6 : Exits := fun i => lookN i [] [(4, [(.ret, xk 61 [(4, .bool false)] []), (.exit 0, xk 61 [] [])])]
abbrev s6 : LSh := [(true, q13), (true, q13)]
def G6 (F : T6) : GTy s6 := fun M e k => F M e.1.1 e.1.2.1 e.2.1.1 e.2.1.2.1 (fun y1 => k (.bool y1))
abbrev W6 (F : T6) : WT := wrap s6 (G6 F)
theorem k6 (F17 : T17) (F16 : T16) : KO [(17, W17 F17), (16, W16 F16)] X6 6 f6 s6 (G6 (P6 F17 F16)) := fun _ _ _ => by kernel_rfl
theorem ok6 : FnOk D 6 (W6 F6) := oW func6 (tc ok17 (tc ok16 tn)) (k6 F17 F16)
abbrev T56 := (M : Type) -> LsV -> LU -> LU -> LU -> Int -> Int -> LU -> Int -> Bool -> LU -> Int -> (Bool -> Option M) -> Option M
def P56 : T56 := fun M a c d f g h j m n o p k => whileK (fun s1 => br (decide ((lI s1 0) < ((lL s1 1).length : Int))) (chk (0 <= (lI s1 0)) <| idx true q3 (lL s1 1) ((lI s1 0).toNat) fun (e2 : r9_) => br ((e2.1 == (lS s1 2)) && ((e2.2.1 == (lS s1 3)) && ((e2.2.2.1 == (lS s1 4)) && ((e2.2.2.2.1 == (lI s1 5)) && ((e2.2.2.2.2.1 == (lI s1 6)) && ((e2.2.2.2.2.2.1 == (lS s1 7)) && ((e2.2.2.2.2.2.2.1 == (lI s1 8)) && ((e2.2.2.2.2.2.2.2.1 == (lB s1 9)) && ((e2.2.2.2.2.2.2.2.2.1 == (lS s1 10)) && ((e2.2.2.2.2.2.2.2.2.2.1 == (lI s1 11)) && true)))))))))) (some (.inr (0, [.b true]))) (some (.inl [.i (IntKind.wrap .i64 ((lI s1 0) + 1)), .l (lL s1 1), .s (lS s1 2), .s (lS s1 3), .s (lS s1 4), .i (lI s1 5), .i (lI s1 6), .s (lS s1 7), .i (lI s1 8), .b (lB s1 9), .s (lS s1 10), .i (lI s1 11)]))) (some (.inr (1, [])))) [.i 0, .l a, .s c, .s d, .s f, .i g, .i h, .s j, .i m, .b n, .s o, .i p] fun r3 => if r3.1 = 0 then k (lB r3.2 0) else k false
def F56 : T56 := P56
def X56 : Exits := fun i => lookN i [] [(2, [(.ret, xk 20 [(4, .bool false)] []), (.exit 0, xk 20 [] [])])]
abbrev s56 : LSh := [(true, [.sl 10 true]), (true, q3)]
def G56 (F : T56) : GTy s56 := fun M e k => let a:=e.2.1;let b:=a.2;let c:=b.2;let d:=c.2;let f:=d.2;let g:=f.2;let h:=g.2;let i:=h.2;let j:=i.2;let l:=j.2;F M e.1.1 a.1 b.1 c.1 d.1 f.1 g.1 h.1 i.1 j.1 l.1 (fun y1 => k (.bool y1))
abbrev W56 (F : T56) : WT := wrap s56 (G56 F)
theorem k56 : KO [] X56 56 f56 s56 (G56 (P56)) := fun _ _ _ => by kernel_rfl
theorem ok56 : FnOk D 56 (W56 F56) := oW func56 tn (k56)
abbrev T26 := T72
def P26 (F56 : T56) : T26 := fun M a c k => whileK (fun s1 => br (decide ((lI s1 0) < ((lL s1 1).length : Int))) (chk (0 <= (lI s1 0)) <| idx true q3 (lL s1 1) ((lI s1 0).toNat) fun (e2 : r9_) => F56 _ (lL s1 2) e2.1 e2.2.1 e2.2.2.1 e2.2.2.2.1 e2.2.2.2.2.1 e2.2.2.2.2.2.1 e2.2.2.2.2.2.2.1 e2.2.2.2.2.2.2.2.1 e2.2.2.2.2.2.2.2.2.1 e2.2.2.2.2.2.2.2.2.2.1 fun b3 => br (!b3) (some (.inr (0, [.b false, .l (lL s1 1), .l (lL s1 2)]))) (some (.inl [.i (IntKind.wrap .i64 ((lI s1 0) + 1)), .l (lL s1 1), .l (lL s1 2)]))) (some (.inr (1, [.l (lL s1 1), .l (lL s1 2)])))) [.i 0, .l a, .l c] fun r4 => if r4.1 = 0 then k (lB r4.2 0) else whileK (fun s5 => br (decide ((lI s5 0) < ((lL s5 2).length : Int))) (chk (0 <= (lI s5 0)) <| idx true q3 (lL s5 2) ((lI s5 0).toNat) fun (e6 : r9_) => F56 _ (lL s5 1) e6.1 e6.2.1 e6.2.2.1 e6.2.2.2.1 e6.2.2.2.2.1 e6.2.2.2.2.2.1 e6.2.2.2.2.2.2.1 e6.2.2.2.2.2.2.2.1 e6.2.2.2.2.2.2.2.2.1 e6.2.2.2.2.2.2.2.2.2.1 fun b7 => br (!b7) (some (.inr (0, [.b false]))) (some (.inl [.i (IntKind.wrap .i64 ((lI s5 0) + 1)), .l (lL s5 1), .l (lL s5 2)]))) (some (.inr (1, [])))) [.i 0, .l (lL r4.2 0), .l (lL r4.2 1)] fun r8 => if r8.1 = 0 then k (lB r8.2 0) else k true
def F26 : T26 := P26 F56
def X26 : Exits := fun i => lookN i [] [(2, [(.ret, xk 37 [(2, .ptr 2 0), (3, .ptr 3 0), (4, .bool false)] [(2, .agg [.sl 10 true []]), (3, .agg [.sl 10 true []])]), (.exit 0, xk 37 [(2, .ptr 2 0), (3, .ptr 3 0)] [(2, .agg [.sl 10 true []]), (3, .agg [.sl 10 true []])])]), (7, [(.ret, xk 37 [(4, .bool false)] []), (.exit 2, xk 37 [] [])])]
abbrev s26 : LSh := [(true, [.sl 10 true]), (true, [.sl 10 true])]
def G26 (F : T26) : GTy s26 := fun M e k => F M e.1.1 e.2.1.1 (fun y1 => k (.bool y1))
abbrev W26 (F : T26) : WT := wrap s26 (G26 F)
theorem k26 (F56 : T56) : KO [(56, W56 F56)] X26 26 f26 s26 (G26 (P26 F56)) := fun _ _ _ => by kernel_rfl
theorem ok26 : FnOk D 26 (W26 F26) := oW func26 (tc ok56 tn) (k26 F56)
abbrev T27 := T72
def P27 : T27 := fun M a b k => br ((a.length : Int) != (b.length : Int)) (k false) (whileK (fun s1 => br (decide ((lI s1 2) < ((lL s1 0).length : Int))) (chk (0 <= (lI s1 2)) <| idx true [.str, .sl 7 true] (lL s1 0) ((lI s1 2).toNat) fun (e2 : r12_) => chk (0 <= (lI s1 2)) <| idx true [.str, .sl 7 true] (lL s1 1) ((lI s1 2).toNat) fun (e3 : r12_) => br (!(e2.1 == e3.1)) (some (.inr (0, [.b false]))) (chk (0 <= (lI s1 2)) <| idx true [.str, .sl 7 true] (lL s1 0) ((lI s1 2).toNat) fun (e4 : r12_) => chk (0 <= (lI s1 2)) <| idx true [.str, .sl 7 true] (lL s1 1) ((lI s1 2).toNat) fun (e5 : r12_) => br ((e4.2.1.length : Int) != (e5.2.1.length : Int)) (some (.inr (0, [.b false]))) (whileK (fun s6 => chk (0 <= (lI s6 2)) <| idx true [.str, .sl 7 true] (lL s6 0) ((lI s6 2).toNat) fun (e7 : r12_) => br (decide ((lI s6 3) < (e7.2.1.length : Int))) (chk (0 <= (lI s6 2)) <| idx true [.str, .sl 7 true] (lL s6 0) ((lI s6 2).toNat) fun (e8 : r12_) => chk (0 <= (lI s6 3)) <| idx true q6 e8.2.1 ((lI s6 3).toNat) fun (e9 : r3_) => chk (0 <= (lI s6 2)) <| idx true [.str, .sl 7 true] (lL s6 1) ((lI s6 2).toNat) fun (e10 : r12_) => chk (0 <= (lI s6 3)) <| idx true q6 e10.2.1 ((lI s6 3).toNat) fun (e11 : r3_) => br (!((e9.1 == e11.1) && ((e9.2.1 == e11.2.1) && ((e9.2.2.1 == e11.2.2.1) && ((e9.2.2.2.1 == e11.2.2.2.1) && ((e9.2.2.2.2.1 == e11.2.2.2.2.1) && ((e9.2.2.2.2.2.1 == e11.2.2.2.2.2.1) && ((e9.2.2.2.2.2.2.1 == e11.2.2.2.2.2.2.1) && true)))))))) (some (.inr (0, [.l (lL s6 0), .l (lL s6 1), .b false, .i (lI s6 2)]))) (some (.inl [.l (lL s6 0), .l (lL s6 1), .i (lI s6 2), .i (IntKind.wrap .i64 ((lI s6 3) + 1))]))) (some (.inr (1, [.l (lL s6 0), .l (lL s6 1), .i (lI s6 2)])))) [.l (lL s1 0), .l (lL s1 1), .i (lI s1 2), .i 0] fun r12 => if r12.1 = 0 then some (.inr (0, [.b (lB r12.2 2)])) else some (.inl [.l (lL r12.2 0), .l (lL r12.2 1), .i (IntKind.wrap .i64 ((lI r12.2 2) + 1))])))) (some (.inr (1, [])))) [.l a, .l b, .i 0] fun r13 => if r13.1 = 0 then k (lB r13.2 0) else k true)
def F27 : T27 := P27
def X27 : Exits := fun i => lookN i [] [(4, [(.ret, xk 71 [(4, .bool false)] []), (.exit 0, xk 71 [] [])]), (9, [(.ret, xk 71 [(0, .sl 2 false []), (1, .sl 2 false []), (4, .bool false), (5, .int .i64 0)] []), (.exit 2, xk 71 [(0, .sl 2 false []), (1, .sl 2 false []), (5, .int .i64 0)] [])])]
abbrev s27 : LSh := [(false, [.sl 2 false]), (false, [.sl 2 false])]
def G27 (F : T27) : GTy s27 := fun M e k => F M e.1.1 e.2.1.1 (fun y1 => k (.bool y1))
abbrev W27 (F : T27) : WT := wrap s27 (G27 F)
theorem k27 : KO [] X27 27 f27 s27 (G27 (P27)) := fun _ _ _ => by kernel_rfl
theorem ok27 : FnOk D 27 (W27 F27) := oW func27 tn (k27)
abbrev T11 := (M : Type) -> LsV -> LsV -> LsV -> Int -> LsV -> Int -> Bool -> LU -> LU -> Bool -> LsV -> LsV -> LsV -> LU -> LU -> LsV -> Bool -> LsV -> LsV -> LsV -> LsV -> LsV -> Int -> Int -> Int -> Int -> LsV -> LsV -> Bool -> LsV -> LsV -> Int -> Bool -> LsV -> LsV -> LsV -> Int -> LsV -> Int -> Bool -> LU -> LU -> Bool -> LsV -> LsV -> LsV -> LU -> LU -> LsV -> Bool -> LsV -> LsV -> LsV -> LsV -> LsV -> Int -> Int -> Int -> Int -> LsV -> LsV -> Bool -> LsV -> LsV -> Int -> Bool -> (Bool -> Option M) -> Option M
def P11 (F6 : T6) (F26 : T26) (F27 : T27) : T11 := fun M a b m c d f n o p q r s t u v w x y z a1 c1 d1 f1 g1 h1 i1 j1 l1 m1 n1 o1 p1 q1 g h r1 i j l s1 t1 u1 v1 w1 x1 y1 z1 a2 c2 d2 f2 g2 h2 i2 j2 l2 m2 n2 o2 p2 q2 r2 s2 t2 u2 v2 k => F6 _ d f j l fun b1 => br b1 (F26 _ b h fun b2 => br b2 (F27 _ a g fun b3 => br b3 (k (c == i)) (k false)) (k false)) (k false)
def F11 : T11 := P11 F6 F26 F27
abbrev s11 : LSh := [(true, q0), (true, q0)]
def G11 (F : T11) : GTy s11 := fun M e k => let a:=e.1;let b:=a.2;let c:=b.2;let d:=c.2;let f:=d.2;let g:=f.2;let h:=g.2;let i:=h.2;let j:=i.2;let l:=j.2;let m:=l.2;let n:=m.2;let o:=n.2;let p:=o.2;let q:=p.2;let r:=q.2;let s:=r.2;let t:=s.2;let u:=t.2;let v:=u.2;let w:=v.2;let x:=w.2;let y:=x.2;let z:=y.2;let a1:=z.2;let b1:=a1.2;let c1:=b1.2;let d1:=c1.2;let f1:=d1.2;let g1:=f1.2;let h1:=g1.2;let i1:=h1.2;let j1:=i1.2;let l1:=e.2.1;let m1:=l1.2;let n1:=m1.2;let o1:=n1.2;let p1:=o1.2;let q1:=p1.2;let r1:=q1.2;let s1:=r1.2;let t1:=s1.2;let u1:=t1.2;let v1:=u1.2;let w1:=v1.2;let x1:=w1.2;let y1:=x1.2;let z1:=y1.2;let a2:=z1.2;let b2:=a2.2;let c2:=b2.2;let d2:=c2.2;let f2:=d2.2;let g2:=f2.2;let h2:=g2.2;let i2:=h2.2;let j2:=i2.2;let l2:=j2.2;let m2:=l2.2;let n2:=m2.2;let o2:=n2.2;let p2:=o2.2;let q2:=p2.2;let r2:=q2.2;let s2:=r2.2;let t2:=s2.2;F M a.1 b.1 c.1 d.1 f.1 g.1 h.1 i.1 j.1 l.1 m.1 n.1 o.1 p.1 q.1 r.1 s.1 t.1 u.1 v.1 w.1 x.1 y.1 z.1 a1.1 b1.1 c1.1 d1.1 f1.1 g1.1 h1.1 i1.1 j1.1 l1.1 m1.1 n1.1 o1.1 p1.1 q1.1 r1.1 s1.1 t1.1 u1.1 v1.1 w1.1 x1.1 y1.1 z1.1 a2.1 b2.1 c2.1 d2.1 f2.1 g2.1 h2.1 i2.1 j2.1 l2.1 m2.1 n2.1 o2.1 p2.1 q2.1 r2.1 s2.1 t2.1 (fun y1 => k (.bool y1))
abbrev W11 (F : T11) : WT := wrap s11 (G11 F)
theorem k11 (F6 : T6) (F26 : T26) (F27 : T27) : KO [(6, W6 F6), (26, W26 F26), (27, W27 F27)] noX 11 f11 s11 (G11 (P11 F6 F26 F27)) := fun _ _ _ => by kernel_rfl
theorem ok11 : FnOk D 11 (W11 F11) := oW func11 (tc ok6 (tc ok26 (tc ok27 tn))) (k11 F6 F26 F27)
abbrev T46 := T109
def P46 : T46 := fun M b a k => chk ((([] : LsV).length + a.length) * 8 <= 140737488355328 /\ ([] : LsV).length + a.length <= 140737488355328) <| whileK (fun s1 => br (decide ((lI s1 2) < (lI s1 1))) (chk (0 <= (lI s1 2)) <| idx true q7 (lL s1 0) ((lI s1 2).toNat) fun (e2 : r7_) => chk ((([] : LsV).length + e2.2.2.2.1.length) * 32 <= 140737488355328 /\ ([] : LsV).length + e2.2.2.2.1.length <= 140737488355328) <| chk (((lL s1 3).length + ([.agg [.str e2.1, .str e2.2.1, .int .i64 e2.2.2.1, .sl 2 true (([] : LsV) ++ e2.2.2.2.1)]] : LsV).length) * 64 <= 140737488355328 /\ (lL s1 3).length + ([.agg [.str e2.1, .str e2.2.1, .int .i64 e2.2.2.1, .sl 2 true (([] : LsV) ++ e2.2.2.2.1)]] : LsV).length <= 140737488355328) <| some (.inl [.l (lL s1 0), .i (lI s1 1), .i (IntKind.wrap .i64 ((lI s1 2) + 1)), .l ((lL s1 3) ++ ([.agg [.str e2.1, .str e2.2.1, .int .i64 e2.2.2.1, .sl 2 true (([] : LsV) ++ e2.2.2.2.1)]] : LsV)), .l (lL s1 4)])) (some (.inr (0, [.l (lL s1 3), .l (lL s1 4)])))) [.l b, .i (b.length : Int), .i 0, .l [], .l (([] : LsV) ++ a)] fun r3 => k (lL r3.2 0) (lL r3.2 1)
def F46 : T46 := P46
def X46 : Exits := fun i => lookN i [] [(3, [(.exit 0, xk 31 [(2, .ptr 2 0), (3, .ptr 3 0)] [(2, .agg [.nil, .nil]), (3, .agg [.own 1000000 4 .clean [], .own 1000001 1 .flat []])])])]
abbrev s46 : LSh := s109
abbrev G46 := G109
abbrev W46 (F : T46) : WT := wrap s46 (G46 F)
theorem k46 : KO [] X46 46 f46 s46 (G46 (P46)) := fun _ _ _ => by kernel_rfl
theorem ok46 : FnOk D 46 (W46 F46) := oW func46 tn (k46)
abbrev T85 := T76
def P85 : T85 := fun M mode k => br (mode == 1) (k 4) (br (mode == 2) (k 3) (br (mode == 3) (k 2) (br (mode == 4) (k 2) (k 0))))
def F85 : T85 := P85
abbrev s85 : LSh := s76
abbrev G85 := G76
abbrev W85 (F : T85) : WT := wrap s85 (G85 F)
theorem k85 : KO [] noX 85 f85 s85 (G85 (P85)) := fun _ _ _ => by kernel_rfl
theorem ok85 : FnOk D 85 (W85 F85) := oW func85 tn (k85)
abbrev T145 := T134
def P145 : T145 := fun M n low high k => br (decide (low <= n)) (k (decide (n <= high))) (k false)
def F145 : T145 := P145
abbrev s145 : LSh := s134
abbrev G145 := G134
abbrev W145 (F : T145) : WT := wrap s145 (G145 F)
theorem k145 : KO [] noX 145 f145 s145 (G145 (P145)) := fun _ _ _ => by kernel_rfl
theorem ok145 : FnOk D 145 (W145 F145) := oW func145 tn (k145)
abbrev T144 := T132
def P144 (F145 : T145) : T144 := fun M s k => whileK (fun s1 => br (decide ((lI s1 1) < ((lS s1 0).length : Int))) (idxS (lS s1 0) (lI s1 1) fun b2 => br (decide (b2 < 97)) (some (.inr (0, [.s (lS s1 0), .b false]))) (idxS (lS s1 0) (lI s1 1) fun b3 => br (decide (b3 > 122)) (some (.inr (0, [.s (lS s1 0), .b false]))) (some (.inl [.s (lS s1 0), .i (IntKind.wrap .i64 ((lI s1 1) + 1))])))) (some (.inr (1, [.s (lS s1 0)])))) [.s s, .i 0] fun r4 => if r4.1 = 0 then k (lB r4.2 1) else F145 _ ((lS r4.2 0).length : Int) 1 8 fun b5 => k b5
def F144 : T144 := P144 F145
def X144 : Exits := fun i => lookN i [] [(2, [(.ret, xk 23 [(0, .str []), (2, .bool false)] []), (.exit 0, xk 23 [(0, .str [])] [])])]
abbrev s144 : LSh := s132
abbrev G144 := G132
abbrev W144 (F : T144) : WT := wrap s144 (G144 F)
theorem k144 (F145 : T145) : KO [(145, W145 F145)] X144 144 f144 s144 (G144 (P144 F145)) := fun _ _ _ => by kernel_rfl
theorem ok144 : FnOk D 144 (W144 F144) := oW func144 (tc ok145 tn) (k144 F145)
abbrev T173 := T171
def P173 (F144 : T144) : T173 := fun M a b k => F144 _ a fun b1 => br b1 (F144 _ b fun b2 => k b2) (k false)
def F173 : T173 := P173 F144
abbrev s173 : LSh := s79
abbrev G173 := G171
abbrev W173 (F : T173) : WT := wrap s173 (G173 F)
theorem k173 (F144 : T144) : KO [(144, W144 F144)] noX 173 f173 s173 (G173 (P173 F144)) := fun _ _ _ => by kernel_rfl
theorem ok173 : FnOk D 173 (W173 F173) := oW func173 (tc ok144 tn) (k173 F144)
abbrev T136 := T128
def P136 (F173 : T173) : T136 := fun M a b k => F173 _ a b fun b1 => br (!b1) (k []) (chk (a.length + ([47] : LU).length <= 9223372036854775807) <| chk ((a ++ [47]).length + b.length <= 9223372036854775807) <| k ((a ++ [47]) ++ b))
def F136 : T136 := P136 F173
abbrev s136 : LSh := s79
abbrev G136 := G128
abbrev W136 (F : T136) : WT := wrap s136 (G136 F)
theorem k136 (F173 : T173) : KO [(173, W173 F173)] noX 136 f136 s136 (G136 (P136 F173)) := fun _ _ _ => by kernel_rfl
theorem ok136 : FnOk D 136 (W136 F136) := oW func136 (tc ok173 tn) (k136 F173)
abbrev T137 := T129
def P137 (F145 : T145) : T137 := fun M code k => F145 _ code 1 6 fun b1 => br (!b1) (k []) (chk (0 <= IntKind.wrap .i64 (code - 1) /\ (IntKind.wrap .i64 (code - 1)).toNat < ([.str [111, 107], .str [112, 111, 108, 105, 99, 121], .str [115, 116, 97, 116, 117, 115], .str [107, 105, 110, 100], .str [115, 104, 97, 114, 101], .str [100, 105, 103, 101, 115, 116]] : LsV).length) <| idxAt [.str] [.str [111, 107], .str [112, 111, 108, 105, 99, 121], .str [115, 116, 97, 116, 117, 115], .str [107, 105, 110, 100], .str [115, 104, 97, 114, 101], .str [100, 105, 103, 101, 115, 116]] ((IntKind.wrap .i64 (code - 1)).toNat) 0 fun (e2 : r13_) => k e2.1)
def F137 : T137 := P137 F145
abbrev s137 : LSh := s76
abbrev G137 := G129
abbrev W137 (F : T137) : WT := wrap s137 (G137 F)
theorem k137 (F145 : T145) : KO [(145, W145 F145)] noX 137 f137 s137 (G137 (P137 F145)) := fun _ _ _ => by kernel_rfl
theorem ok137 : FnOk D 137 (W137 F137) := oW func137 (tc ok145 tn) (k137 F145)
abbrev T138 := T129
def P138 (F145 : T145) : T138 := fun M kind k => F145 _ kind 1 5 fun b1 => br (!b1) (k []) (chk (0 <= IntKind.wrap .i64 (kind - 1) /\ (IntKind.wrap .i64 (kind - 1)).toNat < ([.str [112, 97, 103, 101], .str [115, 99, 114, 105, 112, 116], .str [115, 116, 121, 108, 101], .str [105, 109, 97, 103, 101], .str [109, 111, 100, 117, 108, 101]] : LsV).length) <| idxAt [.str] [.str [112, 97, 103, 101], .str [115, 99, 114, 105, 112, 116], .str [115, 116, 121, 108, 101], .str [105, 109, 97, 103, 101], .str [109, 111, 100, 117, 108, 101]] ((IntKind.wrap .i64 (kind - 1)).toNat) 0 fun (e2 : r13_) => k e2.1)
def F138 : T138 := P138 F145
abbrev s138 : LSh := s76
abbrev G138 := G129
abbrev W138 (F : T138) : WT := wrap s138 (G138 F)
theorem k138 (F145 : T145) : KO [(145, W145 F145)] noX 138 f138 s138 (G138 (P138 F145)) := fun _ _ _ => by kernel_rfl
theorem ok138 : FnOk D 138 (W138 F138) := oW func138 (tc ok145 tn) (k138 F145)
abbrev T84 := T75
def P84 (F136 : T136) (F137 : T137) (F138 : T138) : T84 := fun M kind a b done code k => F136 _ a b fun t1 => br (t1 == []) (br done (F137 _ code fun t2 => F138 _ kind fun t3 => chk (t3.length + ([32] : LU).length <= 9223372036854775807) <| chk ((t3 ++ [32]).length + ([45] : LU).length <= 9223372036854775807) <| chk (((t3 ++ [32]) ++ [45]).length + ([32] : LU).length <= 9223372036854775807) <| chk ((((t3 ++ [32]) ++ [45]) ++ [32]).length + t2.length <= 9223372036854775807) <| k ((((t3 ++ [32]) ++ [45]) ++ [32]) ++ t2)) (F138 _ kind fun t4 => chk (t4.length + ([32] : LU).length <= 9223372036854775807) <| chk ((t4 ++ [32]).length + ([45] : LU).length <= 9223372036854775807) <| chk (((t4 ++ [32]) ++ [45]).length + ([32] : LU).length <= 9223372036854775807) <| chk ((((t4 ++ [32]) ++ [45]) ++ [32]).length + ([111, 112, 101, 110] : LU).length <= 9223372036854775807) <| k ((((t4 ++ [32]) ++ [45]) ++ [32]) ++ [111, 112, 101, 110]))) (br done (F137 _ code fun t5 => F138 _ kind fun t6 => chk (t6.length + ([32] : LU).length <= 9223372036854775807) <| chk ((t6 ++ [32]).length + t1.length <= 9223372036854775807) <| chk (((t6 ++ [32]) ++ t1).length + ([32] : LU).length <= 9223372036854775807) <| chk ((((t6 ++ [32]) ++ t1) ++ [32]).length + t5.length <= 9223372036854775807) <| k ((((t6 ++ [32]) ++ t1) ++ [32]) ++ t5)) (F138 _ kind fun t7 => chk (t7.length + ([32] : LU).length <= 9223372036854775807) <| chk ((t7 ++ [32]).length + t1.length <= 9223372036854775807) <| chk (((t7 ++ [32]) ++ t1).length + ([32] : LU).length <= 9223372036854775807) <| chk ((((t7 ++ [32]) ++ t1) ++ [32]).length + ([111, 112, 101, 110] : LU).length <= 9223372036854775807) <| k ((((t7 ++ [32]) ++ t1) ++ [32]) ++ [111, 112, 101, 110])))
def F84 : T84 := P84 F136 F137 F138
abbrev s84 : LSh := s75
abbrev G84 := G75
abbrev W84 (F : T84) : WT := wrap s84 (G84 F)
theorem k84 (F136 : T136) (F137 : T137) (F138 : T138) : KO [(136, W136 F136), (137, W137 F137), (138, W138 F138)] noX 84 f84 s84 (G84 (P84 F136 F137 F138)) := fun _ _ _ => by kernel_rfl
theorem ok84 : FnOk D 84 (W84 F84) := oW func84 (tc ok136 (tc ok137 (tc ok138 tn))) (k84 F136 F137 F138)
abbrev T47 := T39
def P47 (F85 : T85) (F84 : T84) : T47 := fun M c d f g h j m n o p q r a t u v w x y z a1 b1 k => whileK (fun s1 => br (decide ((lI s1 3) < (lI s1 2))) (chk (0 <= (lI s1 3)) <| idx true q5 (lL s1 1) ((lI s1 3).toNat) fun (e2 : r0_) => F85 _ e2.1 fun n3 => F84 _ n3 e2.2.1 e2.2.2.1 e2.2.2.2.2.2.1 e2.2.2.2.2.2.2.1 fun t4 => chk (((lL s1 0).length + ([.str t4] : LsV).length) * 16 <= 140737488355328 /\ (lL s1 0).length + ([.str t4] : LsV).length <= 140737488355328) <| some (.inl [.l ((lL s1 0) ++ ([.str t4] : LsV)), .l (lL s1 1), .i (lI s1 2), .i (IntKind.wrap .i64 ((lI s1 3) + 1)), .s (lS s1 4), .s (lS s1 5), .b (lB s1 6), .l (lL s1 7), .l (lL s1 8), .l (lL s1 9), .s (lS s1 10), .s (lS s1 11), .l (lL s1 12), .b (lB s1 13), .l (lL s1 14), .l (lL s1 15), .l (lL s1 16), .l (lL s1 17), .l (lL s1 18), .i (lI s1 19), .i (lI s1 20), .i (lI s1 21), .i (lI s1 22), .l (lL s1 23), .l (lL s1 24), .b (lB s1 25)])) (some (.inr (0, [.l (lL s1 0), .s (lS s1 4), .s (lS s1 5), .b (lB s1 6), .l (lL s1 7), .l (lL s1 8), .l (lL s1 9), .s (lS s1 10), .s (lS s1 11), .l (lL s1 12), .b (lB s1 13), .l (lL s1 14), .l (lL s1 15), .l (lL s1 16), .l (lL s1 17), .l (lL s1 18), .i (lI s1 19), .i (lI s1 20), .i (lI s1 21), .i (lI s1 22), .l (lL s1 23), .l (lL s1 24), .b (lB s1 25)])))) [.l [], .l a, .i (a.length : Int), .i 0, .s c, .s d, .b f, .l g, .l h, .l j, .s m, .s n, .l o, .b p, .l q, .l r, .l a, .l t, .l u, .i v, .i w, .i x, .i y, .l z, .l a1, .b b1] fun r5 => whileK (fun s6 => br (decide ((lI s6 3) < (lI s6 2))) (chk (0 <= (lI s6 3)) <| idx true q9 (lL s6 1) ((lI s6 3).toNat) fun (e7 : r5_) => F84 _ 5 e7.1 e7.2.1 e7.2.2.1 e7.2.2.2.1 fun t8 => chk (((lL s6 0).length + ([.str t8] : LsV).length) * 16 <= 140737488355328 /\ (lL s6 0).length + ([.str t8] : LsV).length <= 140737488355328) <| some (.inl [.l ((lL s6 0) ++ ([.str t8] : LsV)), .l (lL s6 1), .i (lI s6 2), .i (IntKind.wrap .i64 ((lI s6 3) + 1))])) (some (.inr (0, [.l (lL s6 0)])))) [.l (lL r5.2 0), .l (lL r5.2 14), .i ((lL r5.2 14).length : Int), .i 0] fun r9 => k (lL r9.2 0)
def F47 : T47 := P47 F85 F84
def X47 : Exits := fun i => lookN i [] [(3, [(.exit 0, xk 49 [(1, .ptr 1 0), (3, .own 1000000 1 .flat [])] [(1, .agg [.str [], .str [], .bool false, .sl 1 true [], .sl 1 true [], .sl 1 true [], .str [], .str [], .sl 4 false [], .bool false, .sl 4 false [], .sl 1 true [], .sl 8 true [], .sl 5 true [], .sl 2 true [], .int .i64 0, .int .i64 0, .int .i64 0, .int .i64 0, .sl 2 true [], .sl 1 true [], .bool false])])]), (8, [(.exit 2, xk 49 [(3, .own 1000000 1 .flat [])] [])])]
abbrev s47 : LSh := s60
abbrev G47 := G39
abbrev W47 (F : T47) : WT := wrap s47 (G47 F)
theorem k47 (F85 : T85) (F84 : T84) : KO [(85, W85 F85), (84, W84 F84)] X47 47 f47 s47 (G47 (P47 F85 F84)) := fun _ _ _ => by kernel_rfl
theorem ok47 : FnOk D 47 (W47 F47) := oW func47 (tc ok85 (tc ok84 tn)) (k47 F85 F84)
abbrev T141 := (M : Type) -> LU -> LU -> (LsV -> Option M) -> Option M
def F141 : T141 := splitK
abbrev s141 : LSh := [(false, [.str]), (false, [.str])]
def G141 (F : T141) : GTy s141 := fun M e k => F M e.1.1 e.2.1.1 (fun y1 => k (.own 0 1 .flat y1))
abbrev W141 (F : T141) : WT := wrap s141 (G141 F)
theorem ok141 : FnOk D 141 (W141 F141) := ok_split (fun _ => rfl)
abbrev T142 := (M : Type) -> LU -> LU -> (LU -> LU -> Bool -> Option M) -> Option M
def F142 : T142 := scutK
abbrev s142 : LSh := s141
def G142 (F : T142) : GTy s142 := fun M e k => F M e.1.1 e.2.1.1 (fun y1 y2 y3 => k (.tup [.str y1, .str y2, .bool y3]))
abbrev W142 (F : T142) : WT := wrap s142 (G142 F)
theorem ok142 : FnOk D 142 (W142 F142) := ok_scut (fun _ => rfl)
abbrev T143 := T133
def F143 : T143 := pintK
abbrev s143 : LSh := s132
abbrev G143 := G133
abbrev W143 (F : T143) : WT := wrap s143 (G143 F)
theorem ok143 : FnOk D 143 (W143 F143) := ok_pint (fun _ => rfl)
abbrev T89 := T78
def P89 (F141 : T141) (F142 : T142) (F143 : T143) (F144 : T144) (F145 : T145) : T89 := fun M s k => F141 _ s [59] fun l1 => whileK (fun s2 => br (decide ((lI s2 2) < (lI s2 1))) (chk (0 <= (lI s2 2) /\ (lI s2 2).toNat < (lL s2 0).length) <| idxAt [.str] (lL s2 0) ((lI s2 2).toNat) 0 fun (e3 : r13_) => F142 _ e3.1 [58] fun t4 t5 b6 => F143 _ t5 fun n7 b8 => br b8 (F144 _ t4 fun b9 => br b9 (F145 _ n7 1 999 fun b10 => br b10 (br (decide (((lL s2 3).length : Int) < 8)) (chk (((lL s2 3).length + ([.agg [.str t4, .int .i64 n7]] : LsV).length) * 24 <= 140737488355328 /\ (lL s2 3).length + ([.agg [.str t4, .int .i64 n7]] : LsV).length <= 140737488355328) <| some (.inl [.l (lL s2 0), .i (lI s2 1), .i (IntKind.wrap .i64 ((lI s2 2) + 1)), .l ((lL s2 3) ++ ([.agg [.str t4, .int .i64 n7]] : LsV))])) (some (.inl [.l (lL s2 0), .i (lI s2 1), .i (IntKind.wrap .i64 ((lI s2 2) + 1)), .l (lL s2 3)]))) (some (.inl [.l (lL s2 0), .i (lI s2 1), .i (IntKind.wrap .i64 ((lI s2 2) + 1)), .l (lL s2 3)]))) (some (.inl [.l (lL s2 0), .i (lI s2 1), .i (IntKind.wrap .i64 ((lI s2 2) + 1)), .l (lL s2 3)]))) (some (.inl [.l (lL s2 0), .i (lI s2 1), .i (IntKind.wrap .i64 ((lI s2 2) + 1)), .l (lL s2 3)]))) (some (.inr (0, [.l (lL s2 3)])))) [.l l1, .i (l1.length : Int), .i 0, .l []] fun r11 => k (lL r11.2 0)
def F89 : T89 := P89 F141 F142 F143 F144 F145
def X89 : Exits := fun i => lookN i [] [(3, [(.exit 0, xk 55 [(2, .ptr 2 0), (3, .ptr 3 0)] [(2, .agg [.nil]), (3, .agg [.own 1000000 2 .flat []])])])]
abbrev s89 : LSh := s132
abbrev G89 := G78
abbrev W89 (F : T89) : WT := wrap s89 (G89 F)
theorem k89 (F141 : T141) (F142 : T142) (F143 : T143) (F144 : T144) (F145 : T145) : KO [(141, W141 F141), (142, W142 F142), (143, W143 F143), (144, W144 F144), (145, W145 F145)] X89 89 f89 s89 (G89 (P89 F141 F142 F143 F144 F145)) := fun _ _ _ => by kernel_rfl
theorem ok89 : FnOk D 89 (W89 F89) := oW func89 (tc ok141 (tc ok142 (tc ok143 (tc ok144 (tc ok145 tn))))) (k89 F141 F142 F143 F144 F145)
abbrev T49 := T39
def P49 (F89 : T89) : T49 := fun M b c d f g h j m n o p q a r s t u v w x y z k => whileK (fun s1 => br (decide ((lI s1 3) < (lI s1 2))) (chk (0 <= (lI s1 3)) <| idx true q5 (lL s1 1) ((lI s1 3).toNat) fun (e2 : r0_) => br (e2.1 == 2) (br e2.2.2.2.2.2.1 (br (e2.2.2.2.2.2.2.1 == 1) (F89 _ e2.2.2.2.2.2.2.2.1 fun l3 => chk (((lL s1 0).length + ([.agg [.sl 2 true l3]] : LsV).length) * 24 <= 140737488355328 /\ (lL s1 0).length + ([.agg [.sl 2 true l3]] : LsV).length <= 140737488355328) <| some (.inl [.l ((lL s1 0) ++ ([.agg [.sl 2 true l3]] : LsV)), .l (lL s1 1), .i (lI s1 2), .i (IntKind.wrap .i64 ((lI s1 3) + 1))])) (some (.inl [.l (lL s1 0), .l (lL s1 1), .i (lI s1 2), .i (IntKind.wrap .i64 ((lI s1 3) + 1))]))) (some (.inl [.l (lL s1 0), .l (lL s1 1), .i (lI s1 2), .i (IntKind.wrap .i64 ((lI s1 3) + 1))]))) (some (.inl [.l (lL s1 0), .l (lL s1 1), .i (lI s1 2), .i (IntKind.wrap .i64 ((lI s1 3) + 1))]))) (some (.inr (0, [.l (lL s1 0)])))) [.l [], .l a, .i (a.length : Int), .i 0] fun r4 => k (lL r4.2 0)
def F49 : T49 := P49 F89
def X49 : Exits := fun i => lookN i [] [(3, [(.exit 0, xk 34 [(3, .own 1000000 1 .clean [])] [])])]
abbrev s49 : LSh := s60
abbrev G49 := G41
abbrev W49 (F : T49) : WT := wrap s49 (G49 F)
theorem k49 (F89 : T89) : KO [(89, W89 F89)] X49 49 f49 s49 (G49 (P49 F89)) := fun _ _ _ => by kernel_rfl
theorem ok49 : FnOk D 49 (W49 F49) := oW func49 (tc ok89 tn) (k49 F89)
abbrev T88 := T77
def P88 : T88 := fun M l name k => whileK (fun s1 => br (decide ((lI s1 2) >= 0)) (chk (0 <= (lI s1 2)) <| idx true [.sl 2 true] (lL s1 0) ((lI s1 2).toNat) fun (e2 : LsV × Unit) => whileK (fun s3 => br (decide ((lI s3 3) >= 0)) (chk (0 <= (lI s3 2)) <| idx true [.sl 2 true] (lL s3 0) ((lI s3 2).toNat) fun (e4 : LsV × Unit) => chk (0 <= (lI s3 3)) <| idx true [.str, .int .i64] e4.1 ((lI s3 3).toNat) fun (e5 : r4_) => br (e5.1 == (lS s3 1)) (chk (0 <= (lI s3 2)) <| idx true [.sl 2 true] (lL s3 0) ((lI s3 2).toNat) fun (e6 : LsV × Unit) => chk (0 <= (lI s3 3)) <| idx true [.str, .int .i64] e6.1 ((lI s3 3).toNat) fun (e7 : r4_) => some (.inr (0, [.l (lL s3 0), .s (lS s3 1), .i e7.2.1, .i (lI s3 2)]))) (some (.inl [.l (lL s3 0), .s (lS s3 1), .i (lI s3 2), .i (IntKind.wrap .i64 ((lI s3 3) - 1))]))) (some (.inr (1, [.l (lL s3 0), .s (lS s3 1), .i (lI s3 2)])))) [.l (lL s1 0), .s (lS s1 1), .i (lI s1 2), .i (IntKind.wrap .i64 ((e2.1.length : Int) - 1))] fun r8 => if r8.1 = 0 then some (.inr (0, [.i (lI r8.2 2)])) else some (.inl [.l (lL r8.2 0), .s (lS r8.2 1), .i (IntKind.wrap .i64 ((lI r8.2 2) - 1))])) (some (.inr (1, [])))) [.l l, .s name, .i (IntKind.wrap .i64 ((l.length : Int) - 1))] fun r9 => if r9.1 = 0 then k (lI r9.2 0) else k 0
def F88 : T88 := P88
def X88 : Exits := fun i => lookN i [] [(2, [(.ret, xk 45 [(4, .int .i64 0)] []), (.exit 0, xk 45 [] [])]), (5, [(.ret, xk 45 [(0, .sl 1 false []), (1, .str []), (4, .int .i64 0), (5, .int .i64 0)] []), (.exit 2, xk 45 [(0, .sl 1 false []), (1, .str []), (5, .int .i64 0)] [])])]
abbrev s88 : LSh := s77
abbrev G88 := G77
abbrev W88 (F : T88) : WT := wrap s88 (G88 F)
theorem k88 : KO [] X88 88 f88 s88 (G88 (P88)) := fun _ _ _ => by kernel_rfl
theorem ok88 : FnOk D 88 (W88 F88) := oW func88 tn (k88)
abbrev T48 := T154
def P48 (F88 : T88) : T48 := fun M l k => whileK (fun s1 => br (decide ((lI s1 4) < (lI s1 3))) (chk (0 <= (lI s1 4)) <| idx true [.sl 2 true] (lL s1 2) ((lI s1 4).toNat) fun (e2 : LsV × Unit) => whileK (fun s3 => br (decide ((lI s3 7) < (lI s3 6))) (chk (0 <= (lI s3 7)) <| idx true [.str, .int .i64] (lL s3 5) ((lI s3 7).toNat) fun (e4 : r4_) => chk (((lL s3 1).length + ([.str e4.1] : LsV).length) * 16 <= 140737488355328 /\ (lL s3 1).length + ([.str e4.1] : LsV).length <= 140737488355328) <| some (.inl [.l (lL s3 0), .l ((lL s3 1) ++ ([.str e4.1] : LsV)), .l (lL s3 2), .i (lI s3 3), .i (lI s3 4), .l (lL s3 5), .i (lI s3 6), .i (IntKind.wrap .i64 ((lI s3 7) + 1))])) (some (.inr (0, [.l (lL s3 0), .l (lL s3 1), .l (lL s3 2), .i (lI s3 3), .i (lI s3 4)])))) [.l (lL s1 0), .l (lL s1 1), .l (lL s1 2), .i (lI s1 3), .i (lI s1 4), .l e2.1, .i (e2.1.length : Int), .i 0] fun r5 => some (.inl [.l (lL r5.2 0), .l (lL r5.2 1), .l (lL r5.2 2), .i (lI r5.2 3), .i (IntKind.wrap .i64 ((lI r5.2 4) + 1))])) (some (.inr (0, [.l (lL s1 0), .l (lL s1 1)])))) [.l l, .l [], .l l, .i (l.length : Int), .i 0] fun r6 => wrO sortW (lL r6.2 1) fun l7 _ => wrOv compactW l7 fun l8 l9 => whileK (fun s10 => br (decide ((lI s10 3) < (lI s10 2))) (chk (0 <= (lI s10 3)) <| idx false [.str] (lL s10 1) ((lI s10 3).toNat) fun (e11 : r13_) => F88 _ (lL s10 0) e11.1 fun n12 => chk (((lL s10 4).length + ([.agg [.str e11.1, .int .i64 n12]] : LsV).length) * 24 <= 140737488355328 /\ (lL s10 4).length + ([.agg [.str e11.1, .int .i64 n12]] : LsV).length <= 140737488355328) <| some (.inl [.l (lL s10 0), .l (lL s10 1), .i (lI s10 2), .i (IntKind.wrap .i64 ((lI s10 3) + 1)), .l ((lL s10 4) ++ ([.agg [.str e11.1, .int .i64 n12]] : LsV))])) (some (.inr (0, [.l (lL s10 4)])))) [.l (lL r6.2 0), .l l9, .i (l9.length : Int), .i 0, .l []] fun r13 => k (lL r13.2 0)
def F48 : T48 := P48 F88
def X48 : Exits := fun i => lookN i [] [(3, [(.exit 0, xk 54 [(0, .sl 1 false []), (2, .ptr 2 0), (3, .own 1000000 1 .flat [])] [(2, .agg [.nil])])]), (6, [(.exit 2, xk 54 [(0, .sl 1 false []), (2, .ptr 2 0), (3, .own 1000000 1 .flat []), (12, .sl 1 false []), (13, .int .i64 0), (14, .int .i64 0)] [(2, .agg [.nil])])]), (14, [(.exit 4, xk 54 [(2, .ptr 2 0), (8, .ptr 8 0)] [(2, .agg [.nil]), (8, .agg [.own 1000000 2 .flat []])])])]
abbrev s48 : LSh := s40
abbrev G48 := G40
abbrev W48 (F : T48) : WT := wrap s48 (G48 F)
theorem k48 (F88 : T88) : KO [(88, W88 F88)] X48 48 f48 s48 (G48 (P48 F88)) := fun _ _ _ => by kernel_rfl
theorem ok48 : FnOk D 48 (W48 F48) := oW func48 (tc ok88 tn) (k48 F88)
abbrev T22 := T17
def P22 (F46 : T46) (F47 : T47) (F49 : T49) (F48 : T48) : T22 := fun M f g h i j l m n o p b c q r s t u v w x a d k => F46 _ b c fun l1 l2 => chk ((([] : LsV).length + a.length) * 16 <= 140737488355328 /\ ([] : LsV).length + a.length <= 140737488355328) <| F47 _ f g h i j l m n o p b c q r s t u v w x a d fun l3 => F49 _ f g h i j l m n o p b c q r s t u v w x a d fun l4 => F48 _ l4 fun l5 => k l1 l2 (([] : LsV) ++ a) l3 l5 d
def F22 : T22 := P22 F46 F47 F49 F48
abbrev s22 : LSh := s60
abbrev G22 := G17
abbrev W22 (F : T22) : WT := wrap s22 (G22 F)
theorem k22 (F46 : T46) (F47 : T47) (F49 : T49) (F48 : T48) : KO [(46, W46 F46), (47, W47 F47), (49, W49 F49), (48, W48 F48)] noX 22 f22 s22 (G22 (P22 F46 F47 F49 F48)) := fun _ _ _ => by kernel_rfl
theorem ok22 : FnOk D 22 (W22 F22) := oW func22 (tc ok46 (tc ok47 (tc ok49 (tc ok48 tn)))) (k22 F46 F47 F49 F48)
end
end Go.Am

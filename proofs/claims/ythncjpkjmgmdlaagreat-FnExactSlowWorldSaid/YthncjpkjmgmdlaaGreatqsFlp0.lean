/-
  Functions of the program, extracted by program (sym.py) out of their code: what each computes, and, by the kernel's reckoning, that the machine's looking form computes just that; so what the machine answers.
-/
import Derived.Test.YthncjpkjmgmdlaaGreatqsAmCfg
import Derived.Test.YthncjpkjmgmdlaaGreatqsAmEvOk2
import Derived.KernelRfl
set_option maxRecDepth 10000
set_option linter.unusedVariables false
namespace Go.Am
open Go Go.Proofs
noncomputable section
abbrev WT : Type 1 := (β : Type) → List V → (V → Option β) → Option β
abbrev LU := List UInt8
abbrev LsV := List V
abbrev q0 : List CK := [.str, .str, .str, .str, .bool, .sl 1 true, .sl 1 true, .sl 1 true, .str, .str, .sl 4 false, .bool, .sl 4 false, .sl 1 true, .sl 8 true, .sl 5 true, .sl 2 true, .int .i64, .int .i64, .int .i64, .int .i64, .sl 2 true, .sl 1 true, .bool, .bool]
abbrev q1 : List CK := [.sl 2 false, .sl 10 true, .sl 4 true, .int .i64, .sl 25 false, .int .i64, .bool, .str, .str, .bool, .sl 1 true, .sl 1 true, .sl 1 true, .str, .str, .sl 4 false, .bool, .sl 4 false, .sl 1 true, .sl 8 true, .sl 5 true, .sl 2 true, .int .i64, .int .i64, .int .i64, .int .i64, .sl 2 true, .sl 1 true, .bool, .sl 8 true, .sl 2 false, .int .i64, .bool]
abbrev q2 : List CK := [.str, .str, .bool, .sl 1 true, .sl 1 true, .sl 1 true, .str, .str, .sl 4 false, .bool, .sl 4 false, .sl 1 true, .sl 8 true, .sl 5 true, .sl 2 true, .int .i64, .int .i64, .int .i64, .int .i64, .sl 2 true, .sl 1 true, .bool]
abbrev q3 : List CK := [.bool, .str, .str, .bool, .sl 1 true, .sl 1 true, .sl 1 true, .str, .str, .sl 4 false, .bool, .sl 4 false, .sl 1 true, .sl 8 true, .sl 5 true, .sl 2 true, .int .i64, .int .i64, .int .i64, .int .i64, .sl 2 true, .sl 1 true, .bool, .sl 8 true, .sl 2 false, .int .i64]
abbrev q4 : List CK := [.str, .str, .str, .int .i64, .int .i64, .str, .int .i64, .bool, .str, .int .i64]
abbrev q5 : List CK := [.int .i64, .str, .str, .str, .int .i64, .bool, .int .i64, .str]
abbrev q6 : List CK := [.str, .str, .int .i64, .int .i64, .str, .int .i64, .bool, .str]
abbrev q7 : List CK := [.str, .int .i64, .int .i64, .str, .int .i64, .bool, .str]
abbrev q8 : List CK := [.int .i64, .str, .sl 2 true, .str]
abbrev q9 : List CK := [.str, .str, .int .i64, .sl 2 true]
abbrev q10 : List CK := [.sl 25 false, .int .i64]
abbrev q11 : List CK := [.bool, .sl 1 true, .sl 1 true, .sl 1 true, .str]
abbrev q12 : List CK := [.sl 2 false, .sl 10 true, .sl 4 true, .int .i64]
abbrev q13 : List CK := [.str, .str, .bool, .int .i64, .str]
abbrev q14 : List CK := [.int .i64, .int .i64, .str, .int .i64, .bool, .str]
abbrev q15 : List CK := [.str, .str, .str, .bool]
abbrev q16 : List CK := [.sl 4 false, .sl 1 true]
abbrev r1_ := Int × List UInt8 × List UInt8 × List UInt8 × Int × Bool × Int × List UInt8 × Unit
abbrev r2_ := Int × List UInt8 × List V × List UInt8 × Unit
abbrev r4_ := List UInt8 × Int × Int × List UInt8 × Int × Bool × List UInt8 × Unit
abbrev r5_ := List UInt8 × List UInt8 × Bool × Int × List UInt8 × Unit
abbrev r6_ := List UInt8 × List UInt8 × Int × Int × List UInt8 × Int × Bool × List UInt8 × Unit
abbrev r7_ := List UInt8 × List UInt8 × Int × List V × Unit
abbrev r8_ := List UInt8 × List UInt8 × List UInt8 × Bool × Unit
abbrev r9_ := List UInt8 × List UInt8 × List UInt8 × Int × Int × List UInt8 × Int × Bool × List UInt8 × Int × Unit
abbrev r10_ := List UInt8 × List UInt8 × List UInt8 × List UInt8 × Bool × List V × List V × List V × List UInt8 × List UInt8 × List V × Bool × List V × List V × List V × List V × List V × Int × Int × Int × Int × List V × List V × Bool × Bool × Unit
abbrev r11_ := List UInt8 × List UInt8 × Unit
abbrev r12_ := List UInt8 × List V × Unit
abbrev r13_ := List UInt8 × Unit
abbrev KO (tab : List (Nat × WT)) (X : Exits) (f : Nat) (fn : Func) (s : List (Bool × List CK)) (G : (β : Type) → argsT s → (V → Option β) → Option β) : Prop := ∀ (β : Type) (e : argsT s) (k : V → Option β), fnK cfg (tabL tab) X f fn β (argsEnc s e) k = G β e k
theorem oW {ext : Nat → List V → Option V} {f : Nat} {fn : Func} {tab : List (Nat × WT)} {X : Exits} {s : List (Bool × List CK)} {G : (β : Type) → argsT s → (V → Option β) → Option β} (hf : Tryz.prog.funcs[f]? = some fn) (hl : ∀ β, TabOk (den Tryz.prog cfg ext) (tabL tab β)) (hk : KO tab X f fn s G) (he : ∀ args, ext f args = none := by exact fun _ => rfl) (hn : (fn.name == "runtime.NumGoroutine") = false := by exact rfl) : FnOk (den Tryz.prog cfg ext) f (wrap s G) := fn_okW tab X he hf hn hl hk
theorem tn {d : Nat → List V → Option V} : ∀ β, TabOk d (tabL [] β) := tabL_nil
theorem tc {d : Nat → List V → Option V} {f : Nat} {w : WT} {l : List (Nat × WT)} (hf : FnOk d f w) (hl : ∀ β, TabOk d (tabL l β)) : ∀ β, TabOk d (tabL ((f, w) :: l) β) := tabL_cons hf hl
abbrev T37 : Type 1 := (β : Type) → LU → LU → Int → (Int → Option β) → Option β
def P37 : T37 := fun β a b left k =>
 br (decide (IntKind.wrap .i64 (left - (a.length : Int)) < 0)) (
 k (-1)) (
 br (decide (IntKind.wrap .i64 ((IntKind.wrap .i64 (left - (a.length : Int))) - (b.length : Int)) < 0)) (
 k (-1)) (
 k (IntKind.wrap .i64 ((IntKind.wrap .i64 (left - (a.length : Int))) - (b.length : Int)))))
def F37 : T37 := P37
abbrev s37 : List (Bool × List CK) := [(true, [.str, .str]), (false, [.int .i64])]
def G37 (F : T37) (β : Type) (e : argsT s37) (k : V → Option β) : Option β := F β e.1.1 e.1.2.1 e.2.1.1 (fun y1 => k (.int .i64 y1))
abbrev W37 (F : T37) : WT := wrap s37 (G37 F)
theorem k37 : KO [] noX 37 Tryz.f37 s37 (G37 (P37)) := fun _ _ _ => by kernel_rfl
theorem ok37 : FnOk D 37 (W37 F37) := oW Tryz.func37 (tn) (k37 )
abbrev T45 : Type 1 := (β : Type) → LsV → Int → (Int → Option β) → Option β
def P45 : T45 := fun β a left k =>
 br (decide (IntKind.wrap .i64 (left - (a.length : Int)) < 0)) (
 k (-1)) (
 whileK (fun s1 =>
 br (decide ((lI s1 2) < ((lL s1 0).length : Int))) (
 chk (0 ≤ (lI s1 2)) <|
 idx false [.str] (lL s1 0) ((lI s1 2).toNat) fun (e2 : r13_) =>
 br (decide (IntKind.wrap .i64 ((lI s1 1) - (e2.1.length : Int)) < 0)) (
 some (.inr (0, [.i (IntKind.wrap .i64 ((lI s1 1) - (e2.1.length : Int))), .i (-1)]))) (
 some (.inl [.l (lL s1 0), .i (IntKind.wrap .i64 ((lI s1 1) - (e2.1.length : Int))), .i (IntKind.wrap .i64 ((lI s1 2) + 1))]))) (
 some (.inr (1, [.i (lI s1 1)])))) [.l a, .i (IntKind.wrap .i64 (left - (a.length : Int))), .i 0] fun r3 =>
 if r3.1 = 0 then
 k (lI r3.2 1)
 else
 k (lI r3.2 0))
def F45 : T45 := P45
def X45 : Exits := fun i => lookN i [] [(5, [(.ret, xk 28 [(1, .int .i64 0), (4, .int .i64 0)] []), (.exit 0, xk 28 [(1, .int .i64 0)] [])])]
abbrev s45 : List (Bool × List CK) := [(false, [.sl 1 true]), (false, [.int .i64])]
def G45 (F : T45) (β : Type) (e : argsT s45) (k : V → Option β) : Option β := F β e.1.1 e.2.1.1 (fun y1 => k (.int .i64 y1))
abbrev W45 (F : T45) : WT := wrap s45 (G45 F)
theorem k45 : KO [] X45 45 Tryz.f45 s45 (G45 (P45)) := fun _ _ _ => by kernel_rfl
theorem ok45 : FnOk D 45 (W45 F45) := oW Tryz.func45 (tn) (k45 )
abbrev T38 : Type 1 := (β : Type) → Bool → LsV → LsV → LsV → LU → Int → (Int → Option β) → Option β
def P38 (F45 : T45) : T38 := fun β f b c d a left k =>
 F45 _ b left fun n1 =>
 br (decide (n1 < 0)) (
 k (-1)) (
 F45 _ c n1 fun n2 =>
 br (decide (n2 < 0)) (
 k (-1)) (
 F45 _ d n2 fun n3 =>
 br (decide (n3 < 0)) (
 k (-1)) (
 br (decide (IntKind.wrap .i64 (n3 - (a.length : Int)) < 0)) (
 k (-1)) (
 k (IntKind.wrap .i64 (n3 - (a.length : Int)))))))
def F38 : T38 := P38 F45
abbrev s38 : List (Bool × List CK) := [(true, q11), (false, [.int .i64])]
def G38 (F : T38) (β : Type) (e : argsT s38) (k : V → Option β) : Option β := let a:=e.1;let b:=a.2;let c:=b.2;let d:=c.2;let f:=d.2;F β a.1 b.1 c.1 d.1 f.1 e.2.1.1 (fun y1 => k (.int .i64 y1))
abbrev W38 (F : T38) : WT := wrap s38 (G38 F)
theorem k38 (F45 : T45) : KO [(45, W45 F45)] noX 38 Tryz.f38 s38 (G38 (P38 F45)) := fun _ _ _ => by kernel_rfl
theorem ok38 : FnOk D 38 (W38 F38) := oW Tryz.func38 (tc ok45 tn) (k38 F45 )
abbrev T39 : Type 1 := (β : Type) → LU → Int → (Int → Option β) → Option β
def P39 : T39 := fun β a left k =>
 br (decide (IntKind.wrap .i64 (left - (a.length : Int)) < 0)) (
 k (-1)) (
 k (IntKind.wrap .i64 (left - (a.length : Int))))
def F39 : T39 := P39
abbrev s39 : List (Bool × List CK) := [(true, [.str]), (false, [.int .i64])]
def G39 (F : T39) (β : Type) (e : argsT s39) (k : V → Option β) : Option β := F β e.1.1 e.2.1.1 (fun y1 => k (.int .i64 y1))
abbrev W39 (F : T39) : WT := wrap s39 (G39 F)
theorem k39 : KO [] noX 39 Tryz.f39 s39 (G39 (P39)) := fun _ _ _ => by kernel_rfl
theorem ok39 : FnOk D 39 (W39 F39) := oW Tryz.func39 (tn) (k39 )
abbrev T213 : Type 1 := T37
def P213 : T213 := fun β a b left k =>
 br (decide (IntKind.wrap .i64 (left - (a.length : Int)) < 0)) (
 k (-1)) (
 br (decide (IntKind.wrap .i64 ((IntKind.wrap .i64 (left - (a.length : Int))) - (b.length : Int)) < 0)) (
 k (-1)) (
 k (IntKind.wrap .i64 ((IntKind.wrap .i64 (left - (a.length : Int))) - (b.length : Int)))))
def F213 : T213 := P213
abbrev s213 : List (Bool × List CK) := s37
abbrev G213 := G37
abbrev W213 (F : T213) : WT := wrap s213 (G213 F)
theorem k213 : KO [] noX 213 Tryz.f213 s213 (G213 (P213)) := fun _ _ _ => by kernel_rfl
theorem ok213 : FnOk D 213 (W213 F213) := oW Tryz.func213 (tn) (k213 )
abbrev T178 : Type 1 := T45
def P178 (F213 : T213) : T178 := fun β a left k =>
 br (decide (IntKind.wrap .i64 (left - (a.length : Int)) < 0)) (
 k (-1)) (
 whileK (fun s1 =>
 br (decide ((lI s1 2) < ((lL s1 0).length : Int))) (
 chk (0 ≤ (lI s1 2)) <|
 idx true [.str, .str] (lL s1 0) ((lI s1 2).toNat) fun (e2 : r11_) =>
 F213 _ e2.1 e2.2.1 (lI s1 1) fun n3 =>
 br (decide (n3 < 0)) (
 some (.inr (0, [.i n3, .i (-1)]))) (
 some (.inl [.l (lL s1 0), .i n3, .i (IntKind.wrap .i64 ((lI s1 2) + 1))]))) (
 some (.inr (1, [.i (lI s1 1)])))) [.l a, .i (IntKind.wrap .i64 (left - (a.length : Int))), .i 0] fun r4 =>
 if r4.1 = 0 then
 k (lI r4.2 1)
 else
 k (lI r4.2 0))
def F178 : T178 := P178 F213
def X178 : Exits := fun i => lookN i [] [(5, [(.ret, xk 27 [(1, .int .i64 0), (4, .int .i64 0)] []), (.exit 0, xk 27 [(1, .int .i64 0)] [])])]
abbrev s178 : List (Bool × List CK) := [(false, [.sl 2 true]), (false, [.int .i64])]
def G178 (F : T178) (β : Type) (e : argsT s178) (k : V → Option β) : Option β := F β e.1.1 e.2.1.1 (fun y1 => k (.int .i64 y1))
abbrev W178 (F : T178) : WT := wrap s178 (G178 F)
theorem k178 (F213 : T213) : KO [(213, W213 F213)] X178 178 Tryz.f178 s178 (G178 (P178 F213)) := fun _ _ _ => by kernel_rfl
theorem ok178 : FnOk D 178 (W178 F178) := oW Tryz.func178 (tc ok213 tn) (k178 F213 )
abbrev T107 : Type 1 := (β : Type) → Int → LU → LsV → LU → Int → (Int → Option β) → Option β
def P107 (F178 : T178) : T107 := fun β d a c b left k =>
 br (decide (IntKind.wrap .i64 (left - (a.length : Int)) < 0)) (
 k (-1)) (
 F178 _ c (IntKind.wrap .i64 (left - (a.length : Int))) fun n1 =>
 br (decide (n1 < 0)) (
 k (-1)) (
 br (decide (IntKind.wrap .i64 (n1 - (b.length : Int)) < 0)) (
 k (-1)) (
 k (IntKind.wrap .i64 (n1 - (b.length : Int))))))
def F107 : T107 := P107 F178
abbrev s107 : List (Bool × List CK) := [(true, q8), (false, [.int .i64])]
def G107 (F : T107) (β : Type) (e : argsT s107) (k : V → Option β) : Option β := F β e.1.1 e.1.2.1 e.1.2.2.1 e.1.2.2.2.1 e.2.1.1 (fun y1 => k (.int .i64 y1))
abbrev W107 (F : T107) : WT := wrap s107 (G107 F)
theorem k107 (F178 : T178) : KO [(178, W178 F178)] noX 107 Tryz.f107 s107 (G107 (P107 F178)) := fun _ _ _ => by kernel_rfl
theorem ok107 : FnOk D 107 (W107 F107) := oW Tryz.func107 (tc ok178 tn) (k107 F178 )
abbrev T40 : Type 1 := T45
def P40 (F107 : T107) : T40 := fun β a left k =>
 br (decide (IntKind.wrap .i64 (left - (a.length : Int)) < 0)) (
 k (-1)) (
 whileK (fun s1 =>
 br (decide ((lI s1 2) < ((lL s1 0).length : Int))) (
 chk (0 ≤ (lI s1 2)) <|
 idx true q8 (lL s1 0) ((lI s1 2).toNat) fun (e2 : r2_) =>
 F107 _ e2.1 e2.2.1 e2.2.2.1 e2.2.2.2.1 (lI s1 1) fun n3 =>
 br (decide (n3 < 0)) (
 some (.inr (0, [.i n3, .i (-1)]))) (
 some (.inl [.l (lL s1 0), .i n3, .i (IntKind.wrap .i64 ((lI s1 2) + 1))]))) (
 some (.inr (1, [.i (lI s1 1)])))) [.l a, .i (IntKind.wrap .i64 (left - (a.length : Int))), .i 0] fun r4 =>
 if r4.1 = 0 then
 k (lI r4.2 1)
 else
 k (lI r4.2 0))
def F40 : T40 := P40 F107
def X40 : Exits := fun i => lookN i [] [(5, [(.ret, xk 27 [(1, .int .i64 0), (4, .int .i64 0)] []), (.exit 0, xk 27 [(1, .int .i64 0)] [])])]
abbrev s40 : List (Bool × List CK) := [(false, [.sl 4 false]), (false, [.int .i64])]
def G40 (F : T40) (β : Type) (e : argsT s40) (k : V → Option β) : Option β := F β e.1.1 e.2.1.1 (fun y1 => k (.int .i64 y1))
abbrev W40 (F : T40) : WT := wrap s40 (G40 F)
theorem k40 (F107 : T107) : KO [(107, W107 F107)] X40 40 Tryz.f40 s40 (G40 (P40 F107)) := fun _ _ _ => by kernel_rfl
theorem ok40 : FnOk D 40 (W40 F40) := oW Tryz.func40 (tc ok107 tn) (k40 F107 )
abbrev T179 : Type 1 := (β : Type) → LU → LU → Int → LsV → Int → (Int → Option β) → Option β
def P179 (F178 : T178) : T179 := fun β a b d c left k =>
 br (decide (IntKind.wrap .i64 (left - (a.length : Int)) < 0)) (
 k (-1)) (
 br (decide (IntKind.wrap .i64 ((IntKind.wrap .i64 (left - (a.length : Int))) - (b.length : Int)) < 0)) (
 k (-1)) (
 F178 _ c (IntKind.wrap .i64 ((IntKind.wrap .i64 (left - (a.length : Int))) - (b.length : Int))) fun n1 =>
 br (decide (n1 < 0)) (
 k (-1)) (
 k n1)))
def F179 : T179 := P179 F178
abbrev s179 : List (Bool × List CK) := [(true, q9), (false, [.int .i64])]
def G179 (F : T179) (β : Type) (e : argsT s179) (k : V → Option β) : Option β := F β e.1.1 e.1.2.1 e.1.2.2.1 e.1.2.2.2.1 e.2.1.1 (fun y1 => k (.int .i64 y1))
abbrev W179 (F : T179) : WT := wrap s179 (G179 F)
theorem k179 (F178 : T178) : KO [(178, W178 F178)] noX 179 Tryz.f179 s179 (G179 (P179 F178)) := fun _ _ _ => by kernel_rfl
theorem ok179 : FnOk D 179 (W179 F179) := oW Tryz.func179 (tc ok178 tn) (k179 F178 )
abbrev T108 : Type 1 := T45
def P108 (F179 : T179) : T108 := fun β a left k =>
 br (decide (IntKind.wrap .i64 (left - (a.length : Int)) < 0)) (
 k (-1)) (
 whileK (fun s1 =>
 br (decide ((lI s1 2) < ((lL s1 0).length : Int))) (
 chk (0 ≤ (lI s1 2)) <|
 idx true q9 (lL s1 0) ((lI s1 2).toNat) fun (e2 : r7_) =>
 F179 _ e2.1 e2.2.1 e2.2.2.1 e2.2.2.2.1 (lI s1 1) fun n3 =>
 br (decide (n3 < 0)) (
 some (.inr (0, [.i n3, .i (-1)]))) (
 some (.inl [.l (lL s1 0), .i n3, .i (IntKind.wrap .i64 ((lI s1 2) + 1))]))) (
 some (.inr (1, [.i (lI s1 1)])))) [.l a, .i (IntKind.wrap .i64 (left - (a.length : Int))), .i 0] fun r4 =>
 if r4.1 = 0 then
 k (lI r4.2 1)
 else
 k (lI r4.2 0))
def F108 : T108 := P108 F179
def X108 : Exits := fun i => lookN i [] [(5, [(.ret, xk 27 [(1, .int .i64 0), (4, .int .i64 0)] []), (.exit 0, xk 27 [(1, .int .i64 0)] [])])]
abbrev s108 : List (Bool × List CK) := s40
abbrev G108 := G40
abbrev W108 (F : T108) : WT := wrap s108 (G108 F)
theorem k108 (F179 : T179) : KO [(179, W179 F179)] X108 108 Tryz.f108 s108 (G108 (P108 F179)) := fun _ _ _ => by kernel_rfl
theorem ok108 : FnOk D 108 (W108 F108) := oW Tryz.func108 (tc ok179 tn) (k108 F179 )
abbrev T109 : Type 1 := T45
def P109 : T109 := fun β a left k =>
 br (decide (IntKind.wrap .i64 (left - (a.length : Int)) < 0)) (
 k (-1)) (
 k (IntKind.wrap .i64 (left - (a.length : Int))))
def F109 : T109 := P109
abbrev s109 : List (Bool × List CK) := s45
abbrev G109 := G45
abbrev W109 (F : T109) : WT := wrap s109 (G109 F)
theorem k109 : KO [] noX 109 Tryz.f109 s109 (G109 (P109)) := fun _ _ _ => by kernel_rfl
theorem ok109 : FnOk D 109 (W109 F109) := oW Tryz.func109 (tn) (k109 )
abbrev T41 : Type 1 := (β : Type) → LsV → LsV → Int → (Int → Option β) → Option β
def P41 (F108 : T108) (F109 : T109) : T41 := fun β a b left k =>
 F108 _ a left fun n1 =>
 br (decide (n1 < 0)) (
 k (-1)) (
 F109 _ b n1 fun n2 =>
 br (decide (n2 < 0)) (
 k (-1)) (
 k n2))
def F41 : T41 := P41 F108 F109
abbrev s41 : List (Bool × List CK) := [(true, q16), (false, [.int .i64])]
def G41 (F : T41) (β : Type) (e : argsT s41) (k : V → Option β) : Option β := F β e.1.1 e.1.2.1 e.2.1.1 (fun y1 => k (.int .i64 y1))
abbrev W41 (F : T41) : WT := wrap s41 (G41 F)
theorem k41 (F108 : T108) (F109 : T109) : KO [(108, W108 F108), (109, W109 F109)] noX 41 Tryz.f41 s41 (G41 (P41 F108 F109)) := fun _ _ _ => by kernel_rfl
theorem ok41 : FnOk D 41 (W41 F41) := oW Tryz.func41 (tc ok108 (tc ok109 tn)) (k41 F108 F109 )
abbrev T110 : Type 1 := (β : Type) → Int → LU → LU → LU → Int → Bool → Int → LU → Int → (Int → Option β) → Option β
def P110 (F37 : T37) : T110 := fun β f c d a g h i b left k =>
 F37 _ c d left fun n1 =>
 br (decide (n1 < 0)) (
 k (-1)) (
 br (decide (IntKind.wrap .i64 (n1 - (a.length : Int)) < 0)) (
 k (-1)) (
 br (decide (IntKind.wrap .i64 ((IntKind.wrap .i64 (n1 - (a.length : Int))) - (b.length : Int)) < 0)) (
 k (-1)) (
 k (IntKind.wrap .i64 ((IntKind.wrap .i64 (n1 - (a.length : Int))) - (b.length : Int))))))
def F110 : T110 := P110 F37
abbrev s110 : List (Bool × List CK) := [(true, q5), (false, [.int .i64])]
def G110 (F : T110) (β : Type) (e : argsT s110) (k : V → Option β) : Option β := let a:=e.1;let b:=a.2;let c:=b.2;let d:=c.2;let f:=d.2;let g:=f.2;let h:=g.2;let i:=h.2;F β a.1 b.1 c.1 d.1 f.1 g.1 h.1 i.1 e.2.1.1 (fun y1 => k (.int .i64 y1))
abbrev W110 (F : T110) : WT := wrap s110 (G110 F)
theorem k110 (F37 : T37) : KO [(37, W37 F37)] noX 110 Tryz.f110 s110 (G110 (P110 F37)) := fun _ _ _ => by kernel_rfl
theorem ok110 : FnOk D 110 (W110 F110) := oW Tryz.func110 (tc ok37 tn) (k110 F37 )
abbrev T42 : Type 1 := T45
def P42 (F110 : T110) : T42 := fun β a left k =>
 br (decide (IntKind.wrap .i64 (left - (a.length : Int)) < 0)) (
 k (-1)) (
 whileK (fun s1 =>
 br (decide ((lI s1 2) < ((lL s1 0).length : Int))) (
 chk (0 ≤ (lI s1 2)) <|
 idx true q5 (lL s1 0) ((lI s1 2).toNat) fun (e2 : r1_) =>
 F110 _ e2.1 e2.2.1 e2.2.2.1 e2.2.2.2.1 e2.2.2.2.2.1 e2.2.2.2.2.2.1 e2.2.2.2.2.2.2.1 e2.2.2.2.2.2.2.2.1 (lI s1 1) fun n3 =>
 br (decide (n3 < 0)) (
 some (.inr (0, [.i n3, .i (-1)]))) (
 some (.inl [.l (lL s1 0), .i n3, .i (IntKind.wrap .i64 ((lI s1 2) + 1))]))) (
 some (.inr (1, [.i (lI s1 1)])))) [.l a, .i (IntKind.wrap .i64 (left - (a.length : Int))), .i 0] fun r4 =>
 if r4.1 = 0 then
 k (lI r4.2 1)
 else
 k (lI r4.2 0))
def F42 : T42 := P42 F110
def X42 : Exits := fun i => lookN i [] [(5, [(.ret, xk 27 [(1, .int .i64 0), (4, .int .i64 0)] []), (.exit 0, xk 27 [(1, .int .i64 0)] [])])]
abbrev s42 : List (Bool × List CK) := [(false, [.sl 8 true]), (false, [.int .i64])]
def G42 (F : T42) (β : Type) (e : argsT s42) (k : V → Option β) : Option β := F β e.1.1 e.2.1.1 (fun y1 => k (.int .i64 y1))
abbrev W42 (F : T42) : WT := wrap s42 (G42 F)
theorem k42 (F110 : T110) : KO [(110, W110 F110)] X42 42 Tryz.f42 s42 (G42 (P42 F110)) := fun _ _ _ => by kernel_rfl
theorem ok42 : FnOk D 42 (W42 F42) := oW Tryz.func42 (tc ok110 tn) (k42 F110 )
abbrev T111 : Type 1 := (β : Type) → LU → LU → Bool → Int → LU → Int → (Int → Option β) → Option β
def P111 (F37 : T37) : T111 := fun β b c d f a left k =>
 F37 _ b c left fun n1 =>
 br (decide (n1 < 0)) (
 k (-1)) (
 br (decide (IntKind.wrap .i64 (n1 - (a.length : Int)) < 0)) (
 k (-1)) (
 k (IntKind.wrap .i64 (n1 - (a.length : Int)))))
def F111 : T111 := P111 F37
abbrev s111 : List (Bool × List CK) := [(true, q13), (false, [.int .i64])]
def G111 (F : T111) (β : Type) (e : argsT s111) (k : V → Option β) : Option β := let a:=e.1;let b:=a.2;let c:=b.2;let d:=c.2;let f:=d.2;F β a.1 b.1 c.1 d.1 f.1 e.2.1.1 (fun y1 => k (.int .i64 y1))
abbrev W111 (F : T111) : WT := wrap s111 (G111 F)
theorem k111 (F37 : T37) : KO [(37, W37 F37)] noX 111 Tryz.f111 s111 (G111 (P111 F37)) := fun _ _ _ => by kernel_rfl
theorem ok111 : FnOk D 111 (W111 F111) := oW Tryz.func111 (tc ok37 tn) (k111 F37 )
abbrev T43 : Type 1 := T45
def P43 (F111 : T111) : T43 := fun β a left k =>
 br (decide (IntKind.wrap .i64 (left - (a.length : Int)) < 0)) (
 k (-1)) (
 whileK (fun s1 =>
 br (decide ((lI s1 2) < ((lL s1 0).length : Int))) (
 chk (0 ≤ (lI s1 2)) <|
 idx true q13 (lL s1 0) ((lI s1 2).toNat) fun (e2 : r5_) =>
 F111 _ e2.1 e2.2.1 e2.2.2.1 e2.2.2.2.1 e2.2.2.2.2.1 (lI s1 1) fun n3 =>
 br (decide (n3 < 0)) (
 some (.inr (0, [.i n3, .i (-1)]))) (
 some (.inl [.l (lL s1 0), .i n3, .i (IntKind.wrap .i64 ((lI s1 2) + 1))]))) (
 some (.inr (1, [.i (lI s1 1)])))) [.l a, .i (IntKind.wrap .i64 (left - (a.length : Int))), .i 0] fun r4 =>
 if r4.1 = 0 then
 k (lI r4.2 1)
 else
 k (lI r4.2 0))
def F43 : T43 := P43 F111
def X43 : Exits := fun i => lookN i [] [(5, [(.ret, xk 27 [(1, .int .i64 0), (4, .int .i64 0)] []), (.exit 0, xk 27 [(1, .int .i64 0)] [])])]
abbrev s43 : List (Bool × List CK) := [(false, [.sl 5 true]), (false, [.int .i64])]
def G43 (F : T43) (β : Type) (e : argsT s43) (k : V → Option β) : Option β := F β e.1.1 e.2.1.1 (fun y1 => k (.int .i64 y1))
abbrev W43 (F : T43) : WT := wrap s43 (G43 F)
theorem k43 (F111 : T111) : KO [(111, W111 F111)] X43 43 Tryz.f43 s43 (G43 (P43 F111)) := fun _ _ _ => by kernel_rfl
theorem ok43 : FnOk D 43 (W43 F43) := oW Tryz.func43 (tc ok111 tn) (k43 F111 )
abbrev T44 : Type 1 := T45
def P44 (F37 : T37) : T44 := fun β a left k =>
 br (decide (IntKind.wrap .i64 (left - (a.length : Int)) < 0)) (
 k (-1)) (
 whileK (fun s1 =>
 br (decide ((lI s1 2) < ((lL s1 0).length : Int))) (
 chk (0 ≤ (lI s1 2)) <|
 idx true [.str, .str] (lL s1 0) ((lI s1 2).toNat) fun (e2 : r11_) =>
 F37 _ e2.1 e2.2.1 (lI s1 1) fun n3 =>
 br (decide (n3 < 0)) (
 some (.inr (0, [.i n3, .i (-1)]))) (
 some (.inl [.l (lL s1 0), .i n3, .i (IntKind.wrap .i64 ((lI s1 2) + 1))]))) (
 some (.inr (1, [.i (lI s1 1)])))) [.l a, .i (IntKind.wrap .i64 (left - (a.length : Int))), .i 0] fun r4 =>
 if r4.1 = 0 then
 k (lI r4.2 1)
 else
 k (lI r4.2 0))
def F44 : T44 := P44 F37
def X44 : Exits := fun i => lookN i [] [(5, [(.ret, xk 27 [(1, .int .i64 0), (4, .int .i64 0)] []), (.exit 0, xk 27 [(1, .int .i64 0)] [])])]
abbrev s44 : List (Bool × List CK) := s178
abbrev G44 := G178
abbrev W44 (F : T44) : WT := wrap s44 (G44 F)
theorem k44 (F37 : T37) : KO [(37, W37 F37)] X44 44 Tryz.f44 s44 (G44 (P44 F37)) := fun _ _ _ => by kernel_rfl
theorem ok44 : FnOk D 44 (W44 F44) := oW Tryz.func44 (tc ok37 tn) (k44 F37 )
abbrev T8 : Type 1 := (β : Type) → LU → LU → Bool → LsV → LsV → LsV → LU → LU → LsV → Bool → LsV → LsV → LsV → LsV → LsV → Int → Int → Int → Int → LsV → LsV → Bool → Int → (Int → Option β) → Option β
def P8 (F37 : T37) (F38 : T38) (F39 : T39) (F40 : T40) (F41 : T41) (F42 : T42) (F43 : T43) (F44 : T44) (F45 : T45) : T8 := fun β a b c d f g h i j s l m n o p t u v w q r x left k =>
 F37 _ a b left fun n1 =>
 br (decide (n1 < 0)) (
 k (-1)) (
 F38 _ c d f g h n1 fun n2 =>
 br (decide (n2 < 0)) (
 k (-1)) (
 F39 _ i n2 fun n3 =>
 br (decide (n3 < 0)) (
 k (-1)) (
 F40 _ j n3 fun n4 =>
 br (decide (n4 < 0)) (
 k (-1)) (
 F41 _ l m n4 fun n5 =>
 br (decide (n5 < 0)) (
 k (-1)) (
 F42 _ n n5 fun n6 =>
 br (decide (n6 < 0)) (
 k (-1)) (
 F43 _ o n6 fun n7 =>
 br (decide (n7 < 0)) (
 k (-1)) (
 F44 _ p n7 fun n8 =>
 br (decide (n8 < 0)) (
 k (-1)) (
 F44 _ q n8 fun n9 =>
 br (decide (n9 < 0)) (
 k (-1)) (
 F45 _ r n9 fun n10 =>
 br (decide (n10 < 0)) (
 k (-1)) (
 k n10))))))))))
def F8 : T8 := P8 F37 F38 F39 F40 F41 F42 F43 F44 F45
abbrev s8 : List (Bool × List CK) := [(true, q2), (false, [.int .i64])]
def G8 (F : T8) (β : Type) (e : argsT s8) (k : V → Option β) : Option β := let a:=e.1;let b:=a.2;let c:=b.2;let d:=c.2;let f:=d.2;let g:=f.2;let h:=g.2;let i:=h.2;let j:=i.2;let l:=j.2;let m:=l.2;let n:=m.2;let o:=n.2;let p:=o.2;let q:=p.2;let r:=q.2;let s:=r.2;let t:=s.2;let u:=t.2;let v:=u.2;let w:=v.2;let x:=w.2;F β a.1 b.1 c.1 d.1 f.1 g.1 h.1 i.1 j.1 l.1 m.1 n.1 o.1 p.1 q.1 r.1 s.1 t.1 u.1 v.1 w.1 x.1 e.2.1.1 (fun y1 => k (.int .i64 y1))
abbrev W8 (F : T8) : WT := wrap s8 (G8 F)
theorem k8 (F37 : T37) (F38 : T38) (F39 : T39) (F40 : T40) (F41 : T41) (F42 : T42) (F43 : T43) (F44 : T44) (F45 : T45) : KO [(37, W37 F37), (38, W38 F38), (39, W39 F39), (40, W40 F40), (41, W41 F41), (42, W42 F42), (43, W43 F43), (44, W44 F44), (45, W45 F45)] noX 8 Tryz.f8 s8 (G8 (P8 F37 F38 F39 F40 F41 F42 F43 F44 F45)) := fun _ _ _ => by kernel_rfl
theorem ok8 : FnOk D 8 (W8 F8) := oW Tryz.func8 (tc ok37 (tc ok38 (tc ok39 (tc ok40 (tc ok41 (tc ok42 (tc ok43 (tc ok44 (tc ok45 tn))))))))) (k8 F37 F38 F39 F40 F41 F42 F43 F44 F45 )
abbrev T106 : Type 1 := (β : Type) → LU → LU → LU → LU → Bool → LsV → LsV → LsV → LU → LU → LsV → Bool → LsV → LsV → LsV → LsV → LsV → Int → Int → Int → Int → LsV → LsV → Bool → Bool → Int → (Int → Option β) → Option β
def P106 (F37 : T37) (F8 : T8) : T106 := fun β a b c d f g h i j l m n o p q r s t u v w x y z a1 left k =>
 F37 _ a b left fun n1 =>
 br (decide (n1 < 0)) (
 k (-1)) (
 F8 _ c d f g h i j l m n o p q r s t u v w x y z n1 fun n2 =>
 br (decide (n2 < 0)) (
 k (-1)) (
 k n2))
def F106 : T106 := P106 F37 F8
abbrev s106 : List (Bool × List CK) := [(true, q0), (false, [.int .i64])]
def G106 (F : T106) (β : Type) (e : argsT s106) (k : V → Option β) : Option β := let a:=e.1;let b:=a.2;let c:=b.2;let d:=c.2;let f:=d.2;let g:=f.2;let h:=g.2;let i:=h.2;let j:=i.2;let l:=j.2;let m:=l.2;let n:=m.2;let o:=n.2;let p:=o.2;let q:=p.2;let r:=q.2;let s:=r.2;let t:=s.2;let u:=t.2;let v:=u.2;let w:=v.2;let x:=w.2;let y:=x.2;let z:=y.2;let a1:=z.2;F β a.1 b.1 c.1 d.1 f.1 g.1 h.1 i.1 j.1 l.1 m.1 n.1 o.1 p.1 q.1 r.1 s.1 t.1 u.1 v.1 w.1 x.1 y.1 z.1 a1.1 e.2.1.1 (fun y1 => k (.int .i64 y1))
abbrev W106 (F : T106) : WT := wrap s106 (G106 F)
theorem k106 (F37 : T37) (F8 : T8) : KO [(37, W37 F37), (8, W8 F8)] noX 106 Tryz.f106 s106 (G106 (P106 F37 F8)) := fun _ _ _ => by kernel_rfl
theorem ok106 : FnOk D 106 (W106 F106) := oW Tryz.func106 (tc ok37 (tc ok8 tn)) (k106 F37 F8 )
abbrev T36 : Type 1 := T45
def P36 (F106 : T106) : T36 := fun β a left k =>
 br (decide (IntKind.wrap .i64 (left - (a.length : Int)) < 0)) (
 k (-1)) (
 whileK (fun s1 =>
 br (decide ((lI s1 2) < ((lL s1 0).length : Int))) (
 chk (0 ≤ (lI s1 2)) <|
 idx true q0 (lL s1 0) ((lI s1 2).toNat) fun (e2 : r10_) =>
 F106 _ e2.1 e2.2.1 e2.2.2.1 e2.2.2.2.1 e2.2.2.2.2.1 e2.2.2.2.2.2.1 e2.2.2.2.2.2.2.1 e2.2.2.2.2.2.2.2.1 e2.2.2.2.2.2.2.2.2.1 e2.2.2.2.2.2.2.2.2.2.1 e2.2.2.2.2.2.2.2.2.2.2.1 e2.2.2.2.2.2.2.2.2.2.2.2.1 e2.2.2.2.2.2.2.2.2.2.2.2.2.1 e2.2.2.2.2.2.2.2.2.2.2.2.2.2.1 e2.2.2.2.2.2.2.2.2.2.2.2.2.2.2.1 e2.2.2.2.2.2.2.2.2.2.2.2.2.2.2.2.1 e2.2.2.2.2.2.2.2.2.2.2.2.2.2.2.2.2.1 e2.2.2.2.2.2.2.2.2.2.2.2.2.2.2.2.2.2.1 e2.2.2.2.2.2.2.2.2.2.2.2.2.2.2.2.2.2.2.1 e2.2.2.2.2.2.2.2.2.2.2.2.2.2.2.2.2.2.2.2.1 e2.2.2.2.2.2.2.2.2.2.2.2.2.2.2.2.2.2.2.2.2.1 e2.2.2.2.2.2.2.2.2.2.2.2.2.2.2.2.2.2.2.2.2.2.1 e2.2.2.2.2.2.2.2.2.2.2.2.2.2.2.2.2.2.2.2.2.2.2.1 e2.2.2.2.2.2.2.2.2.2.2.2.2.2.2.2.2.2.2.2.2.2.2.2.1 e2.2.2.2.2.2.2.2.2.2.2.2.2.2.2.2.2.2.2.2.2.2.2.2.2.1 (lI s1 1) fun n3 =>
 br (decide (n3 < 0)) (
 some (.inr (0, [.i n3, .i (-1)]))) (
 some (.inl [.l (lL s1 0), .i n3, .i (IntKind.wrap .i64 ((lI s1 2) + 1))]))) (
 some (.inr (1, [.i (lI s1 1)])))) [.l a, .i (IntKind.wrap .i64 (left - (a.length : Int))), .i 0] fun r4 =>
 if r4.1 = 0 then
 k (lI r4.2 1)
 else
 k (lI r4.2 0))
def F36 : T36 := P36 F106
def X36 : Exits := fun i => lookN i [] [(5, [(.ret, xk 27 [(1, .int .i64 0), (4, .int .i64 0)] []), (.exit 0, xk 27 [(1, .int .i64 0)] [])])]
abbrev s36 : List (Bool × List CK) := [(false, [.sl 25 false]), (false, [.int .i64])]
def G36 (F : T36) (β : Type) (e : argsT s36) (k : V → Option β) : Option β := F β e.1.1 e.2.1.1 (fun y1 => k (.int .i64 y1))
abbrev W36 (F : T36) : WT := wrap s36 (G36 F)
theorem k36 (F106 : T106) : KO [(106, W106 F106)] X36 36 Tryz.f36 s36 (G36 (P36 F106)) := fun _ _ _ => by kernel_rfl
theorem ok36 : FnOk D 36 (W36 F36) := oW Tryz.func36 (tc ok106 tn) (k36 F106 )
abbrev T7 : Type 1 := (β : Type) → LsV → Int → Int → (Int → Option β) → Option β
def P7 (F36 : T36) : T7 := fun β a b left k =>
 F36 _ a left fun n1 =>
 br (decide (n1 < 0)) (
 k (-1)) (
 k n1)
def F7 : T7 := P7 F36
abbrev s7 : List (Bool × List CK) := [(true, q10), (false, [.int .i64])]
def G7 (F : T7) (β : Type) (e : argsT s7) (k : V → Option β) : Option β := F β e.1.1 e.1.2.1 e.2.1.1 (fun y1 => k (.int .i64 y1))
abbrev W7 (F : T7) : WT := wrap s7 (G7 F)
theorem k7 (F36 : T36) : KO [(36, W36 F36)] noX 7 Tryz.f7 s7 (G7 (P7 F36)) := fun _ _ _ => by kernel_rfl
theorem ok7 : FnOk D 7 (W7 F7) := oW Tryz.func7 (tc ok36 tn) (k7 F36 )
abbrev T50 : Type 1 := (β : Type) → LU → LU → (LU → LU → Option β) → Option β
def P50 : T50 := fun β a b k =>
 k a b
def F50 : T50 := P50
abbrev s50 : List (Bool × List CK) := [(true, [.str, .str])]
def G50 (F : T50) (β : Type) (e : argsT s50) (k : V → Option β) : Option β := F β e.1.1 e.1.2.1 (fun y1 y2 => k (.agg [.str y1, .str y2]))
abbrev W50 (F : T50) : WT := wrap s50 (G50 F)
theorem k50 : KO [] noX 50 Tryz.f50 s50 (G50 (P50)) := fun _ _ _ => by kernel_rfl
theorem ok50 : FnOk D 50 (W50 F50) := oW Tryz.func50 (tn) (k50 )
abbrev T58 : Type 1 := (β : Type) → LsV → (LsV → Option β) → Option β
def P58 : T58 := fun β a k =>
 chk (0 ≤ (a.length : Int) ∧ (a.length : Int) ≤ (a.length : Int) ∧ (a.length : Int) * 16 ≤ 140737488355328 ∧ (a.length : Int) ≤ 140737488355328) <|
 whileK (fun s1 =>
 br (decide ((lI s1 2) < ((lL s1 0).length : Int))) (
 chk (0 ≤ (lI s1 2)) <|
 idx false [.str] (lL s1 0) ((lI s1 2).toNat) fun (e2 : r13_) =>
 chk (0 ≤ (lI s1 2) ∧ (lI s1 2).toNat < (lL s1 1).length) <|
 storeO (lL s1 1) ((lI s1 2).toNat) 0 [.str e2.1] fun l3 =>
 some (.inl [.l (lL s1 0), .l l3, .i (IntKind.wrap .i64 ((lI s1 2) + 1))])) (
 some (.inr (0, [.l (lL s1 1)])))) [.l a, .l (List.replicate ((a.length : Int).toNat) (.str [])), .i 0] fun r4 =>
 k (lL r4.2 0)
def F58 : T58 := P58
def X58 : Exits := fun i => lookN i [] [(3, [(.exit 0, xk 22 [(3, .own 1000000 1 .flat [])] [])])]
abbrev s58 : List (Bool × List CK) := [(false, [.sl 1 true])]
def G58 (F : T58) (β : Type) (e : argsT s58) (k : V → Option β) : Option β := F β e.1.1 (fun y1 => k (.own 0 1 .flat y1))
abbrev W58 (F : T58) : WT := wrap s58 (G58 F)
theorem k58 : KO [] X58 58 Tryz.f58 s58 (G58 (P58)) := fun _ _ _ => by kernel_rfl
theorem ok58 : FnOk D 58 (W58 F58) := oW Tryz.func58 (tn) (k58 )
abbrev T51 : Type 1 := (β : Type) → Bool → LsV → LsV → LsV → LU → (Bool → LsV → LsV → LsV → LU → Option β) → Option β
def P51 (F58 : T58) : T51 := fun β a b c d f k =>
 F58 _ b fun l1 =>
 F58 _ c fun l2 =>
 F58 _ d fun l3 =>
 k a l1 l2 l3 f
def F51 : T51 := P51 F58
abbrev s51 : List (Bool × List CK) := [(true, q11)]
def G51 (F : T51) (β : Type) (e : argsT s51) (k : V → Option β) : Option β := let a:=e.1;let b:=a.2;let c:=b.2;let d:=c.2;let f:=d.2;F β a.1 b.1 c.1 d.1 f.1 (fun y1 y2 y3 y4 y5 => k (.agg [.bool y1, .own 1 1 .flat y2, .own 2 1 .flat y3, .own 3 1 .flat y4, .str y5]))
abbrev W51 (F : T51) : WT := wrap s51 (G51 F)
theorem k51 (F58 : T58) : KO [(58, W58 F58)] noX 51 Tryz.f51 s51 (G51 (P51 F58)) := fun _ _ _ => by kernel_rfl
theorem ok51 : FnOk D 51 (W51 F51) := oW Tryz.func51 (tc ok58 tn) (k51 F58 )
abbrev T52 : Type 1 := (β : Type) → LU → (LU → Option β) → Option β
def P52 : T52 := fun β a k =>
 k a
def F52 : T52 := P52
abbrev s52 : List (Bool × List CK) := [(true, [.str])]
def G52 (F : T52) (β : Type) (e : argsT s52) (k : V → Option β) : Option β := F β e.1.1 (fun y1 => k (.agg [.str y1]))
abbrev W52 (F : T52) : WT := wrap s52 (G52 F)
theorem k52 : KO [] noX 52 Tryz.f52 s52 (G52 (P52)) := fun _ _ _ => by kernel_rfl
theorem ok52 : FnOk D 52 (W52 F52) := oW Tryz.func52 (tn) (k52 )
abbrev T214 : Type 1 := T50
def P214 : T214 := fun β a b k =>
 k a b
def F214 : T214 := P214
abbrev s214 : List (Bool × List CK) := s50
abbrev G214 := G50
abbrev W214 (F : T214) : WT := wrap s214 (G214 F)
theorem k214 : KO [] noX 214 Tryz.f214 s214 (G214 (P214)) := fun _ _ _ => by kernel_rfl
theorem ok214 : FnOk D 214 (W214 F214) := oW Tryz.func214 (tn) (k214 )
abbrev T181 : Type 1 := T58
def P181 (F214 : T214) : T181 := fun β a k =>
 chk (0 ≤ (a.length : Int) ∧ (a.length : Int) ≤ (a.length : Int) ∧ (a.length : Int) * 32 ≤ 140737488355328 ∧ (a.length : Int) ≤ 140737488355328) <|
 whileK (fun s1 =>
 br (decide ((lI s1 2) < ((lL s1 0).length : Int))) (
 chk (0 ≤ (lI s1 2)) <|
 idx true [.str, .str] (lL s1 0) ((lI s1 2).toNat) fun (e2 : r11_) =>
 F214 _ e2.1 e2.2.1 fun t3 t4 =>
 chk (0 ≤ (lI s1 2) ∧ (lI s1 2).toNat < (lL s1 1).length) <|
 storeO (lL s1 1) ((lI s1 2).toNat) 0 [.str t3, .str t4] fun l5 =>
 some (.inl [.l (lL s1 0), .l l5, .i (IntKind.wrap .i64 ((lI s1 2) + 1))])) (
 some (.inr (0, [.l (lL s1 1)])))) [.l a, .l (List.replicate ((a.length : Int).toNat) (.agg [.str [], .str []])), .i 0] fun r6 =>
 k (lL r6.2 0)
def F181 : T181 := P181 F214
def X181 : Exits := fun i => lookN i [] [(3, [(.exit 0, xk 23 [(3, .own 1000000 2 .flat [])] [])])]
abbrev s181 : List (Bool × List CK) := [(false, [.sl 2 true])]
def G181 (F : T181) (β : Type) (e : argsT s181) (k : V → Option β) : Option β := F β e.1.1 (fun y1 => k (.own 0 2 .flat y1))
abbrev W181 (F : T181) : WT := wrap s181 (G181 F)
theorem k181 (F214 : T214) : KO [(214, W214 F214)] X181 181 Tryz.f181 s181 (G181 (P181 F214)) := fun _ _ _ => by kernel_rfl
theorem ok181 : FnOk D 181 (W181 F181) := oW Tryz.func181 (tc ok214 tn) (k181 F214 )
abbrev T116 : Type 1 := (β : Type) → Int → LU → LsV → LU → (Int → LU → LsV → LU → Option β) → Option β
def P116 (F181 : T181) : T116 := fun β a b c d k =>
 F181 _ c fun l1 =>
 k a b l1 d
def F116 : T116 := P116 F181
abbrev s116 : List (Bool × List CK) := [(true, q8)]
def G116 (F : T116) (β : Type) (e : argsT s116) (k : V → Option β) : Option β := F β e.1.1 e.1.2.1 e.1.2.2.1 e.1.2.2.2.1 (fun y1 y2 y3 y4 => k (.agg [.int .i64 y1, .str y2, .own 2 2 .flat y3, .str y4]))
abbrev W116 (F : T116) : WT := wrap s116 (G116 F)
theorem k116 (F181 : T181) : KO [(181, W181 F181)] noX 116 Tryz.f116 s116 (G116 (P116 F181)) := fun _ _ _ => by kernel_rfl
theorem ok116 : FnOk D 116 (W116 F116) := oW Tryz.func116 (tc ok181 tn) (k116 F181 )
abbrev T53 : Type 1 := T58
def P53 (F116 : T116) : T53 := fun β a k =>
 chk (0 ≤ (a.length : Int) ∧ (a.length : Int) ≤ (a.length : Int) ∧ (a.length : Int) * 64 ≤ 140737488355328 ∧ (a.length : Int) ≤ 140737488355328) <|
 whileK (fun s1 =>
 br (decide ((lI s1 2) < ((lL s1 0).length : Int))) (
 chk (0 ≤ (lI s1 2)) <|
 idx true q8 (lL s1 0) ((lI s1 2).toNat) fun (e2 : r2_) =>
 F116 _ e2.1 e2.2.1 e2.2.2.1 e2.2.2.2.1 fun n3 t4 l5 t6 =>
 chk (0 ≤ (lI s1 2) ∧ (lI s1 2).toNat < (lL s1 1).length) <|
 storeO (lL s1 1) ((lI s1 2).toNat) 0 [.int .i64 n3, .str t4, .sl 2 true l5, .str t6] fun l7 =>
 some (.inl [.l (lL s1 0), .l l7, .i (IntKind.wrap .i64 ((lI s1 2) + 1))])) (
 some (.inr (0, [.l (lL s1 1)])))) [.l a, .l (List.replicate ((a.length : Int).toNat) (.agg [.int .i64 0, .str [], .sl 2 true [], .str []])), .i 0] fun r8 =>
 k (lL r8.2 0)
def F53 : T53 := P53 F116
def X53 : Exits := fun i => lookN i [] [(3, [(.exit 0, xk 23 [(3, .own 1000000 4 .clean [])] [])])]
abbrev s53 : List (Bool × List CK) := [(false, [.sl 4 false])]
def G53 (F : T53) (β : Type) (e : argsT s53) (k : V → Option β) : Option β := F β e.1.1 (fun y1 => k (.own 0 4 .clean y1))
abbrev W53 (F : T53) : WT := wrap s53 (G53 F)
theorem k53 (F116 : T116) : KO [(116, W116 F116)] X53 53 Tryz.f53 s53 (G53 (P53 F116)) := fun _ _ _ => by kernel_rfl
theorem ok53 : FnOk D 53 (W53 F53) := oW Tryz.func53 (tc ok116 tn) (k53 F116 )
abbrev T182 : Type 1 := (β : Type) → LU → LU → Int → LsV → (LU → LU → Int → LsV → Option β) → Option β
def P182 (F181 : T181) : T182 := fun β a b c d k =>
 F181 _ d fun l1 =>
 k a b c l1
def F182 : T182 := P182 F181
abbrev s182 : List (Bool × List CK) := [(true, q9)]
def G182 (F : T182) (β : Type) (e : argsT s182) (k : V → Option β) : Option β := F β e.1.1 e.1.2.1 e.1.2.2.1 e.1.2.2.2.1 (fun y1 y2 y3 y4 => k (.agg [.str y1, .str y2, .int .i64 y3, .own 3 2 .flat y4]))
abbrev W182 (F : T182) : WT := wrap s182 (G182 F)
theorem k182 (F181 : T181) : KO [(181, W181 F181)] noX 182 Tryz.f182 s182 (G182 (P182 F181)) := fun _ _ _ => by kernel_rfl
theorem ok182 : FnOk D 182 (W182 F182) := oW Tryz.func182 (tc ok181 tn) (k182 F181 )
abbrev T117 : Type 1 := T58
def P117 (F182 : T182) : T117 := fun β a k =>
 chk (0 ≤ (a.length : Int) ∧ (a.length : Int) ≤ (a.length : Int) ∧ (a.length : Int) * 64 ≤ 140737488355328 ∧ (a.length : Int) ≤ 140737488355328) <|
 whileK (fun s1 =>
 br (decide ((lI s1 2) < ((lL s1 0).length : Int))) (
 chk (0 ≤ (lI s1 2)) <|
 idx true q9 (lL s1 0) ((lI s1 2).toNat) fun (e2 : r7_) =>
 F182 _ e2.1 e2.2.1 e2.2.2.1 e2.2.2.2.1 fun t3 t4 n5 l6 =>
 chk (0 ≤ (lI s1 2) ∧ (lI s1 2).toNat < (lL s1 1).length) <|
 storeO (lL s1 1) ((lI s1 2).toNat) 0 [.str t3, .str t4, .int .i64 n5, .sl 2 true l6] fun l7 =>
 some (.inl [.l (lL s1 0), .l l7, .i (IntKind.wrap .i64 ((lI s1 2) + 1))])) (
 some (.inr (0, [.l (lL s1 1)])))) [.l a, .l (List.replicate ((a.length : Int).toNat) (.agg [.str [], .str [], .int .i64 0, .sl 2 true []])), .i 0] fun r8 =>
 k (lL r8.2 0)
def F117 : T117 := P117 F182
def X117 : Exits := fun i => lookN i [] [(3, [(.exit 0, xk 23 [(3, .own 1000000 4 .clean [])] [])])]
abbrev s117 : List (Bool × List CK) := s53
abbrev G117 := G53
abbrev W117 (F : T117) : WT := wrap s117 (G117 F)
theorem k117 (F182 : T182) : KO [(182, W182 F182)] X117 117 Tryz.f117 s117 (G117 (P117 F182)) := fun _ _ _ => by kernel_rfl
theorem ok117 : FnOk D 117 (W117 F117) := oW Tryz.func117 (tc ok182 tn) (k117 F182 )
abbrev T118 : Type 1 := T58
def P118 : T118 := fun β a k =>
 chk (0 ≤ (a.length : Int) ∧ (a.length : Int) ≤ (a.length : Int) ∧ (a.length : Int) * 8 ≤ 140737488355328 ∧ (a.length : Int) ≤ 140737488355328) <|
 whileK (fun s1 =>
 br (decide ((lI s1 2) < ((lL s1 0).length : Int))) (
 chk (0 ≤ (lI s1 2)) <|
 idx false [.int .i64] (lL s1 0) ((lI s1 2).toNat) fun (e2 : Int × Unit) =>
 chk (0 ≤ (lI s1 2) ∧ (lI s1 2).toNat < (lL s1 1).length) <|
 storeO (lL s1 1) ((lI s1 2).toNat) 0 [.int .i64 e2.1] fun l3 =>
 some (.inl [.l (lL s1 0), .l l3, .i (IntKind.wrap .i64 ((lI s1 2) + 1))])) (
 some (.inr (0, [.l (lL s1 1)])))) [.l a, .l (List.replicate ((a.length : Int).toNat) (.int .i64 0)), .i 0] fun r4 =>
 k (lL r4.2 0)
def F118 : T118 := P118
def X118 : Exits := fun i => lookN i [] [(3, [(.exit 0, xk 22 [(3, .own 1000000 1 .flat [])] [])])]
abbrev s118 : List (Bool × List CK) := s58
abbrev G118 := G58
abbrev W118 (F : T118) : WT := wrap s118 (G118 F)
theorem k118 : KO [] X118 118 Tryz.f118 s118 (G118 (P118)) := fun _ _ _ => by kernel_rfl
theorem ok118 : FnOk D 118 (W118 F118) := oW Tryz.func118 (tn) (k118 )
abbrev T54 : Type 1 := (β : Type) → LsV → LsV → (LsV → LsV → Option β) → Option β
def P54 (F117 : T117) (F118 : T118) : T54 := fun β a b k =>
 F117 _ a fun l1 =>
 F118 _ b fun l2 =>
 k l1 l2
def F54 : T54 := P54 F117 F118
abbrev s54 : List (Bool × List CK) := [(true, q16)]
def G54 (F : T54) (β : Type) (e : argsT s54) (k : V → Option β) : Option β := F β e.1.1 e.1.2.1 (fun y1 y2 => k (.agg [.own 0 4 .clean y1, .own 1 1 .flat y2]))
abbrev W54 (F : T54) : WT := wrap s54 (G54 F)
theorem k54 (F117 : T117) (F118 : T118) : KO [(117, W117 F117), (118, W118 F118)] noX 54 Tryz.f54 s54 (G54 (P54 F117 F118)) := fun _ _ _ => by kernel_rfl
theorem ok54 : FnOk D 54 (W54 F54) := oW Tryz.func54 (tc ok117 (tc ok118 tn)) (k54 F117 F118 )
abbrev T119 : Type 1 := (β : Type) → Int → LU → LU → LU → Int → Bool → Int → LU → (Int → LU → LU → LU → Int → Bool → Int → LU → Option β) → Option β
def P119 (F50 : T50) : T119 := fun β a b c d f g h i k =>
 F50 _ b c fun t1 t2 =>
 k a t1 t2 d f g h i
def F119 : T119 := P119 F50
abbrev s119 : List (Bool × List CK) := [(true, q5)]
def G119 (F : T119) (β : Type) (e : argsT s119) (k : V → Option β) : Option β := let a:=e.1;let b:=a.2;let c:=b.2;let d:=c.2;let f:=d.2;let g:=f.2;let h:=g.2;let i:=h.2;F β a.1 b.1 c.1 d.1 f.1 g.1 h.1 i.1 (fun y1 y2 y3 y4 y5 y6 y7 y8 => k (.agg [.int .i64 y1, .str y2, .str y3, .str y4, .int .i64 y5, .bool y6, .int .i64 y7, .str y8]))
abbrev W119 (F : T119) : WT := wrap s119 (G119 F)
theorem k119 (F50 : T50) : KO [(50, W50 F50)] noX 119 Tryz.f119 s119 (G119 (P119 F50)) := fun _ _ _ => by kernel_rfl
theorem ok119 : FnOk D 119 (W119 F119) := oW Tryz.func119 (tc ok50 tn) (k119 F50 )
abbrev T55 : Type 1 := T58
def P55 (F119 : T119) : T55 := fun β a k =>
 chk (0 ≤ (a.length : Int) ∧ (a.length : Int) ≤ (a.length : Int) ∧ (a.length : Int) * 96 ≤ 140737488355328 ∧ (a.length : Int) ≤ 140737488355328) <|
 whileK (fun s1 =>
 br (decide ((lI s1 2) < ((lL s1 0).length : Int))) (
 chk (0 ≤ (lI s1 2)) <|
 idx true q5 (lL s1 0) ((lI s1 2).toNat) fun (e2 : r1_) =>
 F119 _ e2.1 e2.2.1 e2.2.2.1 e2.2.2.2.1 e2.2.2.2.2.1 e2.2.2.2.2.2.1 e2.2.2.2.2.2.2.1 e2.2.2.2.2.2.2.2.1 fun n3 t4 t5 t6 n7 b8 n9 t10 =>
 chk (0 ≤ (lI s1 2) ∧ (lI s1 2).toNat < (lL s1 1).length) <|
 storeO (lL s1 1) ((lI s1 2).toNat) 0 [.int .i64 n3, .str t4, .str t5, .str t6, .int .i64 n7, .bool b8, .int .i64 n9, .str t10] fun l11 =>
 some (.inl [.l (lL s1 0), .l l11, .i (IntKind.wrap .i64 ((lI s1 2) + 1))])) (
 some (.inr (0, [.l (lL s1 1)])))) [.l a, .l (List.replicate ((a.length : Int).toNat) (.agg [.int .i64 0, .str [], .str [], .str [], .int .i64 0, .bool false, .int .i64 0, .str []])), .i 0] fun r12 =>
 k (lL r12.2 0)
def F55 : T55 := P55 F119
def X55 : Exits := fun i => lookN i [] [(3, [(.exit 0, xk 23 [(3, .own 1000000 8 .flat [])] [])])]
abbrev s55 : List (Bool × List CK) := [(false, [.sl 8 true])]
def G55 (F : T55) (β : Type) (e : argsT s55) (k : V → Option β) : Option β := F β e.1.1 (fun y1 => k (.own 0 8 .flat y1))
abbrev W55 (F : T55) : WT := wrap s55 (G55 F)
theorem k55 (F119 : T119) : KO [(119, W119 F119)] X55 55 Tryz.f55 s55 (G55 (P55 F119)) := fun _ _ _ => by kernel_rfl
theorem ok55 : FnOk D 55 (W55 F55) := oW Tryz.func55 (tc ok119 tn) (k55 F119 )
abbrev T120 : Type 1 := (β : Type) → LU → LU → Bool → Int → LU → (LU → LU → Bool → Int → LU → Option β) → Option β
def P120 (F50 : T50) : T120 := fun β a b c d f k =>
 F50 _ a b fun t1 t2 =>
 k t1 t2 c d f
def F120 : T120 := P120 F50
abbrev s120 : List (Bool × List CK) := [(true, q13)]
def G120 (F : T120) (β : Type) (e : argsT s120) (k : V → Option β) : Option β := let a:=e.1;let b:=a.2;let c:=b.2;let d:=c.2;let f:=d.2;F β a.1 b.1 c.1 d.1 f.1 (fun y1 y2 y3 y4 y5 => k (.agg [.str y1, .str y2, .bool y3, .int .i64 y4, .str y5]))
abbrev W120 (F : T120) : WT := wrap s120 (G120 F)
theorem k120 (F50 : T50) : KO [(50, W50 F50)] noX 120 Tryz.f120 s120 (G120 (P120 F50)) := fun _ _ _ => by kernel_rfl
theorem ok120 : FnOk D 120 (W120 F120) := oW Tryz.func120 (tc ok50 tn) (k120 F50 )
abbrev T56 : Type 1 := T58
def P56 (F120 : T120) : T56 := fun β a k =>
 chk (0 ≤ (a.length : Int) ∧ (a.length : Int) ≤ (a.length : Int) ∧ (a.length : Int) * 64 ≤ 140737488355328 ∧ (a.length : Int) ≤ 140737488355328) <|
 whileK (fun s1 =>
 br (decide ((lI s1 2) < ((lL s1 0).length : Int))) (
 chk (0 ≤ (lI s1 2)) <|
 idx true q13 (lL s1 0) ((lI s1 2).toNat) fun (e2 : r5_) =>
 F120 _ e2.1 e2.2.1 e2.2.2.1 e2.2.2.2.1 e2.2.2.2.2.1 fun t3 t4 b5 n6 t7 =>
 chk (0 ≤ (lI s1 2) ∧ (lI s1 2).toNat < (lL s1 1).length) <|
 storeO (lL s1 1) ((lI s1 2).toNat) 0 [.str t3, .str t4, .bool b5, .int .i64 n6, .str t7] fun l8 =>
 some (.inl [.l (lL s1 0), .l l8, .i (IntKind.wrap .i64 ((lI s1 2) + 1))])) (
 some (.inr (0, [.l (lL s1 1)])))) [.l a, .l (List.replicate ((a.length : Int).toNat) (.agg [.str [], .str [], .bool false, .int .i64 0, .str []])), .i 0] fun r9 =>
 k (lL r9.2 0)
def F56 : T56 := P56 F120
def X56 : Exits := fun i => lookN i [] [(3, [(.exit 0, xk 23 [(3, .own 1000000 5 .flat [])] [])])]
abbrev s56 : List (Bool × List CK) := [(false, [.sl 5 true])]
def G56 (F : T56) (β : Type) (e : argsT s56) (k : V → Option β) : Option β := F β e.1.1 (fun y1 => k (.own 0 5 .flat y1))
abbrev W56 (F : T56) : WT := wrap s56 (G56 F)
theorem k56 (F120 : T120) : KO [(120, W120 F120)] X56 56 Tryz.f56 s56 (G56 (P56 F120)) := fun _ _ _ => by kernel_rfl
theorem ok56 : FnOk D 56 (W56 F56) := oW Tryz.func56 (tc ok120 tn) (k56 F120 )
abbrev T57 : Type 1 := T58
def P57 (F50 : T50) : T57 := fun β a k =>
 chk (0 ≤ (a.length : Int) ∧ (a.length : Int) ≤ (a.length : Int) ∧ (a.length : Int) * 32 ≤ 140737488355328 ∧ (a.length : Int) ≤ 140737488355328) <|
 whileK (fun s1 =>
 br (decide ((lI s1 2) < ((lL s1 0).length : Int))) (
 chk (0 ≤ (lI s1 2)) <|
 idx true [.str, .str] (lL s1 0) ((lI s1 2).toNat) fun (e2 : r11_) =>
 F50 _ e2.1 e2.2.1 fun t3 t4 =>
 chk (0 ≤ (lI s1 2) ∧ (lI s1 2).toNat < (lL s1 1).length) <|
 storeO (lL s1 1) ((lI s1 2).toNat) 0 [.str t3, .str t4] fun l5 =>
 some (.inl [.l (lL s1 0), .l l5, .i (IntKind.wrap .i64 ((lI s1 2) + 1))])) (
 some (.inr (0, [.l (lL s1 1)])))) [.l a, .l (List.replicate ((a.length : Int).toNat) (.agg [.str [], .str []])), .i 0] fun r6 =>
 k (lL r6.2 0)
def F57 : T57 := P57 F50
def X57 : Exits := fun i => lookN i [] [(3, [(.exit 0, xk 23 [(3, .own 1000000 2 .flat [])] [])])]
abbrev s57 : List (Bool × List CK) := s181
abbrev G57 := G181
abbrev W57 (F : T57) : WT := wrap s57 (G57 F)
theorem k57 (F50 : T50) : KO [(50, W50 F50)] X57 57 Tryz.f57 s57 (G57 (P57 F50)) := fun _ _ _ => by kernel_rfl
theorem ok57 : FnOk D 57 (W57 F57) := oW Tryz.func57 (tc ok50 tn) (k57 F50 )
abbrev T11 : Type 1 := (β : Type) → LU → LU → Bool → LsV → LsV → LsV → LU → LU → LsV → Bool → LsV → LsV → LsV → LsV → LsV → Int → Int → Int → Int → LsV → LsV → Bool → (LU → LU → Bool → LsV → LsV → LsV → LU → LU → LsV → Bool → LsV → LsV → LsV → LsV → LsV → Int → Int → Int → Int → LsV → LsV → Bool → Option β) → Option β
def P11 (F50 : T50) (F51 : T51) (F52 : T52) (F53 : T53) (F54 : T54) (F55 : T55) (F56 : T56) (F57 : T57) (F58 : T58) : T11 := fun β a b c d f g h i j l m n o p q r s t u v w x k =>
 F50 _ a b fun t1 t2 =>
 F51 _ c d f g h fun b3 l4 l5 l6 t7 =>
 F52 _ i fun t8 =>
 F53 _ j fun l9 =>
 F54 _ m n fun l10 l11 =>
 F55 _ o fun l12 =>
 F56 _ p fun l13 =>
 F57 _ q fun l14 =>
 F57 _ v fun l15 =>
 F58 _ w fun l16 =>
 k t1 t2 b3 l4 l5 l6 t7 t8 l9 l l10 l11 l12 l13 l14 r s t u l15 l16 x
def F11 : T11 := P11 F50 F51 F52 F53 F54 F55 F56 F57 F58
abbrev s11 : List (Bool × List CK) := [(true, q2)]
def G11 (F : T11) (β : Type) (e : argsT s11) (k : V → Option β) : Option β := let a:=e.1;let b:=a.2;let c:=b.2;let d:=c.2;let f:=d.2;let g:=f.2;let h:=g.2;let i:=h.2;let j:=i.2;let l:=j.2;let m:=l.2;let n:=m.2;let o:=n.2;let p:=o.2;let q:=p.2;let r:=q.2;let s:=r.2;let t:=s.2;let u:=t.2;let v:=u.2;let w:=v.2;let x:=w.2;F β a.1 b.1 c.1 d.1 f.1 g.1 h.1 i.1 j.1 l.1 m.1 n.1 o.1 p.1 q.1 r.1 s.1 t.1 u.1 v.1 w.1 x.1 (fun y1 y2 y3 y4 y5 y6 y7 y8 y9 y10 y11 y12 y13 y14 y15 y16 y17 y18 y19 y20 y21 y22 => k (.agg [.str y1, .str y2, .bool y3, .own 3 1 .flat y4, .own 4 1 .flat y5, .own 5 1 .flat y6, .str y7, .str y8, .own 8 4 .clean y9, .bool y10, .own 10 4 .clean y11, .own 11 1 .flat y12, .own 12 8 .flat y13, .own 13 5 .flat y14, .own 14 2 .flat y15, .int .i64 y16, .int .i64 y17, .int .i64 y18, .int .i64 y19, .own 19 2 .flat y20, .own 20 1 .flat y21, .bool y22]))
abbrev W11 (F : T11) : WT := wrap s11 (G11 F)
theorem k11 (F50 : T50) (F51 : T51) (F52 : T52) (F53 : T53) (F54 : T54) (F55 : T55) (F56 : T56) (F57 : T57) (F58 : T58) : KO [(50, W50 F50), (51, W51 F51), (52, W52 F52), (53, W53 F53), (54, W54 F54), (55, W55 F55), (56, W56 F56), (57, W57 F57), (58, W58 F58)] noX 11 Tryz.f11 s11 (G11 (P11 F50 F51 F52 F53 F54 F55 F56 F57 F58)) := fun _ _ _ => by kernel_rfl
theorem ok11 : FnOk D 11 (W11 F11) := oW Tryz.func11 (tc ok50 (tc ok51 (tc ok52 (tc ok53 (tc ok54 (tc ok55 (tc ok56 (tc ok57 (tc ok58 tn))))))))) (k11 F50 F51 F52 F53 F54 F55 F56 F57 F58 )
abbrev T115 : Type 1 := (β : Type) → LU → LU → LU → LU → Bool → LsV → LsV → LsV → LU → LU → LsV → Bool → LsV → LsV → LsV → LsV → LsV → Int → Int → Int → Int → LsV → LsV → Bool → Bool → (LU → LU → LU → LU → Bool → LsV → LsV → LsV → LU → LU → LsV → Bool → LsV → LsV → LsV → LsV → LsV → Int → Int → Int → Int → LsV → LsV → Bool → Bool → Option β) → Option β
def P115 (F50 : T50) (F11 : T11) : T115 := fun β a b c d f g h i j l m n o p q r s t u v w x y z a1 k =>
 F50 _ a b fun t1 t2 =>
 F11 _ c d f g h i j l m n o p q r s t u v w x y z fun t3 t4 b5 l6 l7 l8 t9 t10 l11 b12 l13 l14 l15 l16 l17 n18 n19 n20 n21 l22 l23 b24 =>
 k t1 t2 t3 t4 b5 l6 l7 l8 t9 t10 l11 b12 l13 l14 l15 l16 l17 n18 n19 n20 n21 l22 l23 b24 a1
def F115 : T115 := P115 F50 F11
abbrev s115 : List (Bool × List CK) := [(true, q0)]
def G115 (F : T115) (β : Type) (e : argsT s115) (k : V → Option β) : Option β := let a:=e.1;let b:=a.2;let c:=b.2;let d:=c.2;let f:=d.2;let g:=f.2;let h:=g.2;let i:=h.2;let j:=i.2;let l:=j.2;let m:=l.2;let n:=m.2;let o:=n.2;let p:=o.2;let q:=p.2;let r:=q.2;let s:=r.2;let t:=s.2;let u:=t.2;let v:=u.2;let w:=v.2;let x:=w.2;let y:=x.2;let z:=y.2;let a1:=z.2;F β a.1 b.1 c.1 d.1 f.1 g.1 h.1 i.1 j.1 l.1 m.1 n.1 o.1 p.1 q.1 r.1 s.1 t.1 u.1 v.1 w.1 x.1 y.1 z.1 a1.1 (fun y1 y2 y3 y4 y5 y6 y7 y8 y9 y10 y11 y12 y13 y14 y15 y16 y17 y18 y19 y20 y21 y22 y23 y24 y25 => k (.agg [.str y1, .str y2, .str y3, .str y4, .bool y5, .own 5 1 .flat y6, .own 6 1 .flat y7, .own 7 1 .flat y8, .str y9, .str y10, .own 10 4 .clean y11, .bool y12, .own 12 4 .clean y13, .own 13 1 .flat y14, .own 14 8 .flat y15, .own 15 5 .flat y16, .own 16 2 .flat y17, .int .i64 y18, .int .i64 y19, .int .i64 y20, .int .i64 y21, .own 21 2 .flat y22, .own 22 1 .flat y23, .bool y24, .bool y25]))
abbrev W115 (F : T115) : WT := wrap s115 (G115 F)
theorem k115 (F50 : T50) (F11 : T11) : KO [(50, W50 F50), (11, W11 F11)] noX 115 Tryz.f115 s115 (G115 (P115 F50 F11)) := fun _ _ _ => by kernel_rfl
theorem ok115 : FnOk D 115 (W115 F115) := oW Tryz.func115 (tc ok50 (tc ok11 tn)) (k115 F50 F11 )
abbrev T49 : Type 1 := T58
def P49 (F115 : T115) : T49 := fun β a k =>
 chk (0 ≤ (a.length : Int) ∧ (a.length : Int) ≤ (a.length : Int) ∧ (a.length : Int) * 424 ≤ 140737488355328 ∧ (a.length : Int) ≤ 140737488355328) <|
 whileK (fun s1 =>
 br (decide ((lI s1 2) < ((lL s1 0).length : Int))) (
 chk (0 ≤ (lI s1 2)) <|
 idx true q0 (lL s1 0) ((lI s1 2).toNat) fun (e2 : r10_) =>
 F115 _ e2.1 e2.2.1 e2.2.2.1 e2.2.2.2.1 e2.2.2.2.2.1 e2.2.2.2.2.2.1 e2.2.2.2.2.2.2.1 e2.2.2.2.2.2.2.2.1 e2.2.2.2.2.2.2.2.2.1 e2.2.2.2.2.2.2.2.2.2.1 e2.2.2.2.2.2.2.2.2.2.2.1 e2.2.2.2.2.2.2.2.2.2.2.2.1 e2.2.2.2.2.2.2.2.2.2.2.2.2.1 e2.2.2.2.2.2.2.2.2.2.2.2.2.2.1 e2.2.2.2.2.2.2.2.2.2.2.2.2.2.2.1 e2.2.2.2.2.2.2.2.2.2.2.2.2.2.2.2.1 e2.2.2.2.2.2.2.2.2.2.2.2.2.2.2.2.2.1 e2.2.2.2.2.2.2.2.2.2.2.2.2.2.2.2.2.2.1 e2.2.2.2.2.2.2.2.2.2.2.2.2.2.2.2.2.2.2.1 e2.2.2.2.2.2.2.2.2.2.2.2.2.2.2.2.2.2.2.2.1 e2.2.2.2.2.2.2.2.2.2.2.2.2.2.2.2.2.2.2.2.2.1 e2.2.2.2.2.2.2.2.2.2.2.2.2.2.2.2.2.2.2.2.2.2.1 e2.2.2.2.2.2.2.2.2.2.2.2.2.2.2.2.2.2.2.2.2.2.2.1 e2.2.2.2.2.2.2.2.2.2.2.2.2.2.2.2.2.2.2.2.2.2.2.2.1 e2.2.2.2.2.2.2.2.2.2.2.2.2.2.2.2.2.2.2.2.2.2.2.2.2.1 fun t3 t4 t5 t6 b7 l8 l9 l10 t11 t12 l13 b14 l15 l16 l17 l18 l19 n20 n21 n22 n23 l24 l25 b26 b27 =>
 chk (0 ≤ (lI s1 2) ∧ (lI s1 2).toNat < (lL s1 1).length) <|
 storeO (lL s1 1) ((lI s1 2).toNat) 0 [.str t3, .str t4, .str t5, .str t6, .bool b7, .sl 1 true l8, .sl 1 true l9, .sl 1 true l10, .str t11, .str t12, .sl 4 false l13, .bool b14, .sl 4 false l15, .sl 1 true l16, .sl 8 true l17, .sl 5 true l18, .sl 2 true l19, .int .i64 n20, .int .i64 n21, .int .i64 n22, .int .i64 n23, .sl 2 true l24, .sl 1 true l25, .bool b26, .bool b27] fun l28 =>
 some (.inl [.l (lL s1 0), .l l28, .i (IntKind.wrap .i64 ((lI s1 2) + 1))])) (
 some (.inr (0, [.l (lL s1 1)])))) [.l a, .l (List.replicate ((a.length : Int).toNat) (.agg [.str [], .str [], .str [], .str [], .bool false, .sl 1 true [], .sl 1 true [], .sl 1 true [], .str [], .str [], .sl 4 false [], .bool false, .sl 4 false [], .sl 1 true [], .sl 8 true [], .sl 5 true [], .sl 2 true [], .int .i64 0, .int .i64 0, .int .i64 0, .int .i64 0, .sl 2 true [], .sl 1 true [], .bool false, .bool false])), .i 0] fun r29 =>
 k (lL r29.2 0)
def F49 : T49 := P49 F115
def X49 : Exits := fun i => lookN i [] [(3, [(.exit 0, xk 23 [(3, .own 1000000 25 .clean [])] [])])]
abbrev s49 : List (Bool × List CK) := [(false, [.sl 25 false])]
def G49 (F : T49) (β : Type) (e : argsT s49) (k : V → Option β) : Option β := F β e.1.1 (fun y1 => k (.own 0 25 .clean y1))
abbrev W49 (F : T49) : WT := wrap s49 (G49 F)
theorem k49 (F115 : T115) : KO [(115, W115 F115)] X49 49 Tryz.f49 s49 (G49 (P49 F115)) := fun _ _ _ => by kernel_rfl
theorem ok49 : FnOk D 49 (W49 F49) := oW Tryz.func49 (tc ok115 tn) (k49 F115 )
abbrev T10 : Type 1 := (β : Type) → LsV → Int → (LsV → Int → Option β) → Option β
def P10 (F49 : T49) : T10 := fun β a b k =>
 F49 _ a fun l1 =>
 k l1 b
def F10 : T10 := P10 F49
abbrev s10 : List (Bool × List CK) := [(true, q10)]
def G10 (F : T10) (β : Type) (e : argsT s10) (k : V → Option β) : Option β := F β e.1.1 e.1.2.1 (fun y1 y2 => k (.agg [.own 0 25 .clean y1, .int .i64 y2]))
abbrev W10 (F : T10) : WT := wrap s10 (G10 F)
theorem k10 (F49 : T49) : KO [(49, W49 F49)] noX 10 Tryz.f10 s10 (G10 (P10 F49)) := fun _ _ _ => by kernel_rfl
theorem ok10 : FnOk D 10 (W10 F10) := oW Tryz.func10 (tc ok49 tn) (k10 F49 )
abbrev T63 : Type 1 := (β : Type) → LU → LU → LU → LU → (Bool → Option β) → Option β
def P63 : T63 := fun β a b c d k =>
 br (!(a == c)) (
 k false) (
 br (!(b == d)) (
 k false) (
 k true))
def F63 : T63 := P63
abbrev s63 : List (Bool × List CK) := [(true, [.str, .str]), (true, [.str, .str])]
def G63 (F : T63) (β : Type) (e : argsT s63) (k : V → Option β) : Option β := F β e.1.1 e.1.2.1 e.2.1.1 e.2.1.2.1 (fun y1 => k (.bool y1))
abbrev W63 (F : T63) : WT := wrap s63 (G63 F)
theorem k63 : KO [] noX 63 Tryz.f63 s63 (G63 (P63)) := fun _ _ _ => by kernel_rfl
theorem ok63 : FnOk D 63 (W63 F63) := oW Tryz.func63 (tn) (k63 )
abbrev T70 : Type 1 := (β : Type) → LsV → LsV → (Bool → Option β) → Option β
def P70 : T70 := fun β a b k =>
 br ((a.length : Int) != (b.length : Int)) (
 k false) (
 whileK (fun s1 =>
 br (decide ((lI s1 2) < ((lL s1 0).length : Int))) (
 chk (0 ≤ (lI s1 2)) <|
 idx false [.str] (lL s1 0) ((lI s1 2).toNat) fun (e2 : r13_) =>
 chk (0 ≤ (lI s1 2)) <|
 idx false [.str] (lL s1 1) ((lI s1 2).toNat) fun (e3 : r13_) =>
 br (!(e2.1 == e3.1)) (
 some (.inr (0, [.b false]))) (
 some (.inl [.l (lL s1 0), .l (lL s1 1), .i (IntKind.wrap .i64 ((lI s1 2) + 1))]))) (
 some (.inr (1, [])))) [.l a, .l b, .i 0] fun r4 =>
 if r4.1 = 0 then
 k (lB r4.2 0)
 else
 k true)
def F70 : T70 := P70
def X70 : Exits := fun i => lookN i [] [(4, [(.ret, xk 26 [(4, .bool false)] []), (.exit 0, xk 26 [] [])])]
abbrev s70 : List (Bool × List CK) := [(false, [.sl 1 true]), (false, [.sl 1 true])]
def G70 (F : T70) (β : Type) (e : argsT s70) (k : V → Option β) : Option β := F β e.1.1 e.2.1.1 (fun y1 => k (.bool y1))
abbrev W70 (F : T70) : WT := wrap s70 (G70 F)
theorem k70 : KO [] X70 70 Tryz.f70 s70 (G70 (P70)) := fun _ _ _ => by kernel_rfl
theorem ok70 : FnOk D 70 (W70 F70) := oW Tryz.func70 (tn) (k70 )
abbrev T64 : Type 1 := (β : Type) → Bool → LsV → LsV → LsV → LU → Bool → LsV → LsV → LsV → LU → (Bool → Option β) → Option β
def P64 (F70 : T70) : T64 := fun β a b c d f g h i j l k =>
 br (!(a == g)) (
 k false) (
 F70 _ b h fun b1 =>
 br (!b1) (
 k false) (
 F70 _ c i fun b2 =>
 br (!b2) (
 k false) (
 F70 _ d j fun b3 =>
 br (!b3) (
 k false) (
 br (!(f == l)) (
 k false) (
 k true)))))
def F64 : T64 := P64 F70
abbrev s64 : List (Bool × List CK) := [(true, q11), (true, q11)]
def G64 (F : T64) (β : Type) (e : argsT s64) (k : V → Option β) : Option β := let a:=e.1;let b:=a.2;let c:=b.2;let d:=c.2;let f:=d.2;let g:=e.2.1;let h:=g.2;let i:=h.2;let j:=i.2;let l:=j.2;F β a.1 b.1 c.1 d.1 f.1 g.1 h.1 i.1 j.1 l.1 (fun y1 => k (.bool y1))
abbrev W64 (F : T64) : WT := wrap s64 (G64 F)
theorem k64 (F70 : T70) : KO [(70, W70 F70)] noX 64 Tryz.f64 s64 (G64 (P64 F70)) := fun _ _ _ => by kernel_rfl
theorem ok64 : FnOk D 64 (W64 F64) := oW Tryz.func64 (tc ok70 tn) (k64 F70 )
abbrev T65 : Type 1 := (β : Type) → LU → LU → (Bool → Option β) → Option β
def P65 : T65 := fun β a b k =>
 br (!(a == b)) (
 k false) (
 k true)
def F65 : T65 := P65
abbrev s65 : List (Bool × List CK) := [(true, [.str]), (true, [.str])]
def G65 (F : T65) (β : Type) (e : argsT s65) (k : V → Option β) : Option β := F β e.1.1 e.2.1.1 (fun y1 => k (.bool y1))
abbrev W65 (F : T65) : WT := wrap s65 (G65 F)
theorem k65 : KO [] noX 65 Tryz.f65 s65 (G65 (P65)) := fun _ _ _ => by kernel_rfl
theorem ok65 : FnOk D 65 (W65 F65) := oW Tryz.func65 (tn) (k65 )
abbrev T215 : Type 1 := T63
def P215 : T215 := fun β a b c d k =>
 br (!(a == c)) (
 k false) (
 br (!(b == d)) (
 k false) (
 k true))
def F215 : T215 := P215
abbrev s215 : List (Bool × List CK) := s63
abbrev G215 := G63
abbrev W215 (F : T215) : WT := wrap s215 (G215 F)
theorem k215 : KO [] noX 215 Tryz.f215 s215 (G215 (P215)) := fun _ _ _ => by kernel_rfl
theorem ok215 : FnOk D 215 (W215 F215) := oW Tryz.func215 (tn) (k215 )
abbrev T184 : Type 1 := T70
def P184 (F215 : T215) : T184 := fun β a b k =>
 br ((a.length : Int) != (b.length : Int)) (
 k false) (
 whileK (fun s1 =>
 br (decide ((lI s1 2) < ((lL s1 0).length : Int))) (
 chk (0 ≤ (lI s1 2)) <|
 idx true [.str, .str] (lL s1 0) ((lI s1 2).toNat) fun (e2 : r11_) =>
 chk (0 ≤ (lI s1 2)) <|
 idx true [.str, .str] (lL s1 1) ((lI s1 2).toNat) fun (e3 : r11_) =>
 F215 _ e2.1 e2.2.1 e3.1 e3.2.1 fun b4 =>
 br (!b4) (
 some (.inr (0, [.b false]))) (
 some (.inl [.l (lL s1 0), .l (lL s1 1), .i (IntKind.wrap .i64 ((lI s1 2) + 1))]))) (
 some (.inr (1, [])))) [.l a, .l b, .i 0] fun r5 =>
 if r5.1 = 0 then
 k (lB r5.2 0)
 else
 k true)
def F184 : T184 := P184 F215
def X184 : Exits := fun i => lookN i [] [(4, [(.ret, xk 27 [(4, .bool false)] []), (.exit 0, xk 27 [] [])])]
abbrev s184 : List (Bool × List CK) := [(false, [.sl 2 true]), (false, [.sl 2 true])]
def G184 (F : T184) (β : Type) (e : argsT s184) (k : V → Option β) : Option β := F β e.1.1 e.2.1.1 (fun y1 => k (.bool y1))
abbrev W184 (F : T184) : WT := wrap s184 (G184 F)
theorem k184 (F215 : T215) : KO [(215, W215 F215)] X184 184 Tryz.f184 s184 (G184 (P184 F215)) := fun _ _ _ => by kernel_rfl
theorem ok184 : FnOk D 184 (W184 F184) := oW Tryz.func184 (tc ok215 tn) (k184 F215 )
abbrev T125 : Type 1 := (β : Type) → Int → LU → LsV → LU → Int → LU → LsV → LU → (Bool → Option β) → Option β
def P125 (F184 : T184) : T125 := fun β a b c d f g h i k =>
 br (a != f) (
 k false) (
 br (!(b == g)) (
 k false) (
 F184 _ c h fun b1 =>
 br (!b1) (
 k false) (
 br (!(d == i)) (
 k false) (
 k true))))
def F125 : T125 := P125 F184
abbrev s125 : List (Bool × List CK) := [(true, q8), (true, q8)]
def G125 (F : T125) (β : Type) (e : argsT s125) (k : V → Option β) : Option β := F β e.1.1 e.1.2.1 e.1.2.2.1 e.1.2.2.2.1 e.2.1.1 e.2.1.2.1 e.2.1.2.2.1 e.2.1.2.2.2.1 (fun y1 => k (.bool y1))
abbrev W125 (F : T125) : WT := wrap s125 (G125 F)
theorem k125 (F184 : T184) : KO [(184, W184 F184)] noX 125 Tryz.f125 s125 (G125 (P125 F184)) := fun _ _ _ => by kernel_rfl
theorem ok125 : FnOk D 125 (W125 F125) := oW Tryz.func125 (tc ok184 tn) (k125 F184 )
abbrev T66 : Type 1 := T70
def P66 (F125 : T125) : T66 := fun β a b k =>
 br ((a.length : Int) != (b.length : Int)) (
 k false) (
 whileK (fun s1 =>
 br (decide ((lI s1 2) < ((lL s1 0).length : Int))) (
 chk (0 ≤ (lI s1 2)) <|
 idx true q8 (lL s1 0) ((lI s1 2).toNat) fun (e2 : r2_) =>
 chk (0 ≤ (lI s1 2)) <|
 idx true q8 (lL s1 1) ((lI s1 2).toNat) fun (e3 : r2_) =>
 F125 _ e2.1 e2.2.1 e2.2.2.1 e2.2.2.2.1 e3.1 e3.2.1 e3.2.2.1 e3.2.2.2.1 fun b4 =>
 br (!b4) (
 some (.inr (0, [.b false]))) (
 some (.inl [.l (lL s1 0), .l (lL s1 1), .i (IntKind.wrap .i64 ((lI s1 2) + 1))]))) (
 some (.inr (1, [])))) [.l a, .l b, .i 0] fun r5 =>
 if r5.1 = 0 then
 k (lB r5.2 0)
 else
 k true)
def F66 : T66 := P66 F125
def X66 : Exits := fun i => lookN i [] [(4, [(.ret, xk 27 [(4, .bool false)] []), (.exit 0, xk 27 [] [])])]
abbrev s66 : List (Bool × List CK) := [(false, [.sl 4 false]), (false, [.sl 4 false])]
def G66 (F : T66) (β : Type) (e : argsT s66) (k : V → Option β) : Option β := F β e.1.1 e.2.1.1 (fun y1 => k (.bool y1))
abbrev W66 (F : T66) : WT := wrap s66 (G66 F)
theorem k66 (F125 : T125) : KO [(125, W125 F125)] X66 66 Tryz.f66 s66 (G66 (P66 F125)) := fun _ _ _ => by kernel_rfl
theorem ok66 : FnOk D 66 (W66 F66) := oW Tryz.func66 (tc ok125 tn) (k66 F125 )
abbrev T185 : Type 1 := (β : Type) → LU → LU → Int → LsV → LU → LU → Int → LsV → (Bool → Option β) → Option β
def P185 (F184 : T184) : T185 := fun β a b c d f g h i k =>
 br (!(a == f)) (
 k false) (
 br (!(b == g)) (
 k false) (
 br (c != h) (
 k false) (
 F184 _ d i fun b1 =>
 br (!b1) (
 k false) (
 k true))))
def F185 : T185 := P185 F184
abbrev s185 : List (Bool × List CK) := [(true, q9), (true, q9)]
def G185 (F : T185) (β : Type) (e : argsT s185) (k : V → Option β) : Option β := F β e.1.1 e.1.2.1 e.1.2.2.1 e.1.2.2.2.1 e.2.1.1 e.2.1.2.1 e.2.1.2.2.1 e.2.1.2.2.2.1 (fun y1 => k (.bool y1))
abbrev W185 (F : T185) : WT := wrap s185 (G185 F)
theorem k185 (F184 : T184) : KO [(184, W184 F184)] noX 185 Tryz.f185 s185 (G185 (P185 F184)) := fun _ _ _ => by kernel_rfl
theorem ok185 : FnOk D 185 (W185 F185) := oW Tryz.func185 (tc ok184 tn) (k185 F184 )
abbrev T126 : Type 1 := T70
def P126 (F185 : T185) : T126 := fun β a b k =>
 br ((a.length : Int) != (b.length : Int)) (
 k false) (
 whileK (fun s1 =>
 br (decide ((lI s1 2) < ((lL s1 0).length : Int))) (
 chk (0 ≤ (lI s1 2)) <|
 idx true q9 (lL s1 0) ((lI s1 2).toNat) fun (e2 : r7_) =>
 chk (0 ≤ (lI s1 2)) <|
 idx true q9 (lL s1 1) ((lI s1 2).toNat) fun (e3 : r7_) =>
 F185 _ e2.1 e2.2.1 e2.2.2.1 e2.2.2.2.1 e3.1 e3.2.1 e3.2.2.1 e3.2.2.2.1 fun b4 =>
 br (!b4) (
 some (.inr (0, [.b false]))) (
 some (.inl [.l (lL s1 0), .l (lL s1 1), .i (IntKind.wrap .i64 ((lI s1 2) + 1))]))) (
 some (.inr (1, [])))) [.l a, .l b, .i 0] fun r5 =>
 if r5.1 = 0 then
 k (lB r5.2 0)
 else
 k true)
def F126 : T126 := P126 F185
def X126 : Exits := fun i => lookN i [] [(4, [(.ret, xk 27 [(4, .bool false)] []), (.exit 0, xk 27 [] [])])]
abbrev s126 : List (Bool × List CK) := s66
abbrev G126 := G66
abbrev W126 (F : T126) : WT := wrap s126 (G126 F)
theorem k126 (F185 : T185) : KO [(185, W185 F185)] X126 126 Tryz.f126 s126 (G126 (P126 F185)) := fun _ _ _ => by kernel_rfl
theorem ok126 : FnOk D 126 (W126 F126) := oW Tryz.func126 (tc ok185 tn) (k126 F185 )
abbrev T127 : Type 1 := T70
def P127 : T127 := fun β a b k =>
 br ((a.length : Int) != (b.length : Int)) (
 k false) (
 whileK (fun s1 =>
 br (decide ((lI s1 2) < ((lL s1 0).length : Int))) (
 chk (0 ≤ (lI s1 2)) <|
 idx false [.int .i64] (lL s1 0) ((lI s1 2).toNat) fun (e2 : Int × Unit) =>
 chk (0 ≤ (lI s1 2)) <|
 idx false [.int .i64] (lL s1 1) ((lI s1 2).toNat) fun (e3 : Int × Unit) =>
 br (e2.1 != e3.1) (
 some (.inr (0, [.b false]))) (
 some (.inl [.l (lL s1 0), .l (lL s1 1), .i (IntKind.wrap .i64 ((lI s1 2) + 1))]))) (
 some (.inr (1, [])))) [.l a, .l b, .i 0] fun r4 =>
 if r4.1 = 0 then
 k (lB r4.2 0)
 else
 k true)
def F127 : T127 := P127
def X127 : Exits := fun i => lookN i [] [(4, [(.ret, xk 26 [(4, .bool false)] []), (.exit 0, xk 26 [] [])])]
abbrev s127 : List (Bool × List CK) := s70
abbrev G127 := G70
abbrev W127 (F : T127) : WT := wrap s127 (G127 F)
theorem k127 : KO [] X127 127 Tryz.f127 s127 (G127 (P127)) := fun _ _ _ => by kernel_rfl
theorem ok127 : FnOk D 127 (W127 F127) := oW Tryz.func127 (tn) (k127 )
abbrev T67 : Type 1 := (β : Type) → LsV → LsV → LsV → LsV → (Bool → Option β) → Option β
def P67 (F126 : T126) (F127 : T127) : T67 := fun β a b c d k =>
 F126 _ a c fun b1 =>
 br (!b1) (
 k false) (
 F127 _ b d fun b2 =>
 br (!b2) (
 k false) (
 k true))
def F67 : T67 := P67 F126 F127
abbrev s67 : List (Bool × List CK) := [(true, q16), (true, q16)]
def G67 (F : T67) (β : Type) (e : argsT s67) (k : V → Option β) : Option β := F β e.1.1 e.1.2.1 e.2.1.1 e.2.1.2.1 (fun y1 => k (.bool y1))
abbrev W67 (F : T67) : WT := wrap s67 (G67 F)
theorem k67 (F126 : T126) (F127 : T127) : KO [(126, W126 F126), (127, W127 F127)] noX 67 Tryz.f67 s67 (G67 (P67 F126 F127)) := fun _ _ _ => by kernel_rfl
theorem ok67 : FnOk D 67 (W67 F67) := oW Tryz.func67 (tc ok126 (tc ok127 tn)) (k67 F126 F127 )
abbrev T128 : Type 1 := (β : Type) → Int → LU → LU → LU → Int → Bool → Int → LU → Int → LU → LU → LU → Int → Bool → Int → LU → (Bool → Option β) → Option β
def P128 (F63 : T63) : T128 := fun β a b c d f g h i j l m n o p q r k =>
 br (a != j) (
 k false) (
 F63 _ b c l m fun b1 =>
 br (!b1) (
 k false) (
 br (!(d == n)) (
 k false) (
 br (f != o) (
 k false) (
 br (!(g == p)) (
 k false) (
 br (h != q) (
 k false) (
 br (!(i == r)) (
 k false) (
 k true)))))))
def F128 : T128 := P128 F63
abbrev s128 : List (Bool × List CK) := [(true, q5), (true, q5)]
def G128 (F : T128) (β : Type) (e : argsT s128) (k : V → Option β) : Option β := let a:=e.1;let b:=a.2;let c:=b.2;let d:=c.2;let f:=d.2;let g:=f.2;let h:=g.2;let i:=h.2;let j:=e.2.1;let l:=j.2;let m:=l.2;let n:=m.2;let o:=n.2;let p:=o.2;let q:=p.2;let r:=q.2;F β a.1 b.1 c.1 d.1 f.1 g.1 h.1 i.1 j.1 l.1 m.1 n.1 o.1 p.1 q.1 r.1 (fun y1 => k (.bool y1))
abbrev W128 (F : T128) : WT := wrap s128 (G128 F)
theorem k128 (F63 : T63) : KO [(63, W63 F63)] noX 128 Tryz.f128 s128 (G128 (P128 F63)) := fun _ _ _ => by kernel_rfl
theorem ok128 : FnOk D 128 (W128 F128) := oW Tryz.func128 (tc ok63 tn) (k128 F63 )
abbrev T68 : Type 1 := T70
def P68 (F128 : T128) : T68 := fun β a b k =>
 br ((a.length : Int) != (b.length : Int)) (
 k false) (
 whileK (fun s1 =>
 br (decide ((lI s1 2) < ((lL s1 0).length : Int))) (
 chk (0 ≤ (lI s1 2)) <|
 idx true q5 (lL s1 0) ((lI s1 2).toNat) fun (e2 : r1_) =>
 chk (0 ≤ (lI s1 2)) <|
 idx true q5 (lL s1 1) ((lI s1 2).toNat) fun (e3 : r1_) =>
 F128 _ e2.1 e2.2.1 e2.2.2.1 e2.2.2.2.1 e2.2.2.2.2.1 e2.2.2.2.2.2.1 e2.2.2.2.2.2.2.1 e2.2.2.2.2.2.2.2.1 e3.1 e3.2.1 e3.2.2.1 e3.2.2.2.1 e3.2.2.2.2.1 e3.2.2.2.2.2.1 e3.2.2.2.2.2.2.1 e3.2.2.2.2.2.2.2.1 fun b4 =>
 br (!b4) (
 some (.inr (0, [.b false]))) (
 some (.inl [.l (lL s1 0), .l (lL s1 1), .i (IntKind.wrap .i64 ((lI s1 2) + 1))]))) (
 some (.inr (1, [])))) [.l a, .l b, .i 0] fun r5 =>
 if r5.1 = 0 then
 k (lB r5.2 0)
 else
 k true)
def F68 : T68 := P68 F128
def X68 : Exits := fun i => lookN i [] [(4, [(.ret, xk 27 [(4, .bool false)] []), (.exit 0, xk 27 [] [])])]
abbrev s68 : List (Bool × List CK) := [(false, [.sl 8 true]), (false, [.sl 8 true])]
def G68 (F : T68) (β : Type) (e : argsT s68) (k : V → Option β) : Option β := F β e.1.1 e.2.1.1 (fun y1 => k (.bool y1))
abbrev W68 (F : T68) : WT := wrap s68 (G68 F)
theorem k68 (F128 : T128) : KO [(128, W128 F128)] X68 68 Tryz.f68 s68 (G68 (P68 F128)) := fun _ _ _ => by kernel_rfl
theorem ok68 : FnOk D 68 (W68 F68) := oW Tryz.func68 (tc ok128 tn) (k68 F128 )
abbrev T129 : Type 1 := (β : Type) → LU → LU → Bool → Int → LU → LU → LU → Bool → Int → LU → (Bool → Option β) → Option β
def P129 (F63 : T63) : T129 := fun β a b c d f g h i j l k =>
 F63 _ a b g h fun b1 =>
 br (!b1) (
 k false) (
 br (!(c == i)) (
 k false) (
 br (d != j) (
 k false) (
 br (!(f == l)) (
 k false) (
 k true))))
def F129 : T129 := P129 F63
abbrev s129 : List (Bool × List CK) := [(true, q13), (true, q13)]
def G129 (F : T129) (β : Type) (e : argsT s129) (k : V → Option β) : Option β := let a:=e.1;let b:=a.2;let c:=b.2;let d:=c.2;let f:=d.2;let g:=e.2.1;let h:=g.2;let i:=h.2;let j:=i.2;let l:=j.2;F β a.1 b.1 c.1 d.1 f.1 g.1 h.1 i.1 j.1 l.1 (fun y1 => k (.bool y1))
abbrev W129 (F : T129) : WT := wrap s129 (G129 F)
theorem k129 (F63 : T63) : KO [(63, W63 F63)] noX 129 Tryz.f129 s129 (G129 (P129 F63)) := fun _ _ _ => by kernel_rfl
theorem ok129 : FnOk D 129 (W129 F129) := oW Tryz.func129 (tc ok63 tn) (k129 F63 )
abbrev T69 : Type 1 := T70
def P69 (F129 : T129) : T69 := fun β a b k =>
 br ((a.length : Int) != (b.length : Int)) (
 k false) (
 whileK (fun s1 =>
 br (decide ((lI s1 2) < ((lL s1 0).length : Int))) (
 chk (0 ≤ (lI s1 2)) <|
 idx true q13 (lL s1 0) ((lI s1 2).toNat) fun (e2 : r5_) =>
 chk (0 ≤ (lI s1 2)) <|
 idx true q13 (lL s1 1) ((lI s1 2).toNat) fun (e3 : r5_) =>
 F129 _ e2.1 e2.2.1 e2.2.2.1 e2.2.2.2.1 e2.2.2.2.2.1 e3.1 e3.2.1 e3.2.2.1 e3.2.2.2.1 e3.2.2.2.2.1 fun b4 =>
 br (!b4) (
 some (.inr (0, [.b false]))) (
 some (.inl [.l (lL s1 0), .l (lL s1 1), .i (IntKind.wrap .i64 ((lI s1 2) + 1))]))) (
 some (.inr (1, [])))) [.l a, .l b, .i 0] fun r5 =>
 if r5.1 = 0 then
 k (lB r5.2 0)
 else
 k true)
def F69 : T69 := P69 F129
def X69 : Exits := fun i => lookN i [] [(4, [(.ret, xk 27 [(4, .bool false)] []), (.exit 0, xk 27 [] [])])]
abbrev s69 : List (Bool × List CK) := [(false, [.sl 5 true]), (false, [.sl 5 true])]
def G69 (F : T69) (β : Type) (e : argsT s69) (k : V → Option β) : Option β := F β e.1.1 e.2.1.1 (fun y1 => k (.bool y1))
abbrev W69 (F : T69) : WT := wrap s69 (G69 F)
theorem k69 (F129 : T129) : KO [(129, W129 F129)] X69 69 Tryz.f69 s69 (G69 (P69 F129)) := fun _ _ _ => by kernel_rfl
theorem ok69 : FnOk D 69 (W69 F69) := oW Tryz.func69 (tc ok129 tn) (k69 F129 )
abbrev T24 : Type 1 := T70
def P24 (F63 : T63) : T24 := fun β a b k =>
 br ((a.length : Int) != (b.length : Int)) (
 k false) (
 whileK (fun s1 =>
 br (decide ((lI s1 2) < ((lL s1 0).length : Int))) (
 chk (0 ≤ (lI s1 2)) <|
 idx true [.str, .str] (lL s1 0) ((lI s1 2).toNat) fun (e2 : r11_) =>
 chk (0 ≤ (lI s1 2)) <|
 idx true [.str, .str] (lL s1 1) ((lI s1 2).toNat) fun (e3 : r11_) =>
 F63 _ e2.1 e2.2.1 e3.1 e3.2.1 fun b4 =>
 br (!b4) (
 some (.inr (0, [.b false]))) (
 some (.inl [.l (lL s1 0), .l (lL s1 1), .i (IntKind.wrap .i64 ((lI s1 2) + 1))]))) (
 some (.inr (1, [])))) [.l a, .l b, .i 0] fun r5 =>
 if r5.1 = 0 then
 k (lB r5.2 0)
 else
 k true)
def F24 : T24 := P24 F63
def X24 : Exits := fun i => lookN i [] [(4, [(.ret, xk 27 [(4, .bool false)] []), (.exit 0, xk 27 [] [])])]
abbrev s24 : List (Bool × List CK) := s184
abbrev G24 := G184
abbrev W24 (F : T24) : WT := wrap s24 (G24 F)
theorem k24 (F63 : T63) : KO [(63, W63 F63)] X24 24 Tryz.f24 s24 (G24 (P24 F63)) := fun _ _ _ => by kernel_rfl
theorem ok24 : FnOk D 24 (W24 F24) := oW Tryz.func24 (tc ok63 tn) (k24 F63 )
abbrev T14 : Type 1 := (β : Type) → LU → LU → Bool → LsV → LsV → LsV → LU → LU → LsV → Bool → LsV → LsV → LsV → LsV → LsV → Int → Int → Int → Int → LsV → LsV → Bool → LU → LU → Bool → LsV → LsV → LsV → LU → LU → LsV → Bool → LsV → LsV → LsV → LsV → LsV → Int → Int → Int → Int → LsV → LsV → Bool → (Bool → Option β) → Option β
def P14 (F63 : T63) (F64 : T64) (F65 : T65) (F66 : T66) (F67 : T67) (F68 : T68) (F69 : T69) (F24 : T24) (F70 : T70) : T14 := fun β a b c d f g h i j l m n o p q r s t u v w x y z a1 c1 d1 f1 g1 h1 i1 j1 l1 m1 n1 o1 p1 q1 r1 s1 t1 u1 v1 w1 k =>
 F63 _ a b y z fun b1 =>
 br (!b1) (
 k false) (
 F64 _ c d f g h a1 c1 d1 f1 g1 fun b2 =>
 br (!b2) (
 k false) (
 F65 _ i h1 fun b3 =>
 br (!b3) (
 k false) (
 F66 _ j i1 fun b4 =>
 br (!b4) (
 k false) (
 br (!(l == j1)) (
 k false) (
 F67 _ m n l1 m1 fun b5 =>
 br (!b5) (
 k false) (
 F68 _ o n1 fun b6 =>
 br (!b6) (
 k false) (
 F69 _ p o1 fun b7 =>
 br (!b7) (
 k false) (
 F24 _ q p1 fun b8 =>
 br (!b8) (
 k false) (
 br (r != q1) (
 k false) (
 br (s != r1) (
 k false) (
 br (t != s1) (
 k false) (
 br (u != t1) (
 k false) (
 F24 _ v u1 fun b9 =>
 br (!b9) (
 k false) (
 F70 _ w v1 fun b10 =>
 br (!b10) (
 k false) (
 br (!(x == w1)) (
 k false) (
 k true))))))))))))))))
def F14 : T14 := P14 F63 F64 F65 F66 F67 F68 F69 F24 F70
abbrev s14 : List (Bool × List CK) := [(true, q2), (true, q2)]
def G14 (F : T14) (β : Type) (e : argsT s14) (k : V → Option β) : Option β := let a:=e.1;let b:=a.2;let c:=b.2;let d:=c.2;let f:=d.2;let g:=f.2;let h:=g.2;let i:=h.2;let j:=i.2;let l:=j.2;let m:=l.2;let n:=m.2;let o:=n.2;let p:=o.2;let q:=p.2;let r:=q.2;let s:=r.2;let t:=s.2;let u:=t.2;let v:=u.2;let w:=v.2;let x:=w.2;let y:=e.2.1;let z:=y.2;let a1:=z.2;let b1:=a1.2;let c1:=b1.2;let d1:=c1.2;let f1:=d1.2;let g1:=f1.2;let h1:=g1.2;let i1:=h1.2;let j1:=i1.2;let l1:=j1.2;let m1:=l1.2;let n1:=m1.2;let o1:=n1.2;let p1:=o1.2;let q1:=p1.2;let r1:=q1.2;let s1:=r1.2;let t1:=s1.2;let u1:=t1.2;let v1:=u1.2;F β a.1 b.1 c.1 d.1 f.1 g.1 h.1 i.1 j.1 l.1 m.1 n.1 o.1 p.1 q.1 r.1 s.1 t.1 u.1 v.1 w.1 x.1 y.1 z.1 a1.1 b1.1 c1.1 d1.1 f1.1 g1.1 h1.1 i1.1 j1.1 l1.1 m1.1 n1.1 o1.1 p1.1 q1.1 r1.1 s1.1 t1.1 u1.1 v1.1 (fun y1 => k (.bool y1))
abbrev W14 (F : T14) : WT := wrap s14 (G14 F)
theorem k14 (F63 : T63) (F64 : T64) (F65 : T65) (F66 : T66) (F67 : T67) (F68 : T68) (F69 : T69) (F24 : T24) (F70 : T70) : KO [(63, W63 F63), (64, W64 F64), (65, W65 F65), (66, W66 F66), (67, W67 F67), (68, W68 F68), (69, W69 F69), (24, W24 F24), (70, W70 F70)] noX 14 Tryz.f14 s14 (G14 (P14 F63 F64 F65 F66 F67 F68 F69 F24 F70)) := fun _ _ _ => by kernel_rfl
theorem ok14 : FnOk D 14 (W14 F14) := oW Tryz.func14 (tc ok63 (tc ok64 (tc ok65 (tc ok66 (tc ok67 (tc ok68 (tc ok69 (tc ok24 (tc ok70 tn))))))))) (k14 F63 F64 F65 F66 F67 F68 F69 F24 F70 )
abbrev T124 : Type 1 := (β : Type) → LU → LU → LU → LU → Bool → LsV → LsV → LsV → LU → LU → LsV → Bool → LsV → LsV → LsV → LsV → LsV → Int → Int → Int → Int → LsV → LsV → Bool → Bool → LU → LU → LU → LU → Bool → LsV → LsV → LsV → LU → LU → LsV → Bool → LsV → LsV → LsV → LsV → LsV → Int → Int → Int → Int → LsV → LsV → Bool → Bool → (Bool → Option β) → Option β
def P124 (F63 : T63) (F14 : T14) : T124 := fun β a b c d f g h i j l m n o p q r s t u v w x y z a1 c1 d1 f1 g1 h1 i1 j1 l1 m1 n1 o1 p1 q1 r1 s1 t1 u1 v1 w1 x1 y1 z1 a2 c2 d2 k =>
 F63 _ a b c1 d1 fun b1 =>
 br (!b1) (
 k false) (
 F14 _ c d f g h i j l m n o p q r s t u v w x y z f1 g1 h1 i1 j1 l1 m1 n1 o1 p1 q1 r1 s1 t1 u1 v1 w1 x1 y1 z1 a2 c2 fun b2 =>
 br (!b2) (
 k false) (
 br (!(a1 == d2)) (
 k false) (
 k true)))
def F124 : T124 := P124 F63 F14
abbrev s124 : List (Bool × List CK) := [(true, q0), (true, q0)]
def G124 (F : T124) (β : Type) (e : argsT s124) (k : V → Option β) : Option β := let a:=e.1;let b:=a.2;let c:=b.2;let d:=c.2;let f:=d.2;let g:=f.2;let h:=g.2;let i:=h.2;let j:=i.2;let l:=j.2;let m:=l.2;let n:=m.2;let o:=n.2;let p:=o.2;let q:=p.2;let r:=q.2;let s:=r.2;let t:=s.2;let u:=t.2;let v:=u.2;let w:=v.2;let x:=w.2;let y:=x.2;let z:=y.2;let a1:=z.2;let b1:=e.2.1;let c1:=b1.2;let d1:=c1.2;let f1:=d1.2;let g1:=f1.2;let h1:=g1.2;let i1:=h1.2;let j1:=i1.2;let l1:=j1.2;let m1:=l1.2;let n1:=m1.2;let o1:=n1.2;let p1:=o1.2;let q1:=p1.2;let r1:=q1.2;let s1:=r1.2;let t1:=s1.2;let u1:=t1.2;let v1:=u1.2;let w1:=v1.2;let x1:=w1.2;let y1:=x1.2;let z1:=y1.2;let a2:=z1.2;let b2:=a2.2;F β a.1 b.1 c.1 d.1 f.1 g.1 h.1 i.1 j.1 l.1 m.1 n.1 o.1 p.1 q.1 r.1 s.1 t.1 u.1 v.1 w.1 x.1 y.1 z.1 a1.1 b1.1 c1.1 d1.1 f1.1 g1.1 h1.1 i1.1 j1.1 l1.1 m1.1 n1.1 o1.1 p1.1 q1.1 r1.1 s1.1 t1.1 u1.1 v1.1 w1.1 x1.1 y1.1 z1.1 a2.1 b2.1 (fun y1 => k (.bool y1))
abbrev W124 (F : T124) : WT := wrap s124 (G124 F)
theorem k124 (F63 : T63) (F14 : T14) : KO [(63, W63 F63), (14, W14 F14)] noX 124 Tryz.f124 s124 (G124 (P124 F63 F14)) := fun _ _ _ => by kernel_rfl
theorem ok124 : FnOk D 124 (W124 F124) := oW Tryz.func124 (tc ok63 (tc ok14 tn)) (k124 F63 F14 )
abbrev T62 : Type 1 := T70
def P62 (F124 : T124) : T62 := fun β a b k =>
 br ((a.length : Int) != (b.length : Int)) (
 k false) (
 whileK (fun s1 =>
 br (decide ((lI s1 2) < ((lL s1 0).length : Int))) (
 chk (0 ≤ (lI s1 2)) <|
 idx true q0 (lL s1 0) ((lI s1 2).toNat) fun (e2 : r10_) =>
 chk (0 ≤ (lI s1 2)) <|
 idx true q0 (lL s1 1) ((lI s1 2).toNat) fun (e3 : r10_) =>
 F124 _ e2.1 e2.2.1 e2.2.2.1 e2.2.2.2.1 e2.2.2.2.2.1 e2.2.2.2.2.2.1 e2.2.2.2.2.2.2.1 e2.2.2.2.2.2.2.2.1 e2.2.2.2.2.2.2.2.2.1 e2.2.2.2.2.2.2.2.2.2.1 e2.2.2.2.2.2.2.2.2.2.2.1 e2.2.2.2.2.2.2.2.2.2.2.2.1 e2.2.2.2.2.2.2.2.2.2.2.2.2.1 e2.2.2.2.2.2.2.2.2.2.2.2.2.2.1 e2.2.2.2.2.2.2.2.2.2.2.2.2.2.2.1 e2.2.2.2.2.2.2.2.2.2.2.2.2.2.2.2.1 e2.2.2.2.2.2.2.2.2.2.2.2.2.2.2.2.2.1 e2.2.2.2.2.2.2.2.2.2.2.2.2.2.2.2.2.2.1 e2.2.2.2.2.2.2.2.2.2.2.2.2.2.2.2.2.2.2.1 e2.2.2.2.2.2.2.2.2.2.2.2.2.2.2.2.2.2.2.2.1 e2.2.2.2.2.2.2.2.2.2.2.2.2.2.2.2.2.2.2.2.2.1 e2.2.2.2.2.2.2.2.2.2.2.2.2.2.2.2.2.2.2.2.2.2.1 e2.2.2.2.2.2.2.2.2.2.2.2.2.2.2.2.2.2.2.2.2.2.2.1 e2.2.2.2.2.2.2.2.2.2.2.2.2.2.2.2.2.2.2.2.2.2.2.2.1 e2.2.2.2.2.2.2.2.2.2.2.2.2.2.2.2.2.2.2.2.2.2.2.2.2.1 e3.1 e3.2.1 e3.2.2.1 e3.2.2.2.1 e3.2.2.2.2.1 e3.2.2.2.2.2.1 e3.2.2.2.2.2.2.1 e3.2.2.2.2.2.2.2.1 e3.2.2.2.2.2.2.2.2.1 e3.2.2.2.2.2.2.2.2.2.1 e3.2.2.2.2.2.2.2.2.2.2.1 e3.2.2.2.2.2.2.2.2.2.2.2.1 e3.2.2.2.2.2.2.2.2.2.2.2.2.1 e3.2.2.2.2.2.2.2.2.2.2.2.2.2.1 e3.2.2.2.2.2.2.2.2.2.2.2.2.2.2.1 e3.2.2.2.2.2.2.2.2.2.2.2.2.2.2.2.1 e3.2.2.2.2.2.2.2.2.2.2.2.2.2.2.2.2.1 e3.2.2.2.2.2.2.2.2.2.2.2.2.2.2.2.2.2.1 e3.2.2.2.2.2.2.2.2.2.2.2.2.2.2.2.2.2.2.1 e3.2.2.2.2.2.2.2.2.2.2.2.2.2.2.2.2.2.2.2.1 e3.2.2.2.2.2.2.2.2.2.2.2.2.2.2.2.2.2.2.2.2.1 e3.2.2.2.2.2.2.2.2.2.2.2.2.2.2.2.2.2.2.2.2.2.1 e3.2.2.2.2.2.2.2.2.2.2.2.2.2.2.2.2.2.2.2.2.2.2.1 e3.2.2.2.2.2.2.2.2.2.2.2.2.2.2.2.2.2.2.2.2.2.2.2.1 e3.2.2.2.2.2.2.2.2.2.2.2.2.2.2.2.2.2.2.2.2.2.2.2.2.1 fun b4 =>
 br (!b4) (
 some (.inr (0, [.b false]))) (
 some (.inl [.l (lL s1 0), .l (lL s1 1), .i (IntKind.wrap .i64 ((lI s1 2) + 1))]))) (
 some (.inr (1, [])))) [.l a, .l b, .i 0] fun r5 =>
 if r5.1 = 0 then
 k (lB r5.2 0)
 else
 k true)
def F62 : T62 := P62 F124
def X62 : Exits := fun i => lookN i [] [(4, [(.ret, xk 27 [(4, .bool false)] []), (.exit 0, xk 27 [] [])])]
abbrev s62 : List (Bool × List CK) := [(false, [.sl 25 false]), (false, [.sl 25 false])]
def G62 (F : T62) (β : Type) (e : argsT s62) (k : V → Option β) : Option β := F β e.1.1 e.2.1.1 (fun y1 => k (.bool y1))
abbrev W62 (F : T62) : WT := wrap s62 (G62 F)
theorem k62 (F124 : T124) : KO [(124, W124 F124)] X62 62 Tryz.f62 s62 (G62 (P62 F124)) := fun _ _ _ => by kernel_rfl
theorem ok62 : FnOk D 62 (W62 F62) := oW Tryz.func62 (tc ok124 tn) (k62 F124 )
abbrev T13 : Type 1 := (β : Type) → LsV → Int → LsV → Int → (Bool → Option β) → Option β
def P13 (F62 : T62) : T13 := fun β a b c d k =>
 F62 _ a c fun b1 =>
 br (!b1) (
 k false) (
 br (b != d) (
 k false) (
 k true))
def F13 : T13 := P13 F62
abbrev s13 : List (Bool × List CK) := [(true, q10), (true, q10)]
def G13 (F : T13) (β : Type) (e : argsT s13) (k : V → Option β) : Option β := F β e.1.1 e.1.2.1 e.2.1.1 e.2.1.2.1 (fun y1 => k (.bool y1))
abbrev W13 (F : T13) : WT := wrap s13 (G13 F)
theorem k13 (F62 : T62) : KO [(62, W62 F62)] noX 13 Tryz.f13 s13 (G13 (P13 F62)) := fun _ _ _ => by kernel_rfl
theorem ok13 : FnOk D 13 (W13 F13) := oW Tryz.func13 (tc ok62 tn) (k13 F62 )
abbrev T112 : Type 1 := T51
def P112 : T112 := fun β d a b c f k =>
 chk ((([] : LsV).length + a.length) * 16 ≤ 140737488355328 ∧ ([] : LsV).length + a.length ≤ 140737488355328) <|
 chk ((([] : LsV).length + b.length) * 16 ≤ 140737488355328 ∧ ([] : LsV).length + b.length ≤ 140737488355328) <|
 chk ((([] : LsV).length + c.length) * 16 ≤ 140737488355328 ∧ ([] : LsV).length + c.length ≤ 140737488355328) <|
 k d (([] : LsV) ++ a) (([] : LsV) ++ b) (([] : LsV) ++ c) f
def F112 : T112 := P112
abbrev s112 : List (Bool × List CK) := s51
abbrev G112 := G51
abbrev W112 (F : T112) : WT := wrap s112 (G112 F)
theorem k112 : KO [] noX 112 Tryz.f112 s112 (G112 (P112)) := fun _ _ _ => by kernel_rfl
theorem ok112 : FnOk D 112 (W112 F112) := oW Tryz.func112 (tn) (k112 )
abbrev T180 : Type 1 := T58
def P180 : T180 := fun β l k =>
 chk ((([] : LsV).length + l.length) * 32 ≤ 140737488355328 ∧ ([] : LsV).length + l.length ≤ 140737488355328) <|
 k (([] : LsV) ++ l)
def F180 : T180 := P180
abbrev s180 : List (Bool × List CK) := s181
abbrev G180 := G181
abbrev W180 (F : T180) : WT := wrap s180 (G180 F)
theorem k180 : KO [] noX 180 Tryz.f180 s180 (G180 (P180)) := fun _ _ _ => by kernel_rfl
theorem ok180 : FnOk D 180 (W180 F180) := oW Tryz.func180 (tn) (k180 )
abbrev T113 : Type 1 := T58
def P113 (F180 : T180) : T113 := fun β l k =>
 whileK (fun s1 =>
 br (decide ((lI s1 2) < ((lL s1 0).length : Int))) (
 chk (0 ≤ (lI s1 2)) <|
 idx true q8 (lL s1 0) ((lI s1 2).toNat) fun (e2 : r2_) =>
 chk (0 ≤ (lI s1 2)) <|
 idx true q8 (lL s1 0) ((lI s1 2).toNat) fun (e3 : r2_) =>
 F180 _ e3.2.2.1 fun l4 =>
 chk (((lL s1 1).length + ([.agg [.int .i64 e2.1, .str e2.2.1, .sl 2 true l4, .str e2.2.2.2.1]] : LsV).length) * 64 ≤ 140737488355328 ∧ (lL s1 1).length + ([.agg [.int .i64 e2.1, .str e2.2.1, .sl 2 true l4, .str e2.2.2.2.1]] : LsV).length ≤ 140737488355328) <|
 some (.inl [.l (lL s1 0), .l ((lL s1 1) ++ ([.agg [.int .i64 e2.1, .str e2.2.1, .sl 2 true l4, .str e2.2.2.2.1]] : LsV)), .i (IntKind.wrap .i64 ((lI s1 2) + 1))])) (
 some (.inr (0, [.l (lL s1 1)])))) [.l l, .l [], .i 0] fun r5 =>
 k (lL r5.2 0)
def F113 : T113 := P113 F180
def X113 : Exits := fun i => lookN i [] [(3, [(.exit 0, xk 29 [(3, .own 1000000 4 .clean [])] [])])]
abbrev s113 : List (Bool × List CK) := s53
abbrev G113 := G53
abbrev W113 (F : T113) : WT := wrap s113 (G113 F)
theorem k113 (F180 : T180) : KO [(180, W180 F180)] X113 113 Tryz.f113 s113 (G113 (P113 F180)) := fun _ _ _ => by kernel_rfl
theorem ok113 : FnOk D 113 (W113 F113) := oW Tryz.func113 (tc ok180 tn) (k113 F180 )
abbrev T114 : Type 1 := T54
def P114 (F180 : T180) : T114 := fun β b a k =>
 chk ((([] : LsV).length + a.length) * 8 ≤ 140737488355328 ∧ ([] : LsV).length + a.length ≤ 140737488355328) <|
 whileK (fun s1 =>
 br (decide ((lI s1 0) < ((lL s1 1).length : Int))) (
 chk (0 ≤ (lI s1 0)) <|
 idx true q9 (lL s1 1) ((lI s1 0).toNat) fun (e2 : r7_) =>
 chk (0 ≤ (lI s1 0)) <|
 idx true q9 (lL s1 1) ((lI s1 0).toNat) fun (e3 : r7_) =>
 F180 _ e3.2.2.2.1 fun l4 =>
 chk (((lL s1 3).length + ([.agg [.str e2.1, .str e2.2.1, .int .i64 e2.2.2.1, .sl 2 true l4]] : LsV).length) * 64 ≤ 140737488355328 ∧ (lL s1 3).length + ([.agg [.str e2.1, .str e2.2.1, .int .i64 e2.2.2.1, .sl 2 true l4]] : LsV).length ≤ 140737488355328) <|
 some (.inl [.i (IntKind.wrap .i64 ((lI s1 0) + 1)), .l (lL s1 1), .l (lL s1 2), .l ((lL s1 3) ++ ([.agg [.str e2.1, .str e2.2.1, .int .i64 e2.2.2.1, .sl 2 true l4]] : LsV)), .l (lL s1 4)])) (
 some (.inr (0, [.l (lL s1 3), .l (lL s1 4)])))) [.i 0, .l b, .l a, .l [], .l (([] : LsV) ++ a)] fun r5 =>
 k (lL r5.2 0) (lL r5.2 1)
def F114 : T114 := P114 F180
def X114 : Exits := fun i => lookN i [] [(3, [(.exit 0, xk 38 [(2, .ptr 2 0), (3, .ptr 3 0)] [(2, .agg [.nil, .nil]), (3, .agg [.own 1000000 4 .clean [], .own 1000001 1 .flat []])])])]
abbrev s114 : List (Bool × List CK) := s54
abbrev G114 := G54
abbrev W114 (F : T114) : WT := wrap s114 (G114 F)
theorem k114 (F180 : T180) : KO [(180, W180 F180)] X114 114 Tryz.f114 s114 (G114 (P114 F180)) := fun _ _ _ => by kernel_rfl
theorem ok114 : FnOk D 114 (W114 F114) := oW Tryz.func114 (tc ok180 tn) (k114 F180 )
abbrev T48 : Type 1 := T11
def P48 (F112 : T112) (F113 : T113) (F114 : T114) : T48 := fun β g h i j l m n o p q r s a b c t u v w d f x k =>
 F112 _ i j l m n fun b1 l2 l3 l4 t5 =>
 F113 _ p fun l6 =>
 F114 _ r s fun l7 l8 =>
 chk ((([] : LsV).length + a.length) * 96 ≤ 140737488355328 ∧ ([] : LsV).length + a.length ≤ 140737488355328) <|
 chk ((([] : LsV).length + b.length) * 64 ≤ 140737488355328 ∧ ([] : LsV).length + b.length ≤ 140737488355328) <|
 chk ((([] : LsV).length + c.length) * 32 ≤ 140737488355328 ∧ ([] : LsV).length + c.length ≤ 140737488355328) <|
 chk ((([] : LsV).length + d.length) * 32 ≤ 140737488355328 ∧ ([] : LsV).length + d.length ≤ 140737488355328) <|
 chk ((([] : LsV).length + f.length) * 16 ≤ 140737488355328 ∧ ([] : LsV).length + f.length ≤ 140737488355328) <|
 k g h b1 l2 l3 l4 t5 o l6 q l7 l8 (([] : LsV) ++ a) (([] : LsV) ++ b) (([] : LsV) ++ c) t u v w (([] : LsV) ++ d) (([] : LsV) ++ f) x
def F48 : T48 := P48 F112 F113 F114
abbrev s48 : List (Bool × List CK) := s11
abbrev G48 := G11
abbrev W48 (F : T48) : WT := wrap s48 (G48 F)
theorem k48 (F112 : T112) (F113 : T113) (F114 : T114) : KO [(112, W112 F112), (113, W113 F113), (114, W114 F114)] noX 48 Tryz.f48 s48 (G48 (P48 F112 F113 F114)) := fun _ _ _ => by kernel_rfl
theorem ok48 : FnOk D 48 (W48 F48) := oW Tryz.func48 (tc ok112 (tc ok113 (tc ok114 tn))) (k48 F112 F113 F114 )
abbrev T46 : Type 1 := T10
def P46 (F48 : T48) : T46 := fun β b a k =>
 whileK (fun s1 =>
 br (decide ((lI s1 0) < ((lL s1 1).length : Int))) (
 chk (0 ≤ (lI s1 0)) <|
 idx true q0 (lL s1 1) ((lI s1 0).toNat) fun (e2 : r10_) =>
 chk (0 ≤ (lI s1 0)) <|
 idx true q0 (lL s1 1) ((lI s1 0).toNat) fun (e3 : r10_) =>
 F48 _ e3.2.2.1 e3.2.2.2.1 e3.2.2.2.2.1 e3.2.2.2.2.2.1 e3.2.2.2.2.2.2.1 e3.2.2.2.2.2.2.2.1 e3.2.2.2.2.2.2.2.2.1 e3.2.2.2.2.2.2.2.2.2.1 e3.2.2.2.2.2.2.2.2.2.2.1 e3.2.2.2.2.2.2.2.2.2.2.2.1 e3.2.2.2.2.2.2.2.2.2.2.2.2.1 e3.2.2.2.2.2.2.2.2.2.2.2.2.2.1 e3.2.2.2.2.2.2.2.2.2.2.2.2.2.2.1 e3.2.2.2.2.2.2.2.2.2.2.2.2.2.2.2.1 e3.2.2.2.2.2.2.2.2.2.2.2.2.2.2.2.2.1 e3.2.2.2.2.2.2.2.2.2.2.2.2.2.2.2.2.2.1 e3.2.2.2.2.2.2.2.2.2.2.2.2.2.2.2.2.2.2.1 e3.2.2.2.2.2.2.2.2.2.2.2.2.2.2.2.2.2.2.2.1 e3.2.2.2.2.2.2.2.2.2.2.2.2.2.2.2.2.2.2.2.2.1 e3.2.2.2.2.2.2.2.2.2.2.2.2.2.2.2.2.2.2.2.2.2.1 e3.2.2.2.2.2.2.2.2.2.2.2.2.2.2.2.2.2.2.2.2.2.2.1 e3.2.2.2.2.2.2.2.2.2.2.2.2.2.2.2.2.2.2.2.2.2.2.2.1 fun t4 t5 b6 l7 l8 l9 t10 t11 l12 b13 l14 l15 l16 l17 l18 n19 n20 n21 n22 l23 l24 b25 =>
 chk (((lL s1 4).length + ([.agg [.str e2.1, .str e2.2.1, .str t4, .str t5, .bool b6, .sl 1 true l7, .sl 1 true l8, .sl 1 true l9, .str t10, .str t11, .sl 4 false l12, .bool b13, .sl 4 false l14, .sl 1 true l15, .sl 8 true l16, .sl 5 true l17, .sl 2 true l18, .int .i64 n19, .int .i64 n20, .int .i64 n21, .int .i64 n22, .sl 2 true l23, .sl 1 true l24, .bool b25, .bool e2.2.2.2.2.2.2.2.2.2.2.2.2.2.2.2.2.2.2.2.2.2.2.2.2.1]] : LsV).length) * 424 ≤ 140737488355328 ∧ (lL s1 4).length + ([.agg [.str e2.1, .str e2.2.1, .str t4, .str t5, .bool b6, .sl 1 true l7, .sl 1 true l8, .sl 1 true l9, .str t10, .str t11, .sl 4 false l12, .bool b13, .sl 4 false l14, .sl 1 true l15, .sl 8 true l16, .sl 5 true l17, .sl 2 true l18, .int .i64 n19, .int .i64 n20, .int .i64 n21, .int .i64 n22, .sl 2 true l23, .sl 1 true l24, .bool b25, .bool e2.2.2.2.2.2.2.2.2.2.2.2.2.2.2.2.2.2.2.2.2.2.2.2.2.1]] : LsV).length ≤ 140737488355328) <|
 some (.inl [.i (IntKind.wrap .i64 ((lI s1 0) + 1)), .l (lL s1 1), .i (lI s1 2), .i (lI s1 3), .l ((lL s1 4) ++ ([.agg [.str e2.1, .str e2.2.1, .str t4, .str t5, .bool b6, .sl 1 true l7, .sl 1 true l8, .sl 1 true l9, .str t10, .str t11, .sl 4 false l12, .bool b13, .sl 4 false l14, .sl 1 true l15, .sl 8 true l16, .sl 5 true l17, .sl 2 true l18, .int .i64 n19, .int .i64 n20, .int .i64 n21, .int .i64 n22, .sl 2 true l23, .sl 1 true l24, .bool b25, .bool e2.2.2.2.2.2.2.2.2.2.2.2.2.2.2.2.2.2.2.2.2.2.2.2.2.1]] : LsV)), .i (lI s1 5)])) (
 some (.inr (0, [.i (lI s1 3), .l (lL s1 4), .i (lI s1 5)])))) [.i 0, .l b, .i a, .i 0, .l [], .i a] fun r26 =>
 k (lL r26.2 1) (lI r26.2 2)
def F46 : T46 := P46 F48
def X46 : Exits := fun i => lookN i [] [(3, [(.exit 0, xk 36 [(2, .ptr 2 0), (3, .ptr 3 0)] [(2, .agg [.nil, .int .i64 0]), (3, .agg [.own 1000000 25 .clean [], .int .i64 0])])])]
abbrev s46 : List (Bool × List CK) := s10
abbrev G46 := G10
abbrev W46 (F : T46) : WT := wrap s46 (G46 F)
theorem k46 (F48 : T48) : KO [(48, W48 F48)] X46 46 Tryz.f46 s46 (G46 (P46 F48)) := fun _ _ _ => by kernel_rfl
theorem ok46 : FnOk D 46 (W46 F46) := oW Tryz.func46 (tc ok48 tn) (k46 F48 )
abbrev T121 : Type 1 := T51
def P121 : T121 := fun β d a b c f k =>
 chk ((([] : LsV).length + a.length) * 16 ≤ 140737488355328 ∧ ([] : LsV).length + a.length ≤ 140737488355328) <|
 chk ((([] : LsV).length + b.length) * 16 ≤ 140737488355328 ∧ ([] : LsV).length + b.length ≤ 140737488355328) <|
 chk ((([] : LsV).length + c.length) * 16 ≤ 140737488355328 ∧ ([] : LsV).length + c.length ≤ 140737488355328) <|
 k d (([] : LsV) ++ a) (([] : LsV) ++ b) (([] : LsV) ++ c) f
def F121 : T121 := P121
abbrev s121 : List (Bool × List CK) := s51
abbrev G121 := G51
abbrev W121 (F : T121) : WT := wrap s121 (G121 F)
theorem k121 : KO [] noX 121 Tryz.f121 s121 (G121 (P121)) := fun _ _ _ => by kernel_rfl
theorem ok121 : FnOk D 121 (W121 F121) := oW Tryz.func121 (tn) (k121 )
abbrev T183 : Type 1 := T116
def P183 : T183 := fun β b c a d k =>
 chk ((([] : LsV).length + a.length) * 32 ≤ 140737488355328 ∧ ([] : LsV).length + a.length ≤ 140737488355328) <|
 k b c (([] : LsV) ++ a) d
def F183 : T183 := P183
abbrev s183 : List (Bool × List CK) := s116
abbrev G183 := G116
abbrev W183 (F : T183) : WT := wrap s183 (G183 F)
theorem k183 : KO [] noX 183 Tryz.f183 s183 (G183 (P183)) := fun _ _ _ => by kernel_rfl
theorem ok183 : FnOk D 183 (W183 F183) := oW Tryz.func183 (tn) (k183 )
abbrev T122 : Type 1 := T58
def P122 (F183 : T183) : T122 := fun β l k =>
 whileK (fun s1 =>
 br (decide ((lI s1 3) < (lI s1 2))) (
 chk (0 ≤ (lI s1 3)) <|
 idx true q8 (lL s1 1) ((lI s1 3).toNat) fun (e2 : r2_) =>
 F183 _ e2.1 e2.2.1 e2.2.2.1 e2.2.2.2.1 fun n3 t4 l5 t6 =>
 chk (((lL s1 0).length + ([.agg [.int .i64 n3, .str t4, .sl 2 true l5, .str t6]] : LsV).length) * 64 ≤ 140737488355328 ∧ (lL s1 0).length + ([.agg [.int .i64 n3, .str t4, .sl 2 true l5, .str t6]] : LsV).length ≤ 140737488355328) <|
 some (.inl [.l ((lL s1 0) ++ ([.agg [.int .i64 n3, .str t4, .sl 2 true l5, .str t6]] : LsV)), .l (lL s1 1), .i (lI s1 2), .i (IntKind.wrap .i64 ((lI s1 3) + 1))])) (
 some (.inr (0, [.l (lL s1 0)])))) [.l [], .l l, .i (l.length : Int), .i 0] fun r7 =>
 k (lL r7.2 0)
def F122 : T122 := P122 F183
def X122 : Exits := fun i => lookN i [] [(3, [(.exit 0, xk 20 [(3, .own 1000000 4 .clean [])] [])])]
abbrev s122 : List (Bool × List CK) := s53
abbrev G122 := G53
abbrev W122 (F : T122) : WT := wrap s122 (G122 F)
theorem k122 (F183 : T183) : KO [(183, W183 F183)] X122 122 Tryz.f122 s122 (G122 (P122 F183)) := fun _ _ _ => by kernel_rfl
theorem ok122 : FnOk D 122 (W122 F122) := oW Tryz.func122 (tc ok183 tn) (k122 F183 )
abbrev T123 : Type 1 := T54
def P123 : T123 := fun β b a k =>
 chk ((([] : LsV).length + a.length) * 8 ≤ 140737488355328 ∧ ([] : LsV).length + a.length ≤ 140737488355328) <|
 whileK (fun s1 =>
 br (decide ((lI s1 2) < (lI s1 1))) (
 chk (0 ≤ (lI s1 2)) <|
 idx true q9 (lL s1 0) ((lI s1 2).toNat) fun (e2 : r7_) =>
 chk ((([] : LsV).length + e2.2.2.2.1.length) * 32 ≤ 140737488355328 ∧ ([] : LsV).length + e2.2.2.2.1.length ≤ 140737488355328) <|
 chk (((lL s1 3).length + ([.agg [.str e2.1, .str e2.2.1, .int .i64 e2.2.2.1, .sl 2 true (([] : LsV) ++ e2.2.2.2.1)]] : LsV).length) * 64 ≤ 140737488355328 ∧ (lL s1 3).length + ([.agg [.str e2.1, .str e2.2.1, .int .i64 e2.2.2.1, .sl 2 true (([] : LsV) ++ e2.2.2.2.1)]] : LsV).length ≤ 140737488355328) <|
 some (.inl [.l (lL s1 0), .i (lI s1 1), .i (IntKind.wrap .i64 ((lI s1 2) + 1)), .l ((lL s1 3) ++ ([.agg [.str e2.1, .str e2.2.1, .int .i64 e2.2.2.1, .sl 2 true (([] : LsV) ++ e2.2.2.2.1)]] : LsV)), .l (lL s1 4)])) (
 some (.inr (0, [.l (lL s1 3), .l (lL s1 4)])))) [.l b, .i (b.length : Int), .i 0, .l [], .l (([] : LsV) ++ a)] fun r3 =>
 k (lL r3.2 0) (lL r3.2 1)
def F123 : T123 := P123
def X123 : Exits := fun i => lookN i [] [(3, [(.exit 0, xk 31 [(2, .ptr 2 0), (3, .ptr 3 0)] [(2, .agg [.nil, .nil]), (3, .agg [.own 1000000 4 .clean [], .own 1000001 1 .flat []])])])]
abbrev s123 : List (Bool × List CK) := s54
abbrev G123 := G54
abbrev W123 (F : T123) : WT := wrap s123 (G123 F)
theorem k123 : KO [] X123 123 Tryz.f123 s123 (G123 (P123)) := fun _ _ _ => by kernel_rfl
theorem ok123 : FnOk D 123 (W123 F123) := oW Tryz.func123 (tn) (k123 )
abbrev T61 : Type 1 := T11
def P61 (F121 : T121) (F122 : T122) (F123 : T123) : T61 := fun β g h i j l m n o p q r s a b c t u v w d f x k =>
 F121 _ i j l m n fun b1 l2 l3 l4 t5 =>
 F122 _ p fun l6 =>
 F123 _ r s fun l7 l8 =>
 chk ((([] : LsV).length + a.length) * 96 ≤ 140737488355328 ∧ ([] : LsV).length + a.length ≤ 140737488355328) <|
 chk ((([] : LsV).length + b.length) * 64 ≤ 140737488355328 ∧ ([] : LsV).length + b.length ≤ 140737488355328) <|
 chk ((([] : LsV).length + c.length) * 32 ≤ 140737488355328 ∧ ([] : LsV).length + c.length ≤ 140737488355328) <|
 chk ((([] : LsV).length + d.length) * 32 ≤ 140737488355328 ∧ ([] : LsV).length + d.length ≤ 140737488355328) <|
 chk ((([] : LsV).length + f.length) * 16 ≤ 140737488355328 ∧ ([] : LsV).length + f.length ≤ 140737488355328) <|
 k g h b1 l2 l3 l4 t5 o l6 q l7 l8 (([] : LsV) ++ a) (([] : LsV) ++ b) (([] : LsV) ++ c) t u v w (([] : LsV) ++ d) (([] : LsV) ++ f) x
def F61 : T61 := P61 F121 F122 F123
abbrev s61 : List (Bool × List CK) := s11
abbrev G61 := G11
abbrev W61 (F : T61) : WT := wrap s61 (G61 F)
theorem k61 (F121 : T121) (F122 : T122) (F123 : T123) : KO [(121, W121 F121), (122, W122 F122), (123, W123 F123)] noX 61 Tryz.f61 s61 (G61 (P61 F121 F122 F123)) := fun _ _ _ => by kernel_rfl
theorem ok61 : FnOk D 61 (W61 F61) := oW Tryz.func61 (tc ok121 (tc ok122 (tc ok123 tn))) (k61 F121 F122 F123 )
abbrev T59 : Type 1 := T10
def P59 (F61 : T61) : T59 := fun β a b k =>
 whileK (fun s1 =>
 br (decide ((lI s1 2) < (lI s1 1))) (
 chk (0 ≤ (lI s1 2)) <|
 idx true q0 (lL s1 0) ((lI s1 2).toNat) fun (e2 : r10_) =>
 F61 _ e2.2.2.1 e2.2.2.2.1 e2.2.2.2.2.1 e2.2.2.2.2.2.1 e2.2.2.2.2.2.2.1 e2.2.2.2.2.2.2.2.1 e2.2.2.2.2.2.2.2.2.1 e2.2.2.2.2.2.2.2.2.2.1 e2.2.2.2.2.2.2.2.2.2.2.1 e2.2.2.2.2.2.2.2.2.2.2.2.1 e2.2.2.2.2.2.2.2.2.2.2.2.2.1 e2.2.2.2.2.2.2.2.2.2.2.2.2.2.1 e2.2.2.2.2.2.2.2.2.2.2.2.2.2.2.1 e2.2.2.2.2.2.2.2.2.2.2.2.2.2.2.2.1 e2.2.2.2.2.2.2.2.2.2.2.2.2.2.2.2.2.1 e2.2.2.2.2.2.2.2.2.2.2.2.2.2.2.2.2.2.1 e2.2.2.2.2.2.2.2.2.2.2.2.2.2.2.2.2.2.2.1 e2.2.2.2.2.2.2.2.2.2.2.2.2.2.2.2.2.2.2.2.1 e2.2.2.2.2.2.2.2.2.2.2.2.2.2.2.2.2.2.2.2.2.1 e2.2.2.2.2.2.2.2.2.2.2.2.2.2.2.2.2.2.2.2.2.2.1 e2.2.2.2.2.2.2.2.2.2.2.2.2.2.2.2.2.2.2.2.2.2.2.1 e2.2.2.2.2.2.2.2.2.2.2.2.2.2.2.2.2.2.2.2.2.2.2.2.1 fun t3 t4 b5 l6 l7 l8 t9 t10 l11 b12 l13 l14 l15 l16 l17 n18 n19 n20 n21 l22 l23 b24 =>
 chk (((lL s1 4).length + ([.agg [.str e2.1, .str e2.2.1, .str t3, .str t4, .bool b5, .sl 1 true l6, .sl 1 true l7, .sl 1 true l8, .str t9, .str t10, .sl 4 false l11, .bool b12, .sl 4 false l13, .sl 1 true l14, .sl 8 true l15, .sl 5 true l16, .sl 2 true l17, .int .i64 n18, .int .i64 n19, .int .i64 n20, .int .i64 n21, .sl 2 true l22, .sl 1 true l23, .bool b24, .bool e2.2.2.2.2.2.2.2.2.2.2.2.2.2.2.2.2.2.2.2.2.2.2.2.2.1]] : LsV).length) * 424 ≤ 140737488355328 ∧ (lL s1 4).length + ([.agg [.str e2.1, .str e2.2.1, .str t3, .str t4, .bool b5, .sl 1 true l6, .sl 1 true l7, .sl 1 true l8, .str t9, .str t10, .sl 4 false l11, .bool b12, .sl 4 false l13, .sl 1 true l14, .sl 8 true l15, .sl 5 true l16, .sl 2 true l17, .int .i64 n18, .int .i64 n19, .int .i64 n20, .int .i64 n21, .sl 2 true l22, .sl 1 true l23, .bool b24, .bool e2.2.2.2.2.2.2.2.2.2.2.2.2.2.2.2.2.2.2.2.2.2.2.2.2.1]] : LsV).length ≤ 140737488355328) <|
 some (.inl [.l (lL s1 0), .i (lI s1 1), .i (IntKind.wrap .i64 ((lI s1 2) + 1)), .i (lI s1 3), .l ((lL s1 4) ++ ([.agg [.str e2.1, .str e2.2.1, .str t3, .str t4, .bool b5, .sl 1 true l6, .sl 1 true l7, .sl 1 true l8, .str t9, .str t10, .sl 4 false l11, .bool b12, .sl 4 false l13, .sl 1 true l14, .sl 8 true l15, .sl 5 true l16, .sl 2 true l17, .int .i64 n18, .int .i64 n19, .int .i64 n20, .int .i64 n21, .sl 2 true l22, .sl 1 true l23, .bool b24, .bool e2.2.2.2.2.2.2.2.2.2.2.2.2.2.2.2.2.2.2.2.2.2.2.2.2.1]] : LsV)), .i (lI s1 5)])) (
 some (.inr (0, [.i (lI s1 3), .l (lL s1 4), .i (lI s1 5)])))) [.l a, .i (a.length : Int), .i 0, .i 0, .l [], .i b] fun r25 =>
 k (lL r25.2 1) (lI r25.2 2)
def F59 : T59 := P59 F61
def X59 : Exits := fun i => lookN i [] [(3, [(.exit 0, xk 28 [(2, .ptr 2 0), (3, .ptr 3 0)] [(2, .agg [.nil, .int .i64 0]), (3, .agg [.own 1000000 25 .clean [], .int .i64 0])])])]
abbrev s59 : List (Bool × List CK) := s10
abbrev G59 := G10
abbrev W59 (F : T59) : WT := wrap s59 (G59 F)
theorem k59 (F61 : T61) : KO [(61, W61 F61)] X59 59 Tryz.f59 s59 (G59 (P59 F61)) := fun _ _ _ => by kernel_rfl
theorem ok59 : FnOk D 59 (W59 F59) := oW Tryz.func59 (tc ok61 tn) (k59 F61 )
abbrev T187 : Type 1 := (β : Type) → Int → Int → LU → Int → Bool → LU → Int → (Int → Option β) → Option β
def P187 : T187 := fun β c d a f g b left k =>
 br (decide (IntKind.wrap .i64 (left - (a.length : Int)) < 0)) (
 k (-1)) (
 br (decide (IntKind.wrap .i64 ((IntKind.wrap .i64 (left - (a.length : Int))) - (b.length : Int)) < 0)) (
 k (-1)) (
 k (IntKind.wrap .i64 ((IntKind.wrap .i64 (left - (a.length : Int))) - (b.length : Int)))))
def F187 : T187 := P187
abbrev s187 : List (Bool × List CK) := [(true, q14), (false, [.int .i64])]
def G187 (F : T187) (β : Type) (e : argsT s187) (k : V → Option β) : Option β := let a:=e.1;let b:=a.2;let c:=b.2;let d:=c.2;let f:=d.2;let g:=f.2;F β a.1 b.1 c.1 d.1 f.1 g.1 e.2.1.1 (fun y1 => k (.int .i64 y1))
abbrev W187 (F : T187) : WT := wrap s187 (G187 F)
theorem k187 : KO [] noX 187 Tryz.f187 s187 (G187 (P187)) := fun _ _ _ => by kernel_rfl
theorem ok187 : FnOk D 187 (W187 F187) := oW Tryz.func187 (tn) (k187 )
abbrev T216 : Type 1 := (β : Type) → LU → Int → Int → LU → Int → Bool → LU → Int → (Int → Option β) → Option β
def P216 (F187 : T187) : T216 := fun β a b c d f g h left k =>
 br (decide (IntKind.wrap .i64 (left - (a.length : Int)) < 0)) (
 k (-1)) (
 F187 _ b c d f g h (IntKind.wrap .i64 (left - (a.length : Int))) fun n1 =>
 br (decide (n1 < 0)) (
 k (-1)) (
 k n1))
def F216 : T216 := P216 F187
abbrev s216 : List (Bool × List CK) := [(true, q7), (false, [.int .i64])]
def G216 (F : T216) (β : Type) (e : argsT s216) (k : V → Option β) : Option β := let a:=e.1;let b:=a.2;let c:=b.2;let d:=c.2;let f:=d.2;let g:=f.2;let h:=g.2;F β a.1 b.1 c.1 d.1 f.1 g.1 h.1 e.2.1.1 (fun y1 => k (.int .i64 y1))
abbrev W216 (F : T216) : WT := wrap s216 (G216 F)
theorem k216 (F187 : T187) : KO [(187, W187 F187)] noX 216 Tryz.f216 s216 (G216 (P216 F187)) := fun _ _ _ => by kernel_rfl
theorem ok216 : FnOk D 216 (W216 F216) := oW Tryz.func216 (tc ok187 tn) (k216 F187 )
abbrev T188 : Type 1 := T45
def P188 (F216 : T216) : T188 := fun β a left k =>
 br (decide (IntKind.wrap .i64 (left - (a.length : Int)) < 0)) (
 k (-1)) (
 whileK (fun s1 =>
 br (decide ((lI s1 2) < ((lL s1 0).length : Int))) (
 chk (0 ≤ (lI s1 2)) <|
 idx true q7 (lL s1 0) ((lI s1 2).toNat) fun (e2 : r4_) =>
 F216 _ e2.1 e2.2.1 e2.2.2.1 e2.2.2.2.1 e2.2.2.2.2.1 e2.2.2.2.2.2.1 e2.2.2.2.2.2.2.1 (lI s1 1) fun n3 =>
 br (decide (n3 < 0)) (
 some (.inr (0, [.i n3, .i (-1)]))) (
 some (.inl [.l (lL s1 0), .i n3, .i (IntKind.wrap .i64 ((lI s1 2) + 1))]))) (
 some (.inr (1, [.i (lI s1 1)])))) [.l a, .i (IntKind.wrap .i64 (left - (a.length : Int))), .i 0] fun r4 =>
 if r4.1 = 0 then
 k (lI r4.2 1)
 else
 k (lI r4.2 0))
def F188 : T188 := P188 F216
def X188 : Exits := fun i => lookN i [] [(5, [(.ret, xk 27 [(1, .int .i64 0), (4, .int .i64 0)] []), (.exit 0, xk 27 [(1, .int .i64 0)] [])])]
abbrev s188 : List (Bool × List CK) := [(false, [.sl 7 true]), (false, [.int .i64])]
def G188 (F : T188) (β : Type) (e : argsT s188) (k : V → Option β) : Option β := F β e.1.1 e.2.1.1 (fun y1 => k (.int .i64 y1))
abbrev W188 (F : T188) : WT := wrap s188 (G188 F)
theorem k188 (F216 : T216) : KO [(216, W216 F216)] X188 188 Tryz.f188 s188 (G188 (P188 F216)) := fun _ _ _ => by kernel_rfl
theorem ok188 : FnOk D 188 (W188 F188) := oW Tryz.func188 (tc ok216 tn) (k188 F216 )
abbrev T142 : Type 1 := (β : Type) → LU → LsV → Int → (Int → Option β) → Option β
def P142 (F188 : T188) : T142 := fun β a b left k =>
 br (decide (IntKind.wrap .i64 (left - (a.length : Int)) < 0)) (
 k (-1)) (
 F188 _ b (IntKind.wrap .i64 (left - (a.length : Int))) fun n1 =>
 br (decide (n1 < 0)) (
 k (-1)) (
 k n1))
def F142 : T142 := P142 F188
abbrev s142 : List (Bool × List CK) := [(true, [.str, .sl 7 true]), (false, [.int .i64])]
def G142 (F : T142) (β : Type) (e : argsT s142) (k : V → Option β) : Option β := F β e.1.1 e.1.2.1 e.2.1.1 (fun y1 => k (.int .i64 y1))
abbrev W142 (F : T142) : WT := wrap s142 (G142 F)
theorem k142 (F188 : T188) : KO [(188, W188 F188)] noX 142 Tryz.f142 s142 (G142 (P142 F188)) := fun _ _ _ => by kernel_rfl
theorem ok142 : FnOk D 142 (W142 F142) := oW Tryz.func142 (tc ok188 tn) (k142 F188 )
abbrev T86 : Type 1 := T45
def P86 (F142 : T142) : T86 := fun β a left k =>
 br (decide (IntKind.wrap .i64 (left - (a.length : Int)) < 0)) (
 k (-1)) (
 whileK (fun s1 =>
 br (decide ((lI s1 2) < ((lL s1 0).length : Int))) (
 chk (0 ≤ (lI s1 2)) <|
 idx true [.str, .sl 7 true] (lL s1 0) ((lI s1 2).toNat) fun (e2 : r12_) =>
 F142 _ e2.1 e2.2.1 (lI s1 1) fun n3 =>
 br (decide (n3 < 0)) (
 some (.inr (0, [.i n3, .i (-1)]))) (
 some (.inl [.l (lL s1 0), .i n3, .i (IntKind.wrap .i64 ((lI s1 2) + 1))]))) (
 some (.inr (1, [.i (lI s1 1)])))) [.l a, .i (IntKind.wrap .i64 (left - (a.length : Int))), .i 0] fun r4 =>
 if r4.1 = 0 then
 k (lI r4.2 1)
 else
 k (lI r4.2 0))
def F86 : T86 := P86 F142
def X86 : Exits := fun i => lookN i [] [(5, [(.ret, xk 27 [(1, .int .i64 0), (4, .int .i64 0)] []), (.exit 0, xk 27 [(1, .int .i64 0)] [])])]
abbrev s86 : List (Bool × List CK) := [(false, [.sl 2 false]), (false, [.int .i64])]
def G86 (F : T86) (β : Type) (e : argsT s86) (k : V → Option β) : Option β := F β e.1.1 e.2.1.1 (fun y1 => k (.int .i64 y1))
abbrev W86 (F : T86) : WT := wrap s86 (G86 F)
theorem k86 (F142 : T142) : KO [(142, W142 F142)] X86 86 Tryz.f86 s86 (G86 (P86 F142)) := fun _ _ _ => by kernel_rfl
theorem ok86 : FnOk D 86 (W86 F86) := oW Tryz.func86 (tc ok142 tn) (k86 F142 )
abbrev T230 : Type 1 := (β : Type) → LU → LU → LU → Int → Int → LU → Int → Bool → LU → Int → Int → (Int → Option β) → Option β
def P230 (F37 : T37) (F187 : T187) : T230 := fun β a b c d f g h i j l left k =>
 br (decide (IntKind.wrap .i64 (left - (a.length : Int)) < 0)) (
 k (-1)) (
 F37 _ b c (IntKind.wrap .i64 (left - (a.length : Int))) fun n1 =>
 br (decide (n1 < 0)) (
 k (-1)) (
 F187 _ d f g h i j n1 fun n2 =>
 br (decide (n2 < 0)) (
 k (-1)) (
 k n2)))
def F230 : T230 := P230 F37 F187
abbrev s230 : List (Bool × List CK) := [(true, q4), (false, [.int .i64])]
def G230 (F : T230) (β : Type) (e : argsT s230) (k : V → Option β) : Option β := let a:=e.1;let b:=a.2;let c:=b.2;let d:=c.2;let f:=d.2;let g:=f.2;let h:=g.2;let i:=h.2;let j:=i.2;let l:=j.2;F β a.1 b.1 c.1 d.1 f.1 g.1 h.1 i.1 j.1 l.1 e.2.1.1 (fun y1 => k (.int .i64 y1))
abbrev W230 (F : T230) : WT := wrap s230 (G230 F)
theorem k230 (F37 : T37) (F187 : T187) : KO [(37, W37 F37), (187, W187 F187)] noX 230 Tryz.f230 s230 (G230 (P230 F37 F187)) := fun _ _ _ => by kernel_rfl
theorem ok230 : FnOk D 230 (W230 F230) := oW Tryz.func230 (tc ok37 (tc ok187 tn)) (k230 F37 F187 )
abbrev T198 : Type 1 := T45
def P198 (F230 : T230) : T198 := fun β a left k =>
 br (decide (IntKind.wrap .i64 (left - (a.length : Int)) < 0)) (
 k (-1)) (
 whileK (fun s1 =>
 br (decide ((lI s1 2) < ((lL s1 0).length : Int))) (
 chk (0 ≤ (lI s1 2)) <|
 idx true q4 (lL s1 0) ((lI s1 2).toNat) fun (e2 : r9_) =>
 F230 _ e2.1 e2.2.1 e2.2.2.1 e2.2.2.2.1 e2.2.2.2.2.1 e2.2.2.2.2.2.1 e2.2.2.2.2.2.2.1 e2.2.2.2.2.2.2.2.1 e2.2.2.2.2.2.2.2.2.1 e2.2.2.2.2.2.2.2.2.2.1 (lI s1 1) fun n3 =>
 br (decide (n3 < 0)) (
 some (.inr (0, [.i n3, .i (-1)]))) (
 some (.inl [.l (lL s1 0), .i n3, .i (IntKind.wrap .i64 ((lI s1 2) + 1))]))) (
 some (.inr (1, [.i (lI s1 1)])))) [.l a, .i (IntKind.wrap .i64 (left - (a.length : Int))), .i 0] fun r4 =>
 if r4.1 = 0 then
 k (lI r4.2 1)
 else
 k (lI r4.2 0))
def F198 : T198 := P198 F230
def X198 : Exits := fun i => lookN i [] [(5, [(.ret, xk 27 [(1, .int .i64 0), (4, .int .i64 0)] []), (.exit 0, xk 27 [(1, .int .i64 0)] [])])]
abbrev s198 : List (Bool × List CK) := [(false, [.sl 10 true]), (false, [.int .i64])]
def G198 (F : T198) (β : Type) (e : argsT s198) (k : V → Option β) : Option β := F β e.1.1 e.2.1.1 (fun y1 => k (.int .i64 y1))
abbrev W198 (F : T198) : WT := wrap s198 (G198 F)
theorem k198 (F230 : T230) : KO [(230, W230 F230)] X198 198 Tryz.f198 s198 (G198 (P198 F230)) := fun _ _ _ => by kernel_rfl
theorem ok198 : FnOk D 198 (W198 F198) := oW Tryz.func198 (tc ok230 tn) (k198 F230 )
abbrev T161 : Type 1 := T45
def P161 (F198 : T198) : T161 := fun β a left k =>
 F198 _ a left fun n1 =>
 br (decide (n1 < 0)) (
 k (-1)) (
 k n1)
def F161 : T161 := P161 F198
abbrev s161 : List (Bool × List CK) := [(true, [.sl 10 true]), (false, [.int .i64])]
def G161 (F : T161) (β : Type) (e : argsT s161) (k : V → Option β) : Option β := F β e.1.1 e.2.1.1 (fun y1 => k (.int .i64 y1))
abbrev W161 (F : T161) : WT := wrap s161 (G161 F)
theorem k161 (F198 : T198) : KO [(198, W198 F198)] noX 161 Tryz.f161 s161 (G161 (P161 F198)) := fun _ _ _ => by kernel_rfl
theorem ok161 : FnOk D 161 (W161 F161) := oW Tryz.func161 (tc ok198 tn) (k161 F198 )
abbrev T199 : Type 1 := (β : Type) → LU → LU → LU → Bool → Int → (Int → Option β) → Option β
def P199 (F37 : T37) : T199 := fun β a b c d left k =>
 br (decide (IntKind.wrap .i64 (left - (a.length : Int)) < 0)) (
 k (-1)) (
 F37 _ b c (IntKind.wrap .i64 (left - (a.length : Int))) fun n1 =>
 br (decide (n1 < 0)) (
 k (-1)) (
 k n1))
def F199 : T199 := P199 F37
abbrev s199 : List (Bool × List CK) := [(true, q15), (false, [.int .i64])]
def G199 (F : T199) (β : Type) (e : argsT s199) (k : V → Option β) : Option β := F β e.1.1 e.1.2.1 e.1.2.2.1 e.1.2.2.2.1 e.2.1.1 (fun y1 => k (.int .i64 y1))
abbrev W199 (F : T199) : WT := wrap s199 (G199 F)
theorem k199 (F37 : T37) : KO [(37, W37 F37)] noX 199 Tryz.f199 s199 (G199 (P199 F37)) := fun _ _ _ => by kernel_rfl
theorem ok199 : FnOk D 199 (W199 F199) := oW Tryz.func199 (tc ok37 tn) (k199 F37 )
abbrev T162 : Type 1 := T45
def P162 (F199 : T199) : T162 := fun β a left k =>
 br (decide (IntKind.wrap .i64 (left - (a.length : Int)) < 0)) (
 k (-1)) (
 whileK (fun s1 =>
 br (decide ((lI s1 2) < ((lL s1 0).length : Int))) (
 chk (0 ≤ (lI s1 2)) <|
 idx true q15 (lL s1 0) ((lI s1 2).toNat) fun (e2 : r8_) =>
 F199 _ e2.1 e2.2.1 e2.2.2.1 e2.2.2.2.1 (lI s1 1) fun n3 =>
 br (decide (n3 < 0)) (
 some (.inr (0, [.i n3, .i (-1)]))) (
 some (.inl [.l (lL s1 0), .i n3, .i (IntKind.wrap .i64 ((lI s1 2) + 1))]))) (
 some (.inr (1, [.i (lI s1 1)])))) [.l a, .i (IntKind.wrap .i64 (left - (a.length : Int))), .i 0] fun r4 =>
 if r4.1 = 0 then
 k (lI r4.2 1)
 else
 k (lI r4.2 0))
def F162 : T162 := P162 F199
def X162 : Exits := fun i => lookN i [] [(5, [(.ret, xk 27 [(1, .int .i64 0), (4, .int .i64 0)] []), (.exit 0, xk 27 [(1, .int .i64 0)] [])])]
abbrev s162 : List (Bool × List CK) := [(false, [.sl 4 true]), (false, [.int .i64])]
def G162 (F : T162) (β : Type) (e : argsT s162) (k : V → Option β) : Option β := F β e.1.1 e.2.1.1 (fun y1 => k (.int .i64 y1))
abbrev W162 (F : T162) : WT := wrap s162 (G162 F)
theorem k162 (F199 : T199) : KO [(199, W199 F199)] X162 162 Tryz.f162 s162 (G162 (P162 F199)) := fun _ _ _ => by kernel_rfl
theorem ok162 : FnOk D 162 (W162 F162) := oW Tryz.func162 (tc ok199 tn) (k162 F199 )
abbrev T98 : Type 1 := (β : Type) → LsV → LsV → LsV → Int → Int → (Int → Option β) → Option β
def P98 (F86 : T86) (F161 : T161) (F162 : T162) : T98 := fun β a b c d left k =>
 F86 _ a left fun n1 =>
 br (decide (n1 < 0)) (
 k (-1)) (
 F161 _ b n1 fun n2 =>
 br (decide (n2 < 0)) (
 k (-1)) (
 F162 _ c n2 fun n3 =>
 br (decide (n3 < 0)) (
 k (-1)) (
 k n3)))
def F98 : T98 := P98 F86 F161 F162
abbrev s98 : List (Bool × List CK) := [(true, q12), (false, [.int .i64])]
def G98 (F : T98) (β : Type) (e : argsT s98) (k : V → Option β) : Option β := F β e.1.1 e.1.2.1 e.1.2.2.1 e.1.2.2.2.1 e.2.1.1 (fun y1 => k (.int .i64 y1))
abbrev W98 (F : T98) : WT := wrap s98 (G98 F)
theorem k98 (F86 : T86) (F161 : T161) (F162 : T162) : KO [(86, W86 F86), (161, W161 F161), (162, W162 F162)] noX 98 Tryz.f98 s98 (G98 (P98 F86 F161 F162)) := fun _ _ _ => by kernel_rfl
theorem ok98 : FnOk D 98 (W98 F98) := oW Tryz.func98 (tc ok86 (tc ok161 (tc ok162 tn))) (k98 F86 F161 F162 )
abbrev T141 : Type 1 := (β : Type) → LU → LU → Int → Int → LU → Int → Bool → LU → Int → (Int → Option β) → Option β
def P141 (F37 : T37) (F187 : T187) : T141 := fun β a b c d f g h i left k =>
 F37 _ a b left fun n1 =>
 br (decide (n1 < 0)) (
 k (-1)) (
 F187 _ c d f g h i n1 fun n2 =>
 br (decide (n2 < 0)) (
 k (-1)) (
 k n2))
def F141 : T141 := P141 F37 F187
abbrev s141 : List (Bool × List CK) := [(true, q6), (false, [.int .i64])]
def G141 (F : T141) (β : Type) (e : argsT s141) (k : V → Option β) : Option β := let a:=e.1;let b:=a.2;let c:=b.2;let d:=c.2;let f:=d.2;let g:=f.2;let h:=g.2;let i:=h.2;F β a.1 b.1 c.1 d.1 f.1 g.1 h.1 i.1 e.2.1.1 (fun y1 => k (.int .i64 y1))
abbrev W141 (F : T141) : WT := wrap s141 (G141 F)
theorem k141 (F37 : T37) (F187 : T187) : KO [(37, W37 F37), (187, W187 F187)] noX 141 Tryz.f141 s141 (G141 (P141 F37 F187)) := fun _ _ _ => by kernel_rfl
theorem ok141 : FnOk D 141 (W141 F141) := oW Tryz.func141 (tc ok37 (tc ok187 tn)) (k141 F37 F187 )
abbrev T85 : Type 1 := T45
def P85 (F141 : T141) : T85 := fun β a left k =>
 br (decide (IntKind.wrap .i64 (left - (a.length : Int)) < 0)) (
 k (-1)) (
 whileK (fun s1 =>
 br (decide ((lI s1 2) < ((lL s1 0).length : Int))) (
 chk (0 ≤ (lI s1 2)) <|
 idx true q6 (lL s1 0) ((lI s1 2).toNat) fun (e2 : r6_) =>
 F141 _ e2.1 e2.2.1 e2.2.2.1 e2.2.2.2.1 e2.2.2.2.2.1 e2.2.2.2.2.2.1 e2.2.2.2.2.2.2.1 e2.2.2.2.2.2.2.2.1 (lI s1 1) fun n3 =>
 br (decide (n3 < 0)) (
 some (.inr (0, [.i n3, .i (-1)]))) (
 some (.inl [.l (lL s1 0), .i n3, .i (IntKind.wrap .i64 ((lI s1 2) + 1))]))) (
 some (.inr (1, [.i (lI s1 1)])))) [.l a, .i (IntKind.wrap .i64 (left - (a.length : Int))), .i 0] fun r4 =>
 if r4.1 = 0 then
 k (lI r4.2 1)
 else
 k (lI r4.2 0))
def F85 : T85 := P85 F141
def X85 : Exits := fun i => lookN i [] [(5, [(.ret, xk 27 [(1, .int .i64 0), (4, .int .i64 0)] []), (.exit 0, xk 27 [(1, .int .i64 0)] [])])]
abbrev s85 : List (Bool × List CK) := s42
abbrev G85 := G42
abbrev W85 (F : T85) : WT := wrap s85 (G85 F)
theorem k85 (F141 : T141) : KO [(141, W141 F141)] X85 85 Tryz.f85 s85 (G85 (P85 F141)) := fun _ _ _ => by kernel_rfl
theorem ok85 : FnOk D 85 (W85 F85) := oW Tryz.func85 (tc ok141 tn) (k85 F141 )
abbrev T20 : Type 1 := (β : Type) → Bool → LU → LU → Bool → LsV → LsV → LsV → LU → LU → LsV → Bool → LsV → LsV → LsV → LsV → LsV → Int → Int → Int → Int → LsV → LsV → Bool → LsV → LsV → Int → Int → (Int → Option β) → Option β
def P20 (F8 : T8) (F85 : T85) (F86 : T86) : T20 := fun β a1 a b c d f g h i j l m n o p q r s t u v w x y z b1 left k =>
 F8 _ a b c d f g h i j l m n o p q r s t u v w x left fun n1 =>
 br (decide (n1 < 0)) (
 k (-1)) (
 F85 _ y n1 fun n2 =>
 br (decide (n2 < 0)) (
 k (-1)) (
 F86 _ z n2 fun n3 =>
 br (decide (n3 < 0)) (
 k (-1)) (
 k n3)))
def F20 : T20 := P20 F8 F85 F86
abbrev s20 : List (Bool × List CK) := [(true, q3), (false, [.int .i64])]
def G20 (F : T20) (β : Type) (e : argsT s20) (k : V → Option β) : Option β := let a:=e.1;let b:=a.2;let c:=b.2;let d:=c.2;let f:=d.2;let g:=f.2;let h:=g.2;let i:=h.2;let j:=i.2;let l:=j.2;let m:=l.2;let n:=m.2;let o:=n.2;let p:=o.2;let q:=p.2;let r:=q.2;let s:=r.2;let t:=s.2;let u:=t.2;let v:=u.2;let w:=v.2;let x:=w.2;let y:=x.2;let z:=y.2;let a1:=z.2;let b1:=a1.2;F β a.1 b.1 c.1 d.1 f.1 g.1 h.1 i.1 j.1 l.1 m.1 n.1 o.1 p.1 q.1 r.1 s.1 t.1 u.1 v.1 w.1 x.1 y.1 z.1 a1.1 b1.1 e.2.1.1 (fun y1 => k (.int .i64 y1))
abbrev W20 (F : T20) : WT := wrap s20 (G20 F)
theorem k20 (F8 : T8) (F85 : T85) (F86 : T86) : KO [(8, W8 F8), (85, W85 F85), (86, W86 F86)] noX 20 Tryz.f20 s20 (G20 (P20 F8 F85 F86)) := fun _ _ _ => by kernel_rfl
theorem ok20 : FnOk D 20 (W20 F20) := oW Tryz.func20 (tc ok8 (tc ok85 (tc ok86 tn))) (k20 F8 F85 F86 )
abbrev T29 : Type 1 := (β : Type) → LsV → LsV → LsV → Int → LsV → Int → Bool → LU → LU → Bool → LsV → LsV → LsV → LU → LU → LsV → Bool → LsV → LsV → LsV → LsV → LsV → Int → Int → Int → Int → LsV → LsV → Bool → LsV → LsV → Int → Bool → Int → (Int → Option β) → Option β
def P29 (F98 : T98) (F7 : T7) (F20 : T20) : T29 := fun β a b c d f g h i j l m n o p q r s t u v w x y z a1 b1 c1 d1 f1 g1 h1 i1 j1 left k =>
 F98 _ a b c d left fun n1 =>
 br (decide (n1 < 0)) (
 k (-1)) (
 F7 _ f g n1 fun n2 =>
 br (decide (n2 < 0)) (
 k (-1)) (
 F20 _ h i j l m n o p q r s t u v w x y z a1 b1 c1 d1 f1 g1 h1 i1 n2 fun n3 =>
 br (decide (n3 < 0)) (
 k (-1)) (
 k n3)))
def F29 : T29 := P29 F98 F7 F20
abbrev s29 : List (Bool × List CK) := [(true, q1), (false, [.int .i64])]
def G29 (F : T29) (β : Type) (e : argsT s29) (k : V → Option β) : Option β := let a:=e.1;let b:=a.2;let c:=b.2;let d:=c.2;let f:=d.2;let g:=f.2;let h:=g.2;let i:=h.2;let j:=i.2;let l:=j.2;let m:=l.2;let n:=m.2;let o:=n.2;let p:=o.2;let q:=p.2;let r:=q.2;let s:=r.2;let t:=s.2;let u:=t.2;let v:=u.2;let w:=v.2;let x:=w.2;let y:=x.2;let z:=y.2;let a1:=z.2;let b1:=a1.2;let c1:=b1.2;let d1:=c1.2;let f1:=d1.2;let g1:=f1.2;let h1:=g1.2;let i1:=h1.2;let j1:=i1.2;F β a.1 b.1 c.1 d.1 f.1 g.1 h.1 i.1 j.1 l.1 m.1 n.1 o.1 p.1 q.1 r.1 s.1 t.1 u.1 v.1 w.1 x.1 y.1 z.1 a1.1 b1.1 c1.1 d1.1 f1.1 g1.1 h1.1 i1.1 j1.1 e.2.1.1 (fun y1 => k (.int .i64 y1))
abbrev W29 (F : T29) : WT := wrap s29 (G29 F)
theorem k29 (F98 : T98) (F7 : T7) (F20 : T20) : KO [(98, W98 F98), (7, W7 F7), (20, W20 F20)] noX 29 Tryz.f29 s29 (G29 (P29 F98 F7 F20)) := fun _ _ _ => by kernel_rfl
theorem ok29 : FnOk D 29 (W29 F29) := oW Tryz.func29 (tc ok98 (tc ok7 (tc ok20 tn))) (k29 F98 F7 F20 )
abbrev T190 : Type 1 := (β : Type) → Int → Int → LU → Int → Bool → LU → (Int → Int → LU → Int → Bool → LU → Option β) → Option β
def P190 : T190 := fun β a b c d f g k =>
 k a b c d f g
def F190 : T190 := P190
abbrev s190 : List (Bool × List CK) := [(true, q14)]
def G190 (F : T190) (β : Type) (e : argsT s190) (k : V → Option β) : Option β := let a:=e.1;let b:=a.2;let c:=b.2;let d:=c.2;let f:=d.2;let g:=f.2;F β a.1 b.1 c.1 d.1 f.1 g.1 (fun y1 y2 y3 y4 y5 y6 => k (.agg [.int .i64 y1, .int .i64 y2, .str y3, .int .i64 y4, .bool y5, .str y6]))
abbrev W190 (F : T190) : WT := wrap s190 (G190 F)
theorem k190 : KO [] noX 190 Tryz.f190 s190 (G190 (P190)) := fun _ _ _ => by kernel_rfl
theorem ok190 : FnOk D 190 (W190 F190) := oW Tryz.func190 (tn) (k190 )
abbrev T217 : Type 1 := (β : Type) → LU → Int → Int → LU → Int → Bool → LU → (LU → Int → Int → LU → Int → Bool → LU → Option β) → Option β
def P217 (F190 : T190) : T217 := fun β a b c d f g h k =>
 F190 _ b c d f g h fun n1 n2 t3 n4 b5 t6 =>
 k a n1 n2 t3 n4 b5 t6
def F217 : T217 := P217 F190
abbrev s217 : List (Bool × List CK) := [(true, q7)]
def G217 (F : T217) (β : Type) (e : argsT s217) (k : V → Option β) : Option β := let a:=e.1;let b:=a.2;let c:=b.2;let d:=c.2;let f:=d.2;let g:=f.2;let h:=g.2;F β a.1 b.1 c.1 d.1 f.1 g.1 h.1 (fun y1 y2 y3 y4 y5 y6 y7 => k (.agg [.str y1, .int .i64 y2, .int .i64 y3, .str y4, .int .i64 y5, .bool y6, .str y7]))
abbrev W217 (F : T217) : WT := wrap s217 (G217 F)
theorem k217 (F190 : T190) : KO [(190, W190 F190)] noX 217 Tryz.f217 s217 (G217 (P217 F190)) := fun _ _ _ => by kernel_rfl
theorem ok217 : FnOk D 217 (W217 F217) := oW Tryz.func217 (tc ok190 tn) (k217 F190 )
abbrev T191 : Type 1 := T58
def P191 (F217 : T217) : T191 := fun β a k =>
 chk (0 ≤ (a.length : Int) ∧ (a.length : Int) ≤ (a.length : Int) ∧ (a.length : Int) * 80 ≤ 140737488355328 ∧ (a.length : Int) ≤ 140737488355328) <|
 whileK (fun s1 =>
 br (decide ((lI s1 2) < ((lL s1 0).length : Int))) (
 chk (0 ≤ (lI s1 2)) <|
 idx true q7 (lL s1 0) ((lI s1 2).toNat) fun (e2 : r4_) =>
 F217 _ e2.1 e2.2.1 e2.2.2.1 e2.2.2.2.1 e2.2.2.2.2.1 e2.2.2.2.2.2.1 e2.2.2.2.2.2.2.1 fun t3 n4 n5 t6 n7 b8 t9 =>
 chk (0 ≤ (lI s1 2) ∧ (lI s1 2).toNat < (lL s1 1).length) <|
 storeO (lL s1 1) ((lI s1 2).toNat) 0 [.str t3, .int .i64 n4, .int .i64 n5, .str t6, .int .i64 n7, .bool b8, .str t9] fun l10 =>
 some (.inl [.l (lL s1 0), .l l10, .i (IntKind.wrap .i64 ((lI s1 2) + 1))])) (
 some (.inr (0, [.l (lL s1 1)])))) [.l a, .l (List.replicate ((a.length : Int).toNat) (.agg [.str [], .int .i64 0, .int .i64 0, .str [], .int .i64 0, .bool false, .str []])), .i 0] fun r11 =>
 k (lL r11.2 0)
def F191 : T191 := P191 F217
def X191 : Exits := fun i => lookN i [] [(3, [(.exit 0, xk 23 [(3, .own 1000000 7 .flat [])] [])])]
abbrev s191 : List (Bool × List CK) := [(false, [.sl 7 true])]
def G191 (F : T191) (β : Type) (e : argsT s191) (k : V → Option β) : Option β := F β e.1.1 (fun y1 => k (.own 0 7 .flat y1))
abbrev W191 (F : T191) : WT := wrap s191 (G191 F)
theorem k191 (F217 : T217) : KO [(217, W217 F217)] X191 191 Tryz.f191 s191 (G191 (P191 F217)) := fun _ _ _ => by kernel_rfl
theorem ok191 : FnOk D 191 (W191 F191) := oW Tryz.func191 (tc ok217 tn) (k191 F217 )
abbrev T150 : Type 1 := (β : Type) → LU → LsV → (LU → LsV → Option β) → Option β
def P150 (F191 : T191) : T150 := fun β a b k =>
 F191 _ b fun l1 =>
 k a l1
def F150 : T150 := P150 F191
abbrev s150 : List (Bool × List CK) := [(true, [.str, .sl 7 true])]
def G150 (F : T150) (β : Type) (e : argsT s150) (k : V → Option β) : Option β := F β e.1.1 e.1.2.1 (fun y1 y2 => k (.agg [.str y1, .own 1 7 .flat y2]))
abbrev W150 (F : T150) : WT := wrap s150 (G150 F)
theorem k150 (F191 : T191) : KO [(191, W191 F191)] noX 150 Tryz.f150 s150 (G150 (P150 F191)) := fun _ _ _ => by kernel_rfl
theorem ok150 : FnOk D 150 (W150 F150) := oW Tryz.func150 (tc ok191 tn) (k150 F191 )
abbrev T90 : Type 1 := T58
def P90 (F150 : T150) : T90 := fun β a k =>
 chk (0 ≤ (a.length : Int) ∧ (a.length : Int) ≤ (a.length : Int) ∧ (a.length : Int) * 40 ≤ 140737488355328 ∧ (a.length : Int) ≤ 140737488355328) <|
 whileK (fun s1 =>
 br (decide ((lI s1 2) < ((lL s1 0).length : Int))) (
 chk (0 ≤ (lI s1 2)) <|
 idx true [.str, .sl 7 true] (lL s1 0) ((lI s1 2).toNat) fun (e2 : r12_) =>
 F150 _ e2.1 e2.2.1 fun t3 l4 =>
 chk (0 ≤ (lI s1 2) ∧ (lI s1 2).toNat < (lL s1 1).length) <|
 storeO (lL s1 1) ((lI s1 2).toNat) 0 [.str t3, .sl 7 true l4] fun l5 =>
 some (.inl [.l (lL s1 0), .l l5, .i (IntKind.wrap .i64 ((lI s1 2) + 1))])) (
 some (.inr (0, [.l (lL s1 1)])))) [.l a, .l (List.replicate ((a.length : Int).toNat) (.agg [.str [], .sl 7 true []])), .i 0] fun r6 =>
 k (lL r6.2 0)
def F90 : T90 := P90 F150
def X90 : Exits := fun i => lookN i [] [(3, [(.exit 0, xk 23 [(3, .own 1000000 2 .clean [])] [])])]
abbrev s90 : List (Bool × List CK) := [(false, [.sl 2 false])]
def G90 (F : T90) (β : Type) (e : argsT s90) (k : V → Option β) : Option β := F β e.1.1 (fun y1 => k (.own 0 2 .clean y1))
abbrev W90 (F : T90) : WT := wrap s90 (G90 F)
theorem k90 (F150 : T150) : KO [(150, W150 F150)] X90 90 Tryz.f90 s90 (G90 (P90 F150)) := fun _ _ _ => by kernel_rfl
theorem ok90 : FnOk D 90 (W90 F90) := oW Tryz.func90 (tc ok150 tn) (k90 F150 )
abbrev T231 : Type 1 := (β : Type) → LU → LU → LU → Int → Int → LU → Int → Bool → LU → Int → (LU → LU → LU → Int → Int → LU → Int → Bool → LU → Int → Option β) → Option β
def P231 (F50 : T50) (F190 : T190) : T231 := fun β a b c d f g h i j l k =>
 F50 _ b c fun t1 t2 =>
 F190 _ d f g h i j fun n3 n4 t5 n6 b7 t8 =>
 k a t1 t2 n3 n4 t5 n6 b7 t8 l
def F231 : T231 := P231 F50 F190
abbrev s231 : List (Bool × List CK) := [(true, q4)]
def G231 (F : T231) (β : Type) (e : argsT s231) (k : V → Option β) : Option β := let a:=e.1;let b:=a.2;let c:=b.2;let d:=c.2;let f:=d.2;let g:=f.2;let h:=g.2;let i:=h.2;let j:=i.2;let l:=j.2;F β a.1 b.1 c.1 d.1 f.1 g.1 h.1 i.1 j.1 l.1 (fun y1 y2 y3 y4 y5 y6 y7 y8 y9 y10 => k (.agg [.str y1, .str y2, .str y3, .int .i64 y4, .int .i64 y5, .str y6, .int .i64 y7, .bool y8, .str y9, .int .i64 y10]))
abbrev W231 (F : T231) : WT := wrap s231 (G231 F)
theorem k231 (F50 : T50) (F190 : T190) : KO [(50, W50 F50), (190, W190 F190)] noX 231 Tryz.f231 s231 (G231 (P231 F50 F190)) := fun _ _ _ => by kernel_rfl
theorem ok231 : FnOk D 231 (W231 F231) := oW Tryz.func231 (tc ok50 (tc ok190 tn)) (k231 F50 F190 )
abbrev T202 : Type 1 := T58
def P202 (F231 : T231) : T202 := fun β a k =>
 chk (0 ≤ (a.length : Int) ∧ (a.length : Int) ≤ (a.length : Int) ∧ (a.length : Int) * 120 ≤ 140737488355328 ∧ (a.length : Int) ≤ 140737488355328) <|
 whileK (fun s1 =>
 br (decide ((lI s1 2) < ((lL s1 0).length : Int))) (
 chk (0 ≤ (lI s1 2)) <|
 idx true q4 (lL s1 0) ((lI s1 2).toNat) fun (e2 : r9_) =>
 F231 _ e2.1 e2.2.1 e2.2.2.1 e2.2.2.2.1 e2.2.2.2.2.1 e2.2.2.2.2.2.1 e2.2.2.2.2.2.2.1 e2.2.2.2.2.2.2.2.1 e2.2.2.2.2.2.2.2.2.1 e2.2.2.2.2.2.2.2.2.2.1 fun t3 t4 t5 n6 n7 t8 n9 b10 t11 n12 =>
 chk (0 ≤ (lI s1 2) ∧ (lI s1 2).toNat < (lL s1 1).length) <|
 storeO (lL s1 1) ((lI s1 2).toNat) 0 [.str t3, .str t4, .str t5, .int .i64 n6, .int .i64 n7, .str t8, .int .i64 n9, .bool b10, .str t11, .int .i64 n12] fun l13 =>
 some (.inl [.l (lL s1 0), .l l13, .i (IntKind.wrap .i64 ((lI s1 2) + 1))])) (
 some (.inr (0, [.l (lL s1 1)])))) [.l a, .l (List.replicate ((a.length : Int).toNat) (.agg [.str [], .str [], .str [], .int .i64 0, .int .i64 0, .str [], .int .i64 0, .bool false, .str [], .int .i64 0])), .i 0] fun r14 =>
 k (lL r14.2 0)
def F202 : T202 := P202 F231
def X202 : Exits := fun i => lookN i [] [(3, [(.exit 0, xk 23 [(3, .own 1000000 10 .flat [])] [])])]
abbrev s202 : List (Bool × List CK) := [(false, [.sl 10 true])]
def G202 (F : T202) (β : Type) (e : argsT s202) (k : V → Option β) : Option β := F β e.1.1 (fun y1 => k (.own 0 10 .flat y1))
abbrev W202 (F : T202) : WT := wrap s202 (G202 F)
theorem k202 (F231 : T231) : KO [(231, W231 F231)] X202 202 Tryz.f202 s202 (G202 (P202 F231)) := fun _ _ _ => by kernel_rfl
theorem ok202 : FnOk D 202 (W202 F202) := oW Tryz.func202 (tc ok231 tn) (k202 F231 )
abbrev T165 : Type 1 := T58
def P165 (F202 : T202) : T165 := fun β a k =>
 F202 _ a fun l1 =>
 k l1
def F165 : T165 := P165 F202
abbrev s165 : List (Bool × List CK) := [(true, [.sl 10 true])]
def G165 (F : T165) (β : Type) (e : argsT s165) (k : V → Option β) : Option β := F β e.1.1 (fun y1 => k (.agg [.own 0 10 .flat y1]))
abbrev W165 (F : T165) : WT := wrap s165 (G165 F)
theorem k165 (F202 : T202) : KO [(202, W202 F202)] noX 165 Tryz.f165 s165 (G165 (P165 F202)) := fun _ _ _ => by kernel_rfl
theorem ok165 : FnOk D 165 (W165 F165) := oW Tryz.func165 (tc ok202 tn) (k165 F202 )
abbrev T203 : Type 1 := (β : Type) → LU → LU → LU → Bool → (LU → LU → LU → Bool → Option β) → Option β
def P203 (F50 : T50) : T203 := fun β a b c d k =>
 F50 _ b c fun t1 t2 =>
 k a t1 t2 d
def F203 : T203 := P203 F50
abbrev s203 : List (Bool × List CK) := [(true, q15)]
def G203 (F : T203) (β : Type) (e : argsT s203) (k : V → Option β) : Option β := F β e.1.1 e.1.2.1 e.1.2.2.1 e.1.2.2.2.1 (fun y1 y2 y3 y4 => k (.agg [.str y1, .str y2, .str y3, .bool y4]))
abbrev W203 (F : T203) : WT := wrap s203 (G203 F)
theorem k203 (F50 : T50) : KO [(50, W50 F50)] noX 203 Tryz.f203 s203 (G203 (P203 F50)) := fun _ _ _ => by kernel_rfl
theorem ok203 : FnOk D 203 (W203 F203) := oW Tryz.func203 (tc ok50 tn) (k203 F50 )
abbrev T166 : Type 1 := T58
def P166 (F203 : T203) : T166 := fun β a k =>
 chk (0 ≤ (a.length : Int) ∧ (a.length : Int) ≤ (a.length : Int) ∧ (a.length : Int) * 56 ≤ 140737488355328 ∧ (a.length : Int) ≤ 140737488355328) <|
 whileK (fun s1 =>
 br (decide ((lI s1 2) < ((lL s1 0).length : Int))) (
 chk (0 ≤ (lI s1 2)) <|
 idx true q15 (lL s1 0) ((lI s1 2).toNat) fun (e2 : r8_) =>
 F203 _ e2.1 e2.2.1 e2.2.2.1 e2.2.2.2.1 fun t3 t4 t5 b6 =>
 chk (0 ≤ (lI s1 2) ∧ (lI s1 2).toNat < (lL s1 1).length) <|
 storeO (lL s1 1) ((lI s1 2).toNat) 0 [.str t3, .str t4, .str t5, .bool b6] fun l7 =>
 some (.inl [.l (lL s1 0), .l l7, .i (IntKind.wrap .i64 ((lI s1 2) + 1))])) (
 some (.inr (0, [.l (lL s1 1)])))) [.l a, .l (List.replicate ((a.length : Int).toNat) (.agg [.str [], .str [], .str [], .bool false])), .i 0] fun r8 =>
 k (lL r8.2 0)
def F166 : T166 := P166 F203
def X166 : Exits := fun i => lookN i [] [(3, [(.exit 0, xk 23 [(3, .own 1000000 4 .flat [])] [])])]
abbrev s166 : List (Bool × List CK) := [(false, [.sl 4 true])]
def G166 (F : T166) (β : Type) (e : argsT s166) (k : V → Option β) : Option β := F β e.1.1 (fun y1 => k (.own 0 4 .flat y1))
abbrev W166 (F : T166) : WT := wrap s166 (G166 F)
theorem k166 (F203 : T203) : KO [(203, W203 F203)] X166 166 Tryz.f166 s166 (G166 (P166 F203)) := fun _ _ _ => by kernel_rfl
theorem ok166 : FnOk D 166 (W166 F166) := oW Tryz.func166 (tc ok203 tn) (k166 F203 )
abbrev T100 : Type 1 := (β : Type) → LsV → LsV → LsV → Int → (LsV → LsV → LsV → Int → Option β) → Option β
def P100 (F90 : T90) (F165 : T165) (F166 : T166) : T100 := fun β a b c d k =>
 F90 _ a fun l1 =>
 F165 _ b fun l2 =>
 F166 _ c fun l3 =>
 k l1 l2 l3 d
def F100 : T100 := P100 F90 F165 F166
abbrev s100 : List (Bool × List CK) := [(true, q12)]
def G100 (F : T100) (β : Type) (e : argsT s100) (k : V → Option β) : Option β := F β e.1.1 e.1.2.1 e.1.2.2.1 e.1.2.2.2.1 (fun y1 y2 y3 y4 => k (.agg [.own 0 2 .clean y1, .own 1 10 .flat y2, .own 2 4 .flat y3, .int .i64 y4]))
abbrev W100 (F : T100) : WT := wrap s100 (G100 F)
theorem k100 (F90 : T90) (F165 : T165) (F166 : T166) : KO [(90, W90 F90), (165, W165 F165), (166, W166 F166)] noX 100 Tryz.f100 s100 (G100 (P100 F90 F165 F166)) := fun _ _ _ => by kernel_rfl
theorem ok100 : FnOk D 100 (W100 F100) := oW Tryz.func100 (tc ok90 (tc ok165 (tc ok166 tn))) (k100 F90 F165 F166 )
abbrev T149 : Type 1 := (β : Type) → LU → LU → Int → Int → LU → Int → Bool → LU → (LU → LU → Int → Int → LU → Int → Bool → LU → Option β) → Option β
def P149 (F50 : T50) (F190 : T190) : T149 := fun β a b c d f g h i k =>
 F50 _ a b fun t1 t2 =>
 F190 _ c d f g h i fun n3 n4 t5 n6 b7 t8 =>
 k t1 t2 n3 n4 t5 n6 b7 t8
def F149 : T149 := P149 F50 F190
abbrev s149 : List (Bool × List CK) := [(true, q6)]
def G149 (F : T149) (β : Type) (e : argsT s149) (k : V → Option β) : Option β := let a:=e.1;let b:=a.2;let c:=b.2;let d:=c.2;let f:=d.2;let g:=f.2;let h:=g.2;let i:=h.2;F β a.1 b.1 c.1 d.1 f.1 g.1 h.1 i.1 (fun y1 y2 y3 y4 y5 y6 y7 y8 => k (.agg [.str y1, .str y2, .int .i64 y3, .int .i64 y4, .str y5, .int .i64 y6, .bool y7, .str y8]))
abbrev W149 (F : T149) : WT := wrap s149 (G149 F)
theorem k149 (F50 : T50) (F190 : T190) : KO [(50, W50 F50), (190, W190 F190)] noX 149 Tryz.f149 s149 (G149 (P149 F50 F190)) := fun _ _ _ => by kernel_rfl
theorem ok149 : FnOk D 149 (W149 F149) := oW Tryz.func149 (tc ok50 (tc ok190 tn)) (k149 F50 F190 )
abbrev T89 : Type 1 := T58
def P89 (F149 : T149) : T89 := fun β a k =>
 chk (0 ≤ (a.length : Int) ∧ (a.length : Int) ≤ (a.length : Int) ∧ (a.length : Int) * 96 ≤ 140737488355328 ∧ (a.length : Int) ≤ 140737488355328) <|
 whileK (fun s1 =>
 br (decide ((lI s1 2) < ((lL s1 0).length : Int))) (
 chk (0 ≤ (lI s1 2)) <|
 idx true q6 (lL s1 0) ((lI s1 2).toNat) fun (e2 : r6_) =>
 F149 _ e2.1 e2.2.1 e2.2.2.1 e2.2.2.2.1 e2.2.2.2.2.1 e2.2.2.2.2.2.1 e2.2.2.2.2.2.2.1 e2.2.2.2.2.2.2.2.1 fun t3 t4 n5 n6 t7 n8 b9 t10 =>
 chk (0 ≤ (lI s1 2) ∧ (lI s1 2).toNat < (lL s1 1).length) <|
 storeO (lL s1 1) ((lI s1 2).toNat) 0 [.str t3, .str t4, .int .i64 n5, .int .i64 n6, .str t7, .int .i64 n8, .bool b9, .str t10] fun l11 =>
 some (.inl [.l (lL s1 0), .l l11, .i (IntKind.wrap .i64 ((lI s1 2) + 1))])) (
 some (.inr (0, [.l (lL s1 1)])))) [.l a, .l (List.replicate ((a.length : Int).toNat) (.agg [.str [], .str [], .int .i64 0, .int .i64 0, .str [], .int .i64 0, .bool false, .str []])), .i 0] fun r12 =>
 k (lL r12.2 0)
def F89 : T89 := P89 F149
def X89 : Exits := fun i => lookN i [] [(3, [(.exit 0, xk 23 [(3, .own 1000000 8 .flat [])] [])])]
abbrev s89 : List (Bool × List CK) := s55
abbrev G89 := G55
abbrev W89 (F : T89) : WT := wrap s89 (G89 F)
theorem k89 (F149 : T149) : KO [(149, W149 F149)] X89 89 Tryz.f89 s89 (G89 (P89 F149)) := fun _ _ _ => by kernel_rfl
theorem ok89 : FnOk D 89 (W89 F89) := oW Tryz.func89 (tc ok149 tn) (k89 F149 )
abbrev T22 : Type 1 := (β : Type) → Bool → LU → LU → Bool → LsV → LsV → LsV → LU → LU → LsV → Bool → LsV → LsV → LsV → LsV → LsV → Int → Int → Int → Int → LsV → LsV → Bool → LsV → LsV → Int → (Bool → LU → LU → Bool → LsV → LsV → LsV → LU → LU → LsV → Bool → LsV → LsV → LsV → LsV → LsV → Int → Int → Int → Int → LsV → LsV → Bool → LsV → LsV → Int → Option β) → Option β
def P22 (F11 : T11) (F89 : T89) (F90 : T90) : T22 := fun β a b c d f g h i j l m n o p q r s t u v w x y z a1 b1 k =>
 F11 _ b c d f g h i j l m n o p q r s t u v w x y fun t1 t2 b3 l4 l5 l6 t7 t8 l9 b10 l11 l12 l13 l14 l15 n16 n17 n18 n19 l20 l21 b22 =>
 F89 _ z fun l23 =>
 F90 _ a1 fun l24 =>
 k a t1 t2 b3 l4 l5 l6 t7 t8 l9 b10 l11 l12 l13 l14 l15 n16 n17 n18 n19 l20 l21 b22 l23 l24 b1
def F22 : T22 := P22 F11 F89 F90
abbrev s22 : List (Bool × List CK) := [(true, q3)]
def G22 (F : T22) (β : Type) (e : argsT s22) (k : V → Option β) : Option β := let a:=e.1;let b:=a.2;let c:=b.2;let d:=c.2;let f:=d.2;let g:=f.2;let h:=g.2;let i:=h.2;let j:=i.2;let l:=j.2;let m:=l.2;let n:=m.2;let o:=n.2;let p:=o.2;let q:=p.2;let r:=q.2;let s:=r.2;let t:=s.2;let u:=t.2;let v:=u.2;let w:=v.2;let x:=w.2;let y:=x.2;let z:=y.2;let a1:=z.2;let b1:=a1.2;F β a.1 b.1 c.1 d.1 f.1 g.1 h.1 i.1 j.1 l.1 m.1 n.1 o.1 p.1 q.1 r.1 s.1 t.1 u.1 v.1 w.1 x.1 y.1 z.1 a1.1 b1.1 (fun y1 y2 y3 y4 y5 y6 y7 y8 y9 y10 y11 y12 y13 y14 y15 y16 y17 y18 y19 y20 y21 y22 y23 y24 y25 y26 => k (.agg [.bool y1, .str y2, .str y3, .bool y4, .own 4 1 .flat y5, .own 5 1 .flat y6, .own 6 1 .flat y7, .str y8, .str y9, .own 9 4 .clean y10, .bool y11, .own 11 4 .clean y12, .own 12 1 .flat y13, .own 13 8 .flat y14, .own 14 5 .flat y15, .own 15 2 .flat y16, .int .i64 y17, .int .i64 y18, .int .i64 y19, .int .i64 y20, .own 20 2 .flat y21, .own 21 1 .flat y22, .bool y23, .own 23 8 .flat y24, .own 24 2 .clean y25, .int .i64 y26]))
abbrev W22 (F : T22) : WT := wrap s22 (G22 F)
theorem k22 (F11 : T11) (F89 : T89) (F90 : T90) : KO [(11, W11 F11), (89, W89 F89), (90, W90 F90)] noX 22 Tryz.f22 s22 (G22 (P22 F11 F89 F90)) := fun _ _ _ => by kernel_rfl
theorem ok22 : FnOk D 22 (W22 F22) := oW Tryz.func22 (tc ok11 (tc ok89 (tc ok90 tn))) (k22 F11 F89 F90 )
abbrev T31 : Type 1 := (β : Type) → LsV → LsV → LsV → Int → LsV → Int → Bool → LU → LU → Bool → LsV → LsV → LsV → LU → LU → LsV → Bool → LsV → LsV → LsV → LsV → LsV → Int → Int → Int → Int → LsV → LsV → Bool → LsV → LsV → Int → Bool → (LsV → LsV → LsV → Int → LsV → Int → Bool → LU → LU → Bool → LsV → LsV → LsV → LU → LU → LsV → Bool → LsV → LsV → LsV → LsV → LsV → Int → Int → Int → Int → LsV → LsV → Bool → LsV → LsV → Int → Bool → Option β) → Option β
def P31 (F100 : T100) (F10 : T10) (F22 : T22) : T31 := fun β a b c d f g h i j l m n o p q r s t u v w x y z a1 b1 c1 d1 f1 g1 h1 i1 j1 k =>
 F100 _ a b c d fun l1 l2 l3 n4 =>
 F10 _ f g fun l5 n6 =>
 F22 _ h i j l m n o p q r s t u v w x y z a1 b1 c1 d1 f1 g1 h1 i1 fun b7 t8 t9 b10 l11 l12 l13 t14 t15 l16 b17 l18 l19 l20 l21 l22 n23 n24 n25 n26 l27 l28 b29 l30 l31 n32 =>
 k l1 l2 l3 n4 l5 n6 b7 t8 t9 b10 l11 l12 l13 t14 t15 l16 b17 l18 l19 l20 l21 l22 n23 n24 n25 n26 l27 l28 b29 l30 l31 n32 j1
def F31 : T31 := P31 F100 F10 F22
abbrev s31 : List (Bool × List CK) := [(true, q1)]
def G31 (F : T31) (β : Type) (e : argsT s31) (k : V → Option β) : Option β := let a:=e.1;let b:=a.2;let c:=b.2;let d:=c.2;let f:=d.2;let g:=f.2;let h:=g.2;let i:=h.2;let j:=i.2;let l:=j.2;let m:=l.2;let n:=m.2;let o:=n.2;let p:=o.2;let q:=p.2;let r:=q.2;let s:=r.2;let t:=s.2;let u:=t.2;let v:=u.2;let w:=v.2;let x:=w.2;let y:=x.2;let z:=y.2;let a1:=z.2;let b1:=a1.2;let c1:=b1.2;let d1:=c1.2;let f1:=d1.2;let g1:=f1.2;let h1:=g1.2;let i1:=h1.2;let j1:=i1.2;F β a.1 b.1 c.1 d.1 f.1 g.1 h.1 i.1 j.1 l.1 m.1 n.1 o.1 p.1 q.1 r.1 s.1 t.1 u.1 v.1 w.1 x.1 y.1 z.1 a1.1 b1.1 c1.1 d1.1 f1.1 g1.1 h1.1 i1.1 j1.1 (fun y1 y2 y3 y4 y5 y6 y7 y8 y9 y10 y11 y12 y13 y14 y15 y16 y17 y18 y19 y20 y21 y22 y23 y24 y25 y26 y27 y28 y29 y30 y31 y32 y33 => k (.agg [.own 0 2 .clean y1, .own 1 10 .flat y2, .own 2 4 .flat y3, .int .i64 y4, .own 4 25 .clean y5, .int .i64 y6, .bool y7, .str y8, .str y9, .bool y10, .own 10 1 .flat y11, .own 11 1 .flat y12, .own 12 1 .flat y13, .str y14, .str y15, .own 15 4 .clean y16, .bool y17, .own 17 4 .clean y18, .own 18 1 .flat y19, .own 19 8 .flat y20, .own 20 5 .flat y21, .own 21 2 .flat y22, .int .i64 y23, .int .i64 y24, .int .i64 y25, .int .i64 y26, .own 26 2 .flat y27, .own 27 1 .flat y28, .bool y29, .own 29 8 .flat y30, .own 30 2 .clean y31, .int .i64 y32, .bool y33]))
abbrev W31 (F : T31) : WT := wrap s31 (G31 F)
theorem k31 (F100 : T100) (F10 : T10) (F22 : T22) : KO [(100, W100 F100), (10, W10 F10), (22, W22 F22)] noX 31 Tryz.f31 s31 (G31 (P31 F100 F10 F22)) := fun _ _ _ => by kernel_rfl
theorem ok31 : FnOk D 31 (W31 F31) := oW Tryz.func31 (tc ok100 (tc ok10 (tc ok22 tn))) (k31 F100 F10 F22 )
abbrev T196 : Type 1 := (β : Type) → Int → Int → LU → Int → Bool → LU → Int → Int → LU → Int → Bool → LU → (Bool → Option β) → Option β
def P196 : T196 := fun β a b c d f g h i j l m n k =>
 br (a != h) (
 k false) (
 br (b != i) (
 k false) (
 br (!(c == j)) (
 k false) (
 br (d != l) (
 k false) (
 br (!(f == m)) (
 k false) (
 br (!(g == n)) (
 k false) (
 k true))))))
def F196 : T196 := P196
abbrev s196 : List (Bool × List CK) := [(true, q14), (true, q14)]
def G196 (F : T196) (β : Type) (e : argsT s196) (k : V → Option β) : Option β := let a:=e.1;let b:=a.2;let c:=b.2;let d:=c.2;let f:=d.2;let g:=f.2;let h:=e.2.1;let i:=h.2;let j:=i.2;let l:=j.2;let m:=l.2;let n:=m.2;F β a.1 b.1 c.1 d.1 f.1 g.1 h.1 i.1 j.1 l.1 m.1 n.1 (fun y1 => k (.bool y1))
abbrev W196 (F : T196) : WT := wrap s196 (G196 F)
theorem k196 : KO [] noX 196 Tryz.f196 s196 (G196 (P196)) := fun _ _ _ => by kernel_rfl
theorem ok196 : FnOk D 196 (W196 F196) := oW Tryz.func196 (tn) (k196 )
abbrev T229 : Type 1 := (β : Type) → LU → Int → Int → LU → Int → Bool → LU → LU → Int → Int → LU → Int → Bool → LU → (Bool → Option β) → Option β
def P229 (F196 : T196) : T229 := fun β a b c d f g h i j l m n o p k =>
 br (!(a == i)) (
 k false) (
 F196 _ b c d f g h j l m n o p fun b1 =>
 br (!b1) (
 k false) (
 k true))
def F229 : T229 := P229 F196
abbrev s229 : List (Bool × List CK) := [(true, q7), (true, q7)]
def G229 (F : T229) (β : Type) (e : argsT s229) (k : V → Option β) : Option β := let a:=e.1;let b:=a.2;let c:=b.2;let d:=c.2;let f:=d.2;let g:=f.2;let h:=g.2;let i:=e.2.1;let j:=i.2;let l:=j.2;let m:=l.2;let n:=m.2;let o:=n.2;let p:=o.2;F β a.1 b.1 c.1 d.1 f.1 g.1 h.1 i.1 j.1 l.1 m.1 n.1 o.1 p.1 (fun y1 => k (.bool y1))
abbrev W229 (F : T229) : WT := wrap s229 (G229 F)
theorem k229 (F196 : T196) : KO [(196, W196 F196)] noX 229 Tryz.f229 s229 (G229 (P229 F196)) := fun _ _ _ => by kernel_rfl
theorem ok229 : FnOk D 229 (W229 F229) := oW Tryz.func229 (tc ok196 tn) (k229 F196 )
abbrev T197 : Type 1 := T70
def P197 (F229 : T229) : T197 := fun β a b k =>
 br ((a.length : Int) != (b.length : Int)) (
 k false) (
 whileK (fun s1 =>
 br (decide ((lI s1 2) < ((lL s1 0).length : Int))) (
 chk (0 ≤ (lI s1 2)) <|
 idx true q7 (lL s1 0) ((lI s1 2).toNat) fun (e2 : r4_) =>
 chk (0 ≤ (lI s1 2)) <|
 idx true q7 (lL s1 1) ((lI s1 2).toNat) fun (e3 : r4_) =>
 F229 _ e2.1 e2.2.1 e2.2.2.1 e2.2.2.2.1 e2.2.2.2.2.1 e2.2.2.2.2.2.1 e2.2.2.2.2.2.2.1 e3.1 e3.2.1 e3.2.2.1 e3.2.2.2.1 e3.2.2.2.2.1 e3.2.2.2.2.2.1 e3.2.2.2.2.2.2.1 fun b4 =>
 br (!b4) (
 some (.inr (0, [.b false]))) (
 some (.inl [.l (lL s1 0), .l (lL s1 1), .i (IntKind.wrap .i64 ((lI s1 2) + 1))]))) (
 some (.inr (1, [])))) [.l a, .l b, .i 0] fun r5 =>
 if r5.1 = 0 then
 k (lB r5.2 0)
 else
 k true)
def F197 : T197 := P197 F229
def X197 : Exits := fun i => lookN i [] [(4, [(.ret, xk 27 [(4, .bool false)] []), (.exit 0, xk 27 [] [])])]
abbrev s197 : List (Bool × List CK) := [(false, [.sl 7 true]), (false, [.sl 7 true])]
def G197 (F : T197) (β : Type) (e : argsT s197) (k : V → Option β) : Option β := F β e.1.1 e.2.1.1 (fun y1 => k (.bool y1))
abbrev W197 (F : T197) : WT := wrap s197 (G197 F)
theorem k197 (F229 : T229) : KO [(229, W229 F229)] X197 197 Tryz.f197 s197 (G197 (P197 F229)) := fun _ _ _ => by kernel_rfl
theorem ok197 : FnOk D 197 (W197 F197) := oW Tryz.func197 (tc ok229 tn) (k197 F229 )
abbrev T159 : Type 1 := (β : Type) → LU → LsV → LU → LsV → (Bool → Option β) → Option β
def P159 (F197 : T197) : T159 := fun β a b c d k =>
 br (!(a == c)) (
 k false) (
 F197 _ b d fun b1 =>
 br (!b1) (
 k false) (
 k true))
def F159 : T159 := P159 F197
abbrev s159 : List (Bool × List CK) := [(true, [.str, .sl 7 true]), (true, [.str, .sl 7 true])]
def G159 (F : T159) (β : Type) (e : argsT s159) (k : V → Option β) : Option β := F β e.1.1 e.1.2.1 e.2.1.1 e.2.1.2.1 (fun y1 => k (.bool y1))
abbrev W159 (F : T159) : WT := wrap s159 (G159 F)
theorem k159 (F197 : T197) : KO [(197, W197 F197)] noX 159 Tryz.f159 s159 (G159 (P159 F197)) := fun _ _ _ => by kernel_rfl
theorem ok159 : FnOk D 159 (W159 F159) := oW Tryz.func159 (tc ok197 tn) (k159 F197 )
abbrev T94 : Type 1 := T70
def P94 (F159 : T159) : T94 := fun β a b k =>
 br ((a.length : Int) != (b.length : Int)) (
 k false) (
 whileK (fun s1 =>
 br (decide ((lI s1 2) < ((lL s1 0).length : Int))) (
 chk (0 ≤ (lI s1 2)) <|
 idx true [.str, .sl 7 true] (lL s1 0) ((lI s1 2).toNat) fun (e2 : r12_) =>
 chk (0 ≤ (lI s1 2)) <|
 idx true [.str, .sl 7 true] (lL s1 1) ((lI s1 2).toNat) fun (e3 : r12_) =>
 F159 _ e2.1 e2.2.1 e3.1 e3.2.1 fun b4 =>
 br (!b4) (
 some (.inr (0, [.b false]))) (
 some (.inl [.l (lL s1 0), .l (lL s1 1), .i (IntKind.wrap .i64 ((lI s1 2) + 1))]))) (
 some (.inr (1, [])))) [.l a, .l b, .i 0] fun r5 =>
 if r5.1 = 0 then
 k (lB r5.2 0)
 else
 k true)
def F94 : T94 := P94 F159
def X94 : Exits := fun i => lookN i [] [(4, [(.ret, xk 27 [(4, .bool false)] []), (.exit 0, xk 27 [] [])])]
abbrev s94 : List (Bool × List CK) := [(false, [.sl 2 false]), (false, [.sl 2 false])]
def G94 (F : T94) (β : Type) (e : argsT s94) (k : V → Option β) : Option β := F β e.1.1 e.2.1.1 (fun y1 => k (.bool y1))
abbrev W94 (F : T94) : WT := wrap s94 (G94 F)
theorem k94 (F159 : T159) : KO [(159, W159 F159)] X94 94 Tryz.f94 s94 (G94 (P94 F159)) := fun _ _ _ => by kernel_rfl
theorem ok94 : FnOk D 94 (W94 F94) := oW Tryz.func94 (tc ok159 tn) (k94 F159 )
abbrev T232 : Type 1 := (β : Type) → LU → LU → LU → Int → Int → LU → Int → Bool → LU → Int → LU → LU → LU → Int → Int → LU → Int → Bool → LU → Int → (Bool → Option β) → Option β
def P232 (F63 : T63) (F196 : T196) : T232 := fun β a b c d f g h i j l m n o p q r s t u v k =>
 br (!(a == m)) (
 k false) (
 F63 _ b c n o fun b1 =>
 br (!b1) (
 k false) (
 F196 _ d f g h i j p q r s t u fun b2 =>
 br (!b2) (
 k false) (
 br (l != v) (
 k false) (
 k true))))
def F232 : T232 := P232 F63 F196
abbrev s232 : List (Bool × List CK) := [(true, q4), (true, q4)]
def G232 (F : T232) (β : Type) (e : argsT s232) (k : V → Option β) : Option β := let a:=e.1;let b:=a.2;let c:=b.2;let d:=c.2;let f:=d.2;let g:=f.2;let h:=g.2;let i:=h.2;let j:=i.2;let l:=j.2;let m:=e.2.1;let n:=m.2;let o:=n.2;let p:=o.2;let q:=p.2;let r:=q.2;let s:=r.2;let t:=s.2;let u:=t.2;let v:=u.2;F β a.1 b.1 c.1 d.1 f.1 g.1 h.1 i.1 j.1 l.1 m.1 n.1 o.1 p.1 q.1 r.1 s.1 t.1 u.1 v.1 (fun y1 => k (.bool y1))
abbrev W232 (F : T232) : WT := wrap s232 (G232 F)
theorem k232 (F63 : T63) (F196 : T196) : KO [(63, W63 F63), (196, W196 F196)] noX 232 Tryz.f232 s232 (G232 (P232 F63 F196)) := fun _ _ _ => by kernel_rfl
theorem ok232 : FnOk D 232 (W232 F232) := oW Tryz.func232 (tc ok63 (tc ok196 tn)) (k232 F63 F196 )
end
end Go.Am

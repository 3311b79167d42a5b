/-
  Functions of the program, extracted by program (sym.py) out of their code: what each computes, and, by the kernel's reckoning, that the machine's looking form computes just that; so what the machine answers.
-/
import Derived.Test.YthncjpkjmgmdlaaGreatqhAmCfg
import Derived.Test.YthncjpkjmgmdlaaGreatqhAmEvOk2
import Derived.KernelRfl
set_option maxRecDepth 10000
set_option linter.unusedVariables false
namespace Go.Am
open Go Go.Proofs
noncomputable section
abbrev WT : Type 1 := (β : Type) → List V → (V → Option β) → Option β
abbrev LU := List UInt8
abbrev LsV := List V
abbrev q0 : List CK := [.str, .str, .bool, .sl 1 true, .sl 1 true, .sl 1 true, .str, .str, .sl 4 false, .bool, .sl 4 false, .sl 1 true, .sl 8 true, .sl 5 true, .sl 2 true, .int .i64, .int .i64, .int .i64, .int .i64, .sl 2 true, .sl 1 true, .bool]
abbrev q1 : List CK := [.bool, .str, .str, .bool, .sl 1 true, .sl 1 true, .sl 1 true, .str, .str, .sl 4 false, .bool, .sl 4 false, .sl 1 true, .sl 8 true, .sl 5 true, .sl 2 true, .int .i64, .int .i64, .int .i64, .int .i64, .sl 2 true, .sl 1 true, .bool, .sl 8 true, .sl 2 false, .int .i64]
abbrev q2 : List CK := [.int .i64, .str, .str, .str, .int .i64, .bool, .int .i64, .str]
abbrev q3 : List CK := [.str, .str, .int .i64, .int .i64, .str, .int .i64, .bool, .str]
abbrev q4 : List CK := [.str, .int .i64, .int .i64, .str, .int .i64, .bool, .str]
abbrev q5 : List CK := [.str, .str, .bool, .int .i64, .str]
abbrev q6 : List CK := [.int .i64, .str, .sl 2 true, .str]
abbrev q7 : List CK := [.str, .str, .int .i64, .sl 2 true]
abbrev q8 : List CK := [.int .i64, .int .i64, .str, .int .i64, .bool, .str]
abbrev q9 : List CK := [.bool, .sl 1 true, .sl 1 true, .sl 1 true, .str]
abbrev q10 : List CK := [.sl 4 false, .sl 1 true]
abbrev r0_ := Int × List UInt8 × List UInt8 × List UInt8 × Int × Bool × Int × List UInt8 × Unit
abbrev r2_ := Int × List UInt8 × List V × List UInt8 × Unit
abbrev r4_ := List UInt8 × Int × Int × List UInt8 × Int × Bool × List UInt8 × Unit
abbrev r5_ := List UInt8 × List UInt8 × Bool × Int × List UInt8 × Unit
abbrev r6_ := List UInt8 × List UInt8 × Int × Int × List UInt8 × Int × Bool × List UInt8 × Unit
abbrev r7_ := List UInt8 × List UInt8 × Int × List V × Unit
abbrev r8_ := List UInt8 × List UInt8 × Unit
abbrev r9_ := List UInt8 × List V × Unit
abbrev r10_ := List UInt8 × Unit
abbrev KO (tab : List (Nat × WT)) (X : Exits) (f : Nat) (fn : Func) (s : List (Bool × List CK)) (G : (β : Type) → argsT s → (V → Option β) → Option β) : Prop := ∀ (β : Type) (e : argsT s) (k : V → Option β), fnK cfg (tabL tab) X f fn β (argsEnc s e) k = G β e k
theorem oW {ext : Nat → List V → Option V} {f : Nat} {fn : Func} {tab : List (Nat × WT)} {X : Exits} {s : List (Bool × List CK)} {G : (β : Type) → argsT s → (V → Option β) → Option β} (hf : Tryz.prog.funcs[f]? = some fn) (hl : ∀ β, TabOk (den Tryz.prog cfg ext) (tabL tab β)) (hk : KO tab X f fn s G) (he : ∀ args, ext f args = none := by exact fun _ => rfl) (hn : (fn.name == "runtime.NumGoroutine") = false := by exact rfl) : FnOk (den Tryz.prog cfg ext) f (wrap s G) := fn_okW tab X he hf hn hl hk
theorem tn {d : Nat → List V → Option V} : ∀ β, TabOk d (tabL [] β) := tabL_nil
theorem tc {d : Nat → List V → Option V} {f : Nat} {w : WT} {l : List (Nat × WT)} (hf : FnOk d f w) (hl : ∀ β, TabOk d (tabL l β)) : ∀ β, TabOk d (tabL ((f, w) :: l) β) := tabL_cons hf hl
abbrev T37 : Type 1 := (β : Type) → LU → LU → Int → (Int → Option β) → Option β
def P37 : T37 := fun β a b left k =>
 br (decide (IntKind.wrap .i64 (left - (a.length : Int)) < 0)) (
 k (-1)) (
 br (decide (IntKind.wrap .i64 ((IntKind.wrap .i64 (left - (a.length : Int))) - (b.length : Int)) < 0)) (
 k (-1)) (
 k (IntKind.wrap .i64 ((IntKind.wrap .i64 (left - (a.length : Int))) - (b.length : Int)))))
def F37 : T37 := P37
abbrev s37 : List (Bool × List CK) := [(true, [.str, .str]), (false, [.int .i64])]
def G37 (F : T37) (β : Type) (e : argsT s37) (k : V → Option β) : Option β := F β e.1.1 e.1.2.1 e.2.1.1 (fun y1 => k (.int .i64 y1))
abbrev W37 (F : T37) : WT := wrap s37 (G37 F)
theorem k37 : KO [] noX 37 Tryz.f37 s37 (G37 (P37)) := fun _ _ _ => by kernel_rfl
theorem ok37 : FnOk D 37 (W37 F37) := oW Tryz.func37 (tn) (k37 )
abbrev T45 : Type 1 := (β : Type) → LsV → Int → (Int → Option β) → Option β
def P45 : T45 := fun β a left k =>
 br (decide (IntKind.wrap .i64 (left - (a.length : Int)) < 0)) (
 k (-1)) (
 whileK (fun s1 =>
 br (decide ((lI s1 2) < ((lL s1 0).length : Int))) (
 chk (0 ≤ (lI s1 2)) <|
 idx false [.str] (lL s1 0) ((lI s1 2).toNat) fun (e2 : r10_) =>
 br (decide (IntKind.wrap .i64 ((lI s1 1) - (e2.1.length : Int)) < 0)) (
 some (.inr (0, [.i (IntKind.wrap .i64 ((lI s1 1) - (e2.1.length : Int))), .i (-1)]))) (
 some (.inl [.l (lL s1 0), .i (IntKind.wrap .i64 ((lI s1 1) - (e2.1.length : Int))), .i (IntKind.wrap .i64 ((lI s1 2) + 1))]))) (
 some (.inr (1, [.i (lI s1 1)])))) [.l a, .i (IntKind.wrap .i64 (left - (a.length : Int))), .i 0] fun r3 =>
 if r3.1 = 0 then
 k (lI r3.2 1)
 else
 k (lI r3.2 0))
def F45 : T45 := P45
def X45 : Exits := fun i => lookN i [] [(5, [(.ret, xk 28 [(1, .int .i64 0), (4, .int .i64 0)] []), (.exit 0, xk 28 [(1, .int .i64 0)] [])])]
abbrev s45 : List (Bool × List CK) := [(false, [.sl 1 true]), (false, [.int .i64])]
def G45 (F : T45) (β : Type) (e : argsT s45) (k : V → Option β) : Option β := F β e.1.1 e.2.1.1 (fun y1 => k (.int .i64 y1))
abbrev W45 (F : T45) : WT := wrap s45 (G45 F)
theorem k45 : KO [] X45 45 Tryz.f45 s45 (G45 (P45)) := fun _ _ _ => by kernel_rfl
theorem ok45 : FnOk D 45 (W45 F45) := oW Tryz.func45 (tn) (k45 )
abbrev T38 : Type 1 := (β : Type) → Bool → LsV → LsV → LsV → LU → Int → (Int → Option β) → Option β
def P38 (F45 : T45) : T38 := fun β f b c d a left k =>
 F45 _ b left fun n1 =>
 br (decide (n1 < 0)) (
 k (-1)) (
 F45 _ c n1 fun n2 =>
 br (decide (n2 < 0)) (
 k (-1)) (
 F45 _ d n2 fun n3 =>
 br (decide (n3 < 0)) (
 k (-1)) (
 br (decide (IntKind.wrap .i64 (n3 - (a.length : Int)) < 0)) (
 k (-1)) (
 k (IntKind.wrap .i64 (n3 - (a.length : Int)))))))
def F38 : T38 := P38 F45
abbrev s38 : List (Bool × List CK) := [(true, q9), (false, [.int .i64])]
def G38 (F : T38) (β : Type) (e : argsT s38) (k : V → Option β) : Option β := let a:=e.1;let b:=a.2;let c:=b.2;let d:=c.2;let f:=d.2;F β a.1 b.1 c.1 d.1 f.1 e.2.1.1 (fun y1 => k (.int .i64 y1))
abbrev W38 (F : T38) : WT := wrap s38 (G38 F)
theorem k38 (F45 : T45) : KO [(45, W45 F45)] noX 38 Tryz.f38 s38 (G38 (P38 F45)) := fun _ _ _ => by kernel_rfl
theorem ok38 : FnOk D 38 (W38 F38) := oW Tryz.func38 (tc ok45 tn) (k38 F45 )
abbrev T39 : Type 1 := (β : Type) → LU → Int → (Int → Option β) → Option β
def P39 : T39 := fun β a left k =>
 br (decide (IntKind.wrap .i64 (left - (a.length : Int)) < 0)) (
 k (-1)) (
 k (IntKind.wrap .i64 (left - (a.length : Int))))
def F39 : T39 := P39
abbrev s39 : List (Bool × List CK) := [(true, [.str]), (false, [.int .i64])]
def G39 (F : T39) (β : Type) (e : argsT s39) (k : V → Option β) : Option β := F β e.1.1 e.2.1.1 (fun y1 => k (.int .i64 y1))
abbrev W39 (F : T39) : WT := wrap s39 (G39 F)
theorem k39 : KO [] noX 39 Tryz.f39 s39 (G39 (P39)) := fun _ _ _ => by kernel_rfl
theorem ok39 : FnOk D 39 (W39 F39) := oW Tryz.func39 (tn) (k39 )
abbrev T213 : Type 1 := T37
def P213 : T213 := fun β a b left k =>
 br (decide (IntKind.wrap .i64 (left - (a.length : Int)) < 0)) (
 k (-1)) (
 br (decide (IntKind.wrap .i64 ((IntKind.wrap .i64 (left - (a.length : Int))) - (b.length : Int)) < 0)) (
 k (-1)) (
 k (IntKind.wrap .i64 ((IntKind.wrap .i64 (left - (a.length : Int))) - (b.length : Int)))))
def F213 : T213 := P213
abbrev s213 : List (Bool × List CK) := s37
abbrev G213 := G37
abbrev W213 (F : T213) : WT := wrap s213 (G213 F)
theorem k213 : KO [] noX 213 Tryz.f213 s213 (G213 (P213)) := fun _ _ _ => by kernel_rfl
theorem ok213 : FnOk D 213 (W213 F213) := oW Tryz.func213 (tn) (k213 )
abbrev T178 : Type 1 := T45
def P178 (F213 : T213) : T178 := fun β a left k =>
 br (decide (IntKind.wrap .i64 (left - (a.length : Int)) < 0)) (
 k (-1)) (
 whileK (fun s1 =>
 br (decide ((lI s1 2) < ((lL s1 0).length : Int))) (
 chk (0 ≤ (lI s1 2)) <|
 idx true [.str, .str] (lL s1 0) ((lI s1 2).toNat) fun (e2 : r8_) =>
 F213 _ e2.1 e2.2.1 (lI s1 1) fun n3 =>
 br (decide (n3 < 0)) (
 some (.inr (0, [.i n3, .i (-1)]))) (
 some (.inl [.l (lL s1 0), .i n3, .i (IntKind.wrap .i64 ((lI s1 2) + 1))]))) (
 some (.inr (1, [.i (lI s1 1)])))) [.l a, .i (IntKind.wrap .i64 (left - (a.length : Int))), .i 0] fun r4 =>
 if r4.1 = 0 then
 k (lI r4.2 1)
 else
 k (lI r4.2 0))
def F178 : T178 := P178 F213
def X178 : Exits := fun i => lookN i [] [(5, [(.ret, xk 27 [(1, .int .i64 0), (4, .int .i64 0)] []), (.exit 0, xk 27 [(1, .int .i64 0)] [])])]
abbrev s178 : List (Bool × List CK) := [(false, [.sl 2 true]), (false, [.int .i64])]
def G178 (F : T178) (β : Type) (e : argsT s178) (k : V → Option β) : Option β := F β e.1.1 e.2.1.1 (fun y1 => k (.int .i64 y1))
abbrev W178 (F : T178) : WT := wrap s178 (G178 F)
theorem k178 (F213 : T213) : KO [(213, W213 F213)] X178 178 Tryz.f178 s178 (G178 (P178 F213)) := fun _ _ _ => by kernel_rfl
theorem ok178 : FnOk D 178 (W178 F178) := oW Tryz.func178 (tc ok213 tn) (k178 F213 )
abbrev T107 : Type 1 := (β : Type) → Int → LU → LsV → LU → Int → (Int → Option β) → Option β
def P107 (F178 : T178) : T107 := fun β d a c b left k =>
 br (decide (IntKind.wrap .i64 (left - (a.length : Int)) < 0)) (
 k (-1)) (
 F178 _ c (IntKind.wrap .i64 (left - (a.length : Int))) fun n1 =>
 br (decide (n1 < 0)) (
 k (-1)) (
 br (decide (IntKind.wrap .i64 (n1 - (b.length : Int)) < 0)) (
 k (-1)) (
 k (IntKind.wrap .i64 (n1 - (b.length : Int))))))
def F107 : T107 := P107 F178
abbrev s107 : List (Bool × List CK) := [(true, q6), (false, [.int .i64])]
def G107 (F : T107) (β : Type) (e : argsT s107) (k : V → Option β) : Option β := F β e.1.1 e.1.2.1 e.1.2.2.1 e.1.2.2.2.1 e.2.1.1 (fun y1 => k (.int .i64 y1))
abbrev W107 (F : T107) : WT := wrap s107 (G107 F)
theorem k107 (F178 : T178) : KO [(178, W178 F178)] noX 107 Tryz.f107 s107 (G107 (P107 F178)) := fun _ _ _ => by kernel_rfl
theorem ok107 : FnOk D 107 (W107 F107) := oW Tryz.func107 (tc ok178 tn) (k107 F178 )
abbrev T40 : Type 1 := T45
def P40 (F107 : T107) : T40 := fun β a left k =>
 br (decide (IntKind.wrap .i64 (left - (a.length : Int)) < 0)) (
 k (-1)) (
 whileK (fun s1 =>
 br (decide ((lI s1 2) < ((lL s1 0).length : Int))) (
 chk (0 ≤ (lI s1 2)) <|
 idx true q6 (lL s1 0) ((lI s1 2).toNat) fun (e2 : r2_) =>
 F107 _ e2.1 e2.2.1 e2.2.2.1 e2.2.2.2.1 (lI s1 1) fun n3 =>
 br (decide (n3 < 0)) (
 some (.inr (0, [.i n3, .i (-1)]))) (
 some (.inl [.l (lL s1 0), .i n3, .i (IntKind.wrap .i64 ((lI s1 2) + 1))]))) (
 some (.inr (1, [.i (lI s1 1)])))) [.l a, .i (IntKind.wrap .i64 (left - (a.length : Int))), .i 0] fun r4 =>
 if r4.1 = 0 then
 k (lI r4.2 1)
 else
 k (lI r4.2 0))
def F40 : T40 := P40 F107
def X40 : Exits := fun i => lookN i [] [(5, [(.ret, xk 27 [(1, .int .i64 0), (4, .int .i64 0)] []), (.exit 0, xk 27 [(1, .int .i64 0)] [])])]
abbrev s40 : List (Bool × List CK) := [(false, [.sl 4 false]), (false, [.int .i64])]
def G40 (F : T40) (β : Type) (e : argsT s40) (k : V → Option β) : Option β := F β e.1.1 e.2.1.1 (fun y1 => k (.int .i64 y1))
abbrev W40 (F : T40) : WT := wrap s40 (G40 F)
theorem k40 (F107 : T107) : KO [(107, W107 F107)] X40 40 Tryz.f40 s40 (G40 (P40 F107)) := fun _ _ _ => by kernel_rfl
theorem ok40 : FnOk D 40 (W40 F40) := oW Tryz.func40 (tc ok107 tn) (k40 F107 )
abbrev T179 : Type 1 := (β : Type) → LU → LU → Int → LsV → Int → (Int → Option β) → Option β
def P179 (F178 : T178) : T179 := fun β a b d c left k =>
 br (decide (IntKind.wrap .i64 (left - (a.length : Int)) < 0)) (
 k (-1)) (
 br (decide (IntKind.wrap .i64 ((IntKind.wrap .i64 (left - (a.length : Int))) - (b.length : Int)) < 0)) (
 k (-1)) (
 F178 _ c (IntKind.wrap .i64 ((IntKind.wrap .i64 (left - (a.length : Int))) - (b.length : Int))) fun n1 =>
 br (decide (n1 < 0)) (
 k (-1)) (
 k n1)))
def F179 : T179 := P179 F178
abbrev s179 : List (Bool × List CK) := [(true, q7), (false, [.int .i64])]
def G179 (F : T179) (β : Type) (e : argsT s179) (k : V → Option β) : Option β := F β e.1.1 e.1.2.1 e.1.2.2.1 e.1.2.2.2.1 e.2.1.1 (fun y1 => k (.int .i64 y1))
abbrev W179 (F : T179) : WT := wrap s179 (G179 F)
theorem k179 (F178 : T178) : KO [(178, W178 F178)] noX 179 Tryz.f179 s179 (G179 (P179 F178)) := fun _ _ _ => by kernel_rfl
theorem ok179 : FnOk D 179 (W179 F179) := oW Tryz.func179 (tc ok178 tn) (k179 F178 )
abbrev T108 : Type 1 := T45
def P108 (F179 : T179) : T108 := fun β a left k =>
 br (decide (IntKind.wrap .i64 (left - (a.length : Int)) < 0)) (
 k (-1)) (
 whileK (fun s1 =>
 br (decide ((lI s1 2) < ((lL s1 0).length : Int))) (
 chk (0 ≤ (lI s1 2)) <|
 idx true q7 (lL s1 0) ((lI s1 2).toNat) fun (e2 : r7_) =>
 F179 _ e2.1 e2.2.1 e2.2.2.1 e2.2.2.2.1 (lI s1 1) fun n3 =>
 br (decide (n3 < 0)) (
 some (.inr (0, [.i n3, .i (-1)]))) (
 some (.inl [.l (lL s1 0), .i n3, .i (IntKind.wrap .i64 ((lI s1 2) + 1))]))) (
 some (.inr (1, [.i (lI s1 1)])))) [.l a, .i (IntKind.wrap .i64 (left - (a.length : Int))), .i 0] fun r4 =>
 if r4.1 = 0 then
 k (lI r4.2 1)
 else
 k (lI r4.2 0))
def F108 : T108 := P108 F179
def X108 : Exits := fun i => lookN i [] [(5, [(.ret, xk 27 [(1, .int .i64 0), (4, .int .i64 0)] []), (.exit 0, xk 27 [(1, .int .i64 0)] [])])]
abbrev s108 : List (Bool × List CK) := s40
abbrev G108 := G40
abbrev W108 (F : T108) : WT := wrap s108 (G108 F)
theorem k108 (F179 : T179) : KO [(179, W179 F179)] X108 108 Tryz.f108 s108 (G108 (P108 F179)) := fun _ _ _ => by kernel_rfl
theorem ok108 : FnOk D 108 (W108 F108) := oW Tryz.func108 (tc ok179 tn) (k108 F179 )
abbrev T109 : Type 1 := T45
def P109 : T109 := fun β a left k =>
 br (decide (IntKind.wrap .i64 (left - (a.length : Int)) < 0)) (
 k (-1)) (
 k (IntKind.wrap .i64 (left - (a.length : Int))))
def F109 : T109 := P109
abbrev s109 : List (Bool × List CK) := s45
abbrev G109 := G45
abbrev W109 (F : T109) : WT := wrap s109 (G109 F)
theorem k109 : KO [] noX 109 Tryz.f109 s109 (G109 (P109)) := fun _ _ _ => by kernel_rfl
theorem ok109 : FnOk D 109 (W109 F109) := oW Tryz.func109 (tn) (k109 )
abbrev T41 : Type 1 := (β : Type) → LsV → LsV → Int → (Int → Option β) → Option β
def P41 (F108 : T108) (F109 : T109) : T41 := fun β a b left k =>
 F108 _ a left fun n1 =>
 br (decide (n1 < 0)) (
 k (-1)) (
 F109 _ b n1 fun n2 =>
 br (decide (n2 < 0)) (
 k (-1)) (
 k n2))
def F41 : T41 := P41 F108 F109
abbrev s41 : List (Bool × List CK) := [(true, q10), (false, [.int .i64])]
def G41 (F : T41) (β : Type) (e : argsT s41) (k : V → Option β) : Option β := F β e.1.1 e.1.2.1 e.2.1.1 (fun y1 => k (.int .i64 y1))
abbrev W41 (F : T41) : WT := wrap s41 (G41 F)
theorem k41 (F108 : T108) (F109 : T109) : KO [(108, W108 F108), (109, W109 F109)] noX 41 Tryz.f41 s41 (G41 (P41 F108 F109)) := fun _ _ _ => by kernel_rfl
theorem ok41 : FnOk D 41 (W41 F41) := oW Tryz.func41 (tc ok108 (tc ok109 tn)) (k41 F108 F109 )
abbrev T110 : Type 1 := (β : Type) → Int → LU → LU → LU → Int → Bool → Int → LU → Int → (Int → Option β) → Option β
def P110 (F37 : T37) : T110 := fun β f c d a g h i b left k =>
 F37 _ c d left fun n1 =>
 br (decide (n1 < 0)) (
 k (-1)) (
 br (decide (IntKind.wrap .i64 (n1 - (a.length : Int)) < 0)) (
 k (-1)) (
 br (decide (IntKind.wrap .i64 ((IntKind.wrap .i64 (n1 - (a.length : Int))) - (b.length : Int)) < 0)) (
 k (-1)) (
 k (IntKind.wrap .i64 ((IntKind.wrap .i64 (n1 - (a.length : Int))) - (b.length : Int))))))
def F110 : T110 := P110 F37
abbrev s110 : List (Bool × List CK) := [(true, q2), (false, [.int .i64])]
def G110 (F : T110) (β : Type) (e : argsT s110) (k : V → Option β) : Option β := let a:=e.1;let b:=a.2;let c:=b.2;let d:=c.2;let f:=d.2;let g:=f.2;let h:=g.2;let i:=h.2;F β a.1 b.1 c.1 d.1 f.1 g.1 h.1 i.1 e.2.1.1 (fun y1 => k (.int .i64 y1))
abbrev W110 (F : T110) : WT := wrap s110 (G110 F)
theorem k110 (F37 : T37) : KO [(37, W37 F37)] noX 110 Tryz.f110 s110 (G110 (P110 F37)) := fun _ _ _ => by kernel_rfl
theorem ok110 : FnOk D 110 (W110 F110) := oW Tryz.func110 (tc ok37 tn) (k110 F37 )
abbrev T42 : Type 1 := T45
def P42 (F110 : T110) : T42 := fun β a left k =>
 br (decide (IntKind.wrap .i64 (left - (a.length : Int)) < 0)) (
 k (-1)) (
 whileK (fun s1 =>
 br (decide ((lI s1 2) < ((lL s1 0).length : Int))) (
 chk (0 ≤ (lI s1 2)) <|
 idx true q2 (lL s1 0) ((lI s1 2).toNat) fun (e2 : r0_) =>
 F110 _ e2.1 e2.2.1 e2.2.2.1 e2.2.2.2.1 e2.2.2.2.2.1 e2.2.2.2.2.2.1 e2.2.2.2.2.2.2.1 e2.2.2.2.2.2.2.2.1 (lI s1 1) fun n3 =>
 br (decide (n3 < 0)) (
 some (.inr (0, [.i n3, .i (-1)]))) (
 some (.inl [.l (lL s1 0), .i n3, .i (IntKind.wrap .i64 ((lI s1 2) + 1))]))) (
 some (.inr (1, [.i (lI s1 1)])))) [.l a, .i (IntKind.wrap .i64 (left - (a.length : Int))), .i 0] fun r4 =>
 if r4.1 = 0 then
 k (lI r4.2 1)
 else
 k (lI r4.2 0))
def F42 : T42 := P42 F110
def X42 : Exits := fun i => lookN i [] [(5, [(.ret, xk 27 [(1, .int .i64 0), (4, .int .i64 0)] []), (.exit 0, xk 27 [(1, .int .i64 0)] [])])]
abbrev s42 : List (Bool × List CK) := [(false, [.sl 8 true]), (false, [.int .i64])]
def G42 (F : T42) (β : Type) (e : argsT s42) (k : V → Option β) : Option β := F β e.1.1 e.2.1.1 (fun y1 => k (.int .i64 y1))
abbrev W42 (F : T42) : WT := wrap s42 (G42 F)
theorem k42 (F110 : T110) : KO [(110, W110 F110)] X42 42 Tryz.f42 s42 (G42 (P42 F110)) := fun _ _ _ => by kernel_rfl
theorem ok42 : FnOk D 42 (W42 F42) := oW Tryz.func42 (tc ok110 tn) (k42 F110 )
abbrev T111 : Type 1 := (β : Type) → LU → LU → Bool → Int → LU → Int → (Int → Option β) → Option β
def P111 (F37 : T37) : T111 := fun β b c d f a left k =>
 F37 _ b c left fun n1 =>
 br (decide (n1 < 0)) (
 k (-1)) (
 br (decide (IntKind.wrap .i64 (n1 - (a.length : Int)) < 0)) (
 k (-1)) (
 k (IntKind.wrap .i64 (n1 - (a.length : Int)))))
def F111 : T111 := P111 F37
abbrev s111 : List (Bool × List CK) := [(true, q5), (false, [.int .i64])]
def G111 (F : T111) (β : Type) (e : argsT s111) (k : V → Option β) : Option β := let a:=e.1;let b:=a.2;let c:=b.2;let d:=c.2;let f:=d.2;F β a.1 b.1 c.1 d.1 f.1 e.2.1.1 (fun y1 => k (.int .i64 y1))
abbrev W111 (F : T111) : WT := wrap s111 (G111 F)
theorem k111 (F37 : T37) : KO [(37, W37 F37)] noX 111 Tryz.f111 s111 (G111 (P111 F37)) := fun _ _ _ => by kernel_rfl
theorem ok111 : FnOk D 111 (W111 F111) := oW Tryz.func111 (tc ok37 tn) (k111 F37 )
abbrev T43 : Type 1 := T45
def P43 (F111 : T111) : T43 := fun β a left k =>
 br (decide (IntKind.wrap .i64 (left - (a.length : Int)) < 0)) (
 k (-1)) (
 whileK (fun s1 =>
 br (decide ((lI s1 2) < ((lL s1 0).length : Int))) (
 chk (0 ≤ (lI s1 2)) <|
 idx true q5 (lL s1 0) ((lI s1 2).toNat) fun (e2 : r5_) =>
 F111 _ e2.1 e2.2.1 e2.2.2.1 e2.2.2.2.1 e2.2.2.2.2.1 (lI s1 1) fun n3 =>
 br (decide (n3 < 0)) (
 some (.inr (0, [.i n3, .i (-1)]))) (
 some (.inl [.l (lL s1 0), .i n3, .i (IntKind.wrap .i64 ((lI s1 2) + 1))]))) (
 some (.inr (1, [.i (lI s1 1)])))) [.l a, .i (IntKind.wrap .i64 (left - (a.length : Int))), .i 0] fun r4 =>
 if r4.1 = 0 then
 k (lI r4.2 1)
 else
 k (lI r4.2 0))
def F43 : T43 := P43 F111
def X43 : Exits := fun i => lookN i [] [(5, [(.ret, xk 27 [(1, .int .i64 0), (4, .int .i64 0)] []), (.exit 0, xk 27 [(1, .int .i64 0)] [])])]
abbrev s43 : List (Bool × List CK) := [(false, [.sl 5 true]), (false, [.int .i64])]
def G43 (F : T43) (β : Type) (e : argsT s43) (k : V → Option β) : Option β := F β e.1.1 e.2.1.1 (fun y1 => k (.int .i64 y1))
abbrev W43 (F : T43) : WT := wrap s43 (G43 F)
theorem k43 (F111 : T111) : KO [(111, W111 F111)] X43 43 Tryz.f43 s43 (G43 (P43 F111)) := fun _ _ _ => by kernel_rfl
theorem ok43 : FnOk D 43 (W43 F43) := oW Tryz.func43 (tc ok111 tn) (k43 F111 )
abbrev T44 : Type 1 := T45
def P44 (F37 : T37) : T44 := fun β a left k =>
 br (decide (IntKind.wrap .i64 (left - (a.length : Int)) < 0)) (
 k (-1)) (
 whileK (fun s1 =>
 br (decide ((lI s1 2) < ((lL s1 0).length : Int))) (
 chk (0 ≤ (lI s1 2)) <|
 idx true [.str, .str] (lL s1 0) ((lI s1 2).toNat) fun (e2 : r8_) =>
 F37 _ e2.1 e2.2.1 (lI s1 1) fun n3 =>
 br (decide (n3 < 0)) (
 some (.inr (0, [.i n3, .i (-1)]))) (
 some (.inl [.l (lL s1 0), .i n3, .i (IntKind.wrap .i64 ((lI s1 2) + 1))]))) (
 some (.inr (1, [.i (lI s1 1)])))) [.l a, .i (IntKind.wrap .i64 (left - (a.length : Int))), .i 0] fun r4 =>
 if r4.1 = 0 then
 k (lI r4.2 1)
 else
 k (lI r4.2 0))
def F44 : T44 := P44 F37
def X44 : Exits := fun i => lookN i [] [(5, [(.ret, xk 27 [(1, .int .i64 0), (4, .int .i64 0)] []), (.exit 0, xk 27 [(1, .int .i64 0)] [])])]
abbrev s44 : List (Bool × List CK) := s178
abbrev G44 := G178
abbrev W44 (F : T44) : WT := wrap s44 (G44 F)
theorem k44 (F37 : T37) : KO [(37, W37 F37)] X44 44 Tryz.f44 s44 (G44 (P44 F37)) := fun _ _ _ => by kernel_rfl
theorem ok44 : FnOk D 44 (W44 F44) := oW Tryz.func44 (tc ok37 tn) (k44 F37 )
abbrev T8 : Type 1 := (β : Type) → LU → LU → Bool → LsV → LsV → LsV → LU → LU → LsV → Bool → LsV → LsV → LsV → LsV → LsV → Int → Int → Int → Int → LsV → LsV → Bool → Int → (Int → Option β) → Option β
def P8 (F37 : T37) (F38 : T38) (F39 : T39) (F40 : T40) (F41 : T41) (F42 : T42) (F43 : T43) (F44 : T44) (F45 : T45) : T8 := fun β a b c d f g h i j s l m n o p t u v w q r x left k =>
 F37 _ a b left fun n1 =>
 br (decide (n1 < 0)) (
 k (-1)) (
 F38 _ c d f g h n1 fun n2 =>
 br (decide (n2 < 0)) (
 k (-1)) (
 F39 _ i n2 fun n3 =>
 br (decide (n3 < 0)) (
 k (-1)) (
 F40 _ j n3 fun n4 =>
 br (decide (n4 < 0)) (
 k (-1)) (
 F41 _ l m n4 fun n5 =>
 br (decide (n5 < 0)) (
 k (-1)) (
 F42 _ n n5 fun n6 =>
 br (decide (n6 < 0)) (
 k (-1)) (
 F43 _ o n6 fun n7 =>
 br (decide (n7 < 0)) (
 k (-1)) (
 F44 _ p n7 fun n8 =>
 br (decide (n8 < 0)) (
 k (-1)) (
 F44 _ q n8 fun n9 =>
 br (decide (n9 < 0)) (
 k (-1)) (
 F45 _ r n9 fun n10 =>
 br (decide (n10 < 0)) (
 k (-1)) (
 k n10))))))))))
def F8 : T8 := P8 F37 F38 F39 F40 F41 F42 F43 F44 F45
abbrev s8 : List (Bool × List CK) := [(true, q0), (false, [.int .i64])]
def G8 (F : T8) (β : Type) (e : argsT s8) (k : V → Option β) : Option β := let a:=e.1;let b:=a.2;let c:=b.2;let d:=c.2;let f:=d.2;let g:=f.2;let h:=g.2;let i:=h.2;let j:=i.2;let l:=j.2;let m:=l.2;let n:=m.2;let o:=n.2;let p:=o.2;let q:=p.2;let r:=q.2;let s:=r.2;let t:=s.2;let u:=t.2;let v:=u.2;let w:=v.2;let x:=w.2;F β a.1 b.1 c.1 d.1 f.1 g.1 h.1 i.1 j.1 l.1 m.1 n.1 o.1 p.1 q.1 r.1 s.1 t.1 u.1 v.1 w.1 x.1 e.2.1.1 (fun y1 => k (.int .i64 y1))
abbrev W8 (F : T8) : WT := wrap s8 (G8 F)
theorem k8 (F37 : T37) (F38 : T38) (F39 : T39) (F40 : T40) (F41 : T41) (F42 : T42) (F43 : T43) (F44 : T44) (F45 : T45) : KO [(37, W37 F37), (38, W38 F38), (39, W39 F39), (40, W40 F40), (41, W41 F41), (42, W42 F42), (43, W43 F43), (44, W44 F44), (45, W45 F45)] noX 8 Tryz.f8 s8 (G8 (P8 F37 F38 F39 F40 F41 F42 F43 F44 F45)) := fun _ _ _ => by kernel_rfl
theorem ok8 : FnOk D 8 (W8 F8) := oW Tryz.func8 (tc ok37 (tc ok38 (tc ok39 (tc ok40 (tc ok41 (tc ok42 (tc ok43 (tc ok44 (tc ok45 tn))))))))) (k8 F37 F38 F39 F40 F41 F42 F43 F44 F45 )
abbrev T187 : Type 1 := (β : Type) → Int → Int → LU → Int → Bool → LU → Int → (Int → Option β) → Option β
def P187 : T187 := fun β c d a f g b left k =>
 br (decide (IntKind.wrap .i64 (left - (a.length : Int)) < 0)) (
 k (-1)) (
 br (decide (IntKind.wrap .i64 ((IntKind.wrap .i64 (left - (a.length : Int))) - (b.length : Int)) < 0)) (
 k (-1)) (
 k (IntKind.wrap .i64 ((IntKind.wrap .i64 (left - (a.length : Int))) - (b.length : Int)))))
def F187 : T187 := P187
abbrev s187 : List (Bool × List CK) := [(true, q8), (false, [.int .i64])]
def G187 (F : T187) (β : Type) (e : argsT s187) (k : V → Option β) : Option β := let a:=e.1;let b:=a.2;let c:=b.2;let d:=c.2;let f:=d.2;let g:=f.2;F β a.1 b.1 c.1 d.1 f.1 g.1 e.2.1.1 (fun y1 => k (.int .i64 y1))
abbrev W187 (F : T187) : WT := wrap s187 (G187 F)
theorem k187 : KO [] noX 187 Tryz.f187 s187 (G187 (P187)) := fun _ _ _ => by kernel_rfl
theorem ok187 : FnOk D 187 (W187 F187) := oW Tryz.func187 (tn) (k187 )
abbrev T141 : Type 1 := (β : Type) → LU → LU → Int → Int → LU → Int → Bool → LU → Int → (Int → Option β) → Option β
def P141 (F37 : T37) (F187 : T187) : T141 := fun β a b c d f g h i left k =>
 F37 _ a b left fun n1 =>
 br (decide (n1 < 0)) (
 k (-1)) (
 F187 _ c d f g h i n1 fun n2 =>
 br (decide (n2 < 0)) (
 k (-1)) (
 k n2))
def F141 : T141 := P141 F37 F187
abbrev s141 : List (Bool × List CK) := [(true, q3), (false, [.int .i64])]
def G141 (F : T141) (β : Type) (e : argsT s141) (k : V → Option β) : Option β := let a:=e.1;let b:=a.2;let c:=b.2;let d:=c.2;let f:=d.2;let g:=f.2;let h:=g.2;let i:=h.2;F β a.1 b.1 c.1 d.1 f.1 g.1 h.1 i.1 e.2.1.1 (fun y1 => k (.int .i64 y1))
abbrev W141 (F : T141) : WT := wrap s141 (G141 F)
theorem k141 (F37 : T37) (F187 : T187) : KO [(37, W37 F37), (187, W187 F187)] noX 141 Tryz.f141 s141 (G141 (P141 F37 F187)) := fun _ _ _ => by kernel_rfl
theorem ok141 : FnOk D 141 (W141 F141) := oW Tryz.func141 (tc ok37 (tc ok187 tn)) (k141 F37 F187 )
abbrev T85 : Type 1 := T45
def P85 (F141 : T141) : T85 := fun β a left k =>
 br (decide (IntKind.wrap .i64 (left - (a.length : Int)) < 0)) (
 k (-1)) (
 whileK (fun s1 =>
 br (decide ((lI s1 2) < ((lL s1 0).length : Int))) (
 chk (0 ≤ (lI s1 2)) <|
 idx true q3 (lL s1 0) ((lI s1 2).toNat) fun (e2 : r6_) =>
 F141 _ e2.1 e2.2.1 e2.2.2.1 e2.2.2.2.1 e2.2.2.2.2.1 e2.2.2.2.2.2.1 e2.2.2.2.2.2.2.1 e2.2.2.2.2.2.2.2.1 (lI s1 1) fun n3 =>
 br (decide (n3 < 0)) (
 some (.inr (0, [.i n3, .i (-1)]))) (
 some (.inl [.l (lL s1 0), .i n3, .i (IntKind.wrap .i64 ((lI s1 2) + 1))]))) (
 some (.inr (1, [.i (lI s1 1)])))) [.l a, .i (IntKind.wrap .i64 (left - (a.length : Int))), .i 0] fun r4 =>
 if r4.1 = 0 then
 k (lI r4.2 1)
 else
 k (lI r4.2 0))
def F85 : T85 := P85 F141
def X85 : Exits := fun i => lookN i [] [(5, [(.ret, xk 27 [(1, .int .i64 0), (4, .int .i64 0)] []), (.exit 0, xk 27 [(1, .int .i64 0)] [])])]
abbrev s85 : List (Bool × List CK) := s42
abbrev G85 := G42
abbrev W85 (F : T85) : WT := wrap s85 (G85 F)
theorem k85 (F141 : T141) : KO [(141, W141 F141)] X85 85 Tryz.f85 s85 (G85 (P85 F141)) := fun _ _ _ => by kernel_rfl
theorem ok85 : FnOk D 85 (W85 F85) := oW Tryz.func85 (tc ok141 tn) (k85 F141 )
abbrev T216 : Type 1 := (β : Type) → LU → Int → Int → LU → Int → Bool → LU → Int → (Int → Option β) → Option β
def P216 (F187 : T187) : T216 := fun β a b c d f g h left k =>
 br (decide (IntKind.wrap .i64 (left - (a.length : Int)) < 0)) (
 k (-1)) (
 F187 _ b c d f g h (IntKind.wrap .i64 (left - (a.length : Int))) fun n1 =>
 br (decide (n1 < 0)) (
 k (-1)) (
 k n1))
def F216 : T216 := P216 F187
abbrev s216 : List (Bool × List CK) := [(true, q4), (false, [.int .i64])]
def G216 (F : T216) (β : Type) (e : argsT s216) (k : V → Option β) : Option β := let a:=e.1;let b:=a.2;let c:=b.2;let d:=c.2;let f:=d.2;let g:=f.2;let h:=g.2;F β a.1 b.1 c.1 d.1 f.1 g.1 h.1 e.2.1.1 (fun y1 => k (.int .i64 y1))
abbrev W216 (F : T216) : WT := wrap s216 (G216 F)
theorem k216 (F187 : T187) : KO [(187, W187 F187)] noX 216 Tryz.f216 s216 (G216 (P216 F187)) := fun _ _ _ => by kernel_rfl
theorem ok216 : FnOk D 216 (W216 F216) := oW Tryz.func216 (tc ok187 tn) (k216 F187 )
abbrev T188 : Type 1 := T45
def P188 (F216 : T216) : T188 := fun β a left k =>
 br (decide (IntKind.wrap .i64 (left - (a.length : Int)) < 0)) (
 k (-1)) (
 whileK (fun s1 =>
 br (decide ((lI s1 2) < ((lL s1 0).length : Int))) (
 chk (0 ≤ (lI s1 2)) <|
 idx true q4 (lL s1 0) ((lI s1 2).toNat) fun (e2 : r4_) =>
 F216 _ e2.1 e2.2.1 e2.2.2.1 e2.2.2.2.1 e2.2.2.2.2.1 e2.2.2.2.2.2.1 e2.2.2.2.2.2.2.1 (lI s1 1) fun n3 =>
 br (decide (n3 < 0)) (
 some (.inr (0, [.i n3, .i (-1)]))) (
 some (.inl [.l (lL s1 0), .i n3, .i (IntKind.wrap .i64 ((lI s1 2) + 1))]))) (
 some (.inr (1, [.i (lI s1 1)])))) [.l a, .i (IntKind.wrap .i64 (left - (a.length : Int))), .i 0] fun r4 =>
 if r4.1 = 0 then
 k (lI r4.2 1)
 else
 k (lI r4.2 0))
def F188 : T188 := P188 F216
def X188 : Exits := fun i => lookN i [] [(5, [(.ret, xk 27 [(1, .int .i64 0), (4, .int .i64 0)] []), (.exit 0, xk 27 [(1, .int .i64 0)] [])])]
abbrev s188 : List (Bool × List CK) := [(false, [.sl 7 true]), (false, [.int .i64])]
def G188 (F : T188) (β : Type) (e : argsT s188) (k : V → Option β) : Option β := F β e.1.1 e.2.1.1 (fun y1 => k (.int .i64 y1))
abbrev W188 (F : T188) : WT := wrap s188 (G188 F)
theorem k188 (F216 : T216) : KO [(216, W216 F216)] X188 188 Tryz.f188 s188 (G188 (P188 F216)) := fun _ _ _ => by kernel_rfl
theorem ok188 : FnOk D 188 (W188 F188) := oW Tryz.func188 (tc ok216 tn) (k188 F216 )
abbrev T142 : Type 1 := (β : Type) → LU → LsV → Int → (Int → Option β) → Option β
def P142 (F188 : T188) : T142 := fun β a b left k =>
 br (decide (IntKind.wrap .i64 (left - (a.length : Int)) < 0)) (
 k (-1)) (
 F188 _ b (IntKind.wrap .i64 (left - (a.length : Int))) fun n1 =>
 br (decide (n1 < 0)) (
 k (-1)) (
 k n1))
def F142 : T142 := P142 F188
abbrev s142 : List (Bool × List CK) := [(true, [.str, .sl 7 true]), (false, [.int .i64])]
def G142 (F : T142) (β : Type) (e : argsT s142) (k : V → Option β) : Option β := F β e.1.1 e.1.2.1 e.2.1.1 (fun y1 => k (.int .i64 y1))
abbrev W142 (F : T142) : WT := wrap s142 (G142 F)
theorem k142 (F188 : T188) : KO [(188, W188 F188)] noX 142 Tryz.f142 s142 (G142 (P142 F188)) := fun _ _ _ => by kernel_rfl
theorem ok142 : FnOk D 142 (W142 F142) := oW Tryz.func142 (tc ok188 tn) (k142 F188 )
abbrev T86 : Type 1 := T45
def P86 (F142 : T142) : T86 := fun β a left k =>
 br (decide (IntKind.wrap .i64 (left - (a.length : Int)) < 0)) (
 k (-1)) (
 whileK (fun s1 =>
 br (decide ((lI s1 2) < ((lL s1 0).length : Int))) (
 chk (0 ≤ (lI s1 2)) <|
 idx true [.str, .sl 7 true] (lL s1 0) ((lI s1 2).toNat) fun (e2 : r9_) =>
 F142 _ e2.1 e2.2.1 (lI s1 1) fun n3 =>
 br (decide (n3 < 0)) (
 some (.inr (0, [.i n3, .i (-1)]))) (
 some (.inl [.l (lL s1 0), .i n3, .i (IntKind.wrap .i64 ((lI s1 2) + 1))]))) (
 some (.inr (1, [.i (lI s1 1)])))) [.l a, .i (IntKind.wrap .i64 (left - (a.length : Int))), .i 0] fun r4 =>
 if r4.1 = 0 then
 k (lI r4.2 1)
 else
 k (lI r4.2 0))
def F86 : T86 := P86 F142
def X86 : Exits := fun i => lookN i [] [(5, [(.ret, xk 27 [(1, .int .i64 0), (4, .int .i64 0)] []), (.exit 0, xk 27 [(1, .int .i64 0)] [])])]
abbrev s86 : List (Bool × List CK) := [(false, [.sl 2 false]), (false, [.int .i64])]
def G86 (F : T86) (β : Type) (e : argsT s86) (k : V → Option β) : Option β := F β e.1.1 e.2.1.1 (fun y1 => k (.int .i64 y1))
abbrev W86 (F : T86) : WT := wrap s86 (G86 F)
theorem k86 (F142 : T142) : KO [(142, W142 F142)] X86 86 Tryz.f86 s86 (G86 (P86 F142)) := fun _ _ _ => by kernel_rfl
theorem ok86 : FnOk D 86 (W86 F86) := oW Tryz.func86 (tc ok142 tn) (k86 F142 )
abbrev T20 : Type 1 := (β : Type) → Bool → LU → LU → Bool → LsV → LsV → LsV → LU → LU → LsV → Bool → LsV → LsV → LsV → LsV → LsV → Int → Int → Int → Int → LsV → LsV → Bool → LsV → LsV → Int → Int → (Int → Option β) → Option β
def P20 (F8 : T8) (F85 : T85) (F86 : T86) : T20 := fun β a1 a b c d f g h i j l m n o p q r s t u v w x y z b1 left k =>
 F8 _ a b c d f g h i j l m n o p q r s t u v w x left fun n1 =>
 br (decide (n1 < 0)) (
 k (-1)) (
 F85 _ y n1 fun n2 =>
 br (decide (n2 < 0)) (
 k (-1)) (
 F86 _ z n2 fun n3 =>
 br (decide (n3 < 0)) (
 k (-1)) (
 k n3)))
def F20 : T20 := P20 F8 F85 F86
abbrev s20 : List (Bool × List CK) := [(true, q1), (false, [.int .i64])]
def G20 (F : T20) (β : Type) (e : argsT s20) (k : V → Option β) : Option β := let a:=e.1;let b:=a.2;let c:=b.2;let d:=c.2;let f:=d.2;let g:=f.2;let h:=g.2;let i:=h.2;let j:=i.2;let l:=j.2;let m:=l.2;let n:=m.2;let o:=n.2;let p:=o.2;let q:=p.2;let r:=q.2;let s:=r.2;let t:=s.2;let u:=t.2;let v:=u.2;let w:=v.2;let x:=w.2;let y:=x.2;let z:=y.2;let a1:=z.2;let b1:=a1.2;F β a.1 b.1 c.1 d.1 f.1 g.1 h.1 i.1 j.1 l.1 m.1 n.1 o.1 p.1 q.1 r.1 s.1 t.1 u.1 v.1 w.1 x.1 y.1 z.1 a1.1 b1.1 e.2.1.1 (fun y1 => k (.int .i64 y1))
abbrev W20 (F : T20) : WT := wrap s20 (G20 F)
theorem k20 (F8 : T8) (F85 : T85) (F86 : T86) : KO [(8, W8 F8), (85, W85 F85), (86, W86 F86)] noX 20 Tryz.f20 s20 (G20 (P20 F8 F85 F86)) := fun _ _ _ => by kernel_rfl
theorem ok20 : FnOk D 20 (W20 F20) := oW Tryz.func20 (tc ok8 (tc ok85 (tc ok86 tn))) (k20 F8 F85 F86 )
abbrev T50 : Type 1 := (β : Type) → LU → LU → (LU → LU → Option β) → Option β
def P50 : T50 := fun β a b k =>
 k a b
def F50 : T50 := P50
abbrev s50 : List (Bool × List CK) := [(true, [.str, .str])]
def G50 (F : T50) (β : Type) (e : argsT s50) (k : V → Option β) : Option β := F β e.1.1 e.1.2.1 (fun y1 y2 => k (.agg [.str y1, .str y2]))
abbrev W50 (F : T50) : WT := wrap s50 (G50 F)
theorem k50 : KO [] noX 50 Tryz.f50 s50 (G50 (P50)) := fun _ _ _ => by kernel_rfl
theorem ok50 : FnOk D 50 (W50 F50) := oW Tryz.func50 (tn) (k50 )
abbrev T58 : Type 1 := (β : Type) → LsV → (LsV → Option β) → Option β
def P58 : T58 := fun β a k =>
 chk (0 ≤ (a.length : Int) ∧ (a.length : Int) ≤ (a.length : Int) ∧ (a.length : Int) * 16 ≤ 140737488355328 ∧ (a.length : Int) ≤ 140737488355328) <|
 whileK (fun s1 =>
 br (decide ((lI s1 2) < ((lL s1 0).length : Int))) (
 chk (0 ≤ (lI s1 2)) <|
 idx false [.str] (lL s1 0) ((lI s1 2).toNat) fun (e2 : r10_) =>
 chk (0 ≤ (lI s1 2) ∧ (lI s1 2).toNat < (lL s1 1).length) <|
 storeO (lL s1 1) ((lI s1 2).toNat) 0 [.str e2.1] fun l3 =>
 some (.inl [.l (lL s1 0), .l l3, .i (IntKind.wrap .i64 ((lI s1 2) + 1))])) (
 some (.inr (0, [.l (lL s1 1)])))) [.l a, .l (List.replicate ((a.length : Int).toNat) (.str [])), .i 0] fun r4 =>
 k (lL r4.2 0)
def F58 : T58 := P58
def X58 : Exits := fun i => lookN i [] [(3, [(.exit 0, xk 22 [(3, .own 1000000 1 .flat [])] [])])]
abbrev s58 : List (Bool × List CK) := [(false, [.sl 1 true])]
def G58 (F : T58) (β : Type) (e : argsT s58) (k : V → Option β) : Option β := F β e.1.1 (fun y1 => k (.own 0 1 .flat y1))
abbrev W58 (F : T58) : WT := wrap s58 (G58 F)
theorem k58 : KO [] X58 58 Tryz.f58 s58 (G58 (P58)) := fun _ _ _ => by kernel_rfl
theorem ok58 : FnOk D 58 (W58 F58) := oW Tryz.func58 (tn) (k58 )
abbrev T51 : Type 1 := (β : Type) → Bool → LsV → LsV → LsV → LU → (Bool → LsV → LsV → LsV → LU → Option β) → Option β
def P51 (F58 : T58) : T51 := fun β a b c d f k =>
 F58 _ b fun l1 =>
 F58 _ c fun l2 =>
 F58 _ d fun l3 =>
 k a l1 l2 l3 f
def F51 : T51 := P51 F58
abbrev s51 : List (Bool × List CK) := [(true, q9)]
def G51 (F : T51) (β : Type) (e : argsT s51) (k : V → Option β) : Option β := let a:=e.1;let b:=a.2;let c:=b.2;let d:=c.2;let f:=d.2;F β a.1 b.1 c.1 d.1 f.1 (fun y1 y2 y3 y4 y5 => k (.agg [.bool y1, .own 1 1 .flat y2, .own 2 1 .flat y3, .own 3 1 .flat y4, .str y5]))
abbrev W51 (F : T51) : WT := wrap s51 (G51 F)
theorem k51 (F58 : T58) : KO [(58, W58 F58)] noX 51 Tryz.f51 s51 (G51 (P51 F58)) := fun _ _ _ => by kernel_rfl
theorem ok51 : FnOk D 51 (W51 F51) := oW Tryz.func51 (tc ok58 tn) (k51 F58 )
abbrev T52 : Type 1 := (β : Type) → LU → (LU → Option β) → Option β
def P52 : T52 := fun β a k =>
 k a
def F52 : T52 := P52
abbrev s52 : List (Bool × List CK) := [(true, [.str])]
def G52 (F : T52) (β : Type) (e : argsT s52) (k : V → Option β) : Option β := F β e.1.1 (fun y1 => k (.agg [.str y1]))
abbrev W52 (F : T52) : WT := wrap s52 (G52 F)
theorem k52 : KO [] noX 52 Tryz.f52 s52 (G52 (P52)) := fun _ _ _ => by kernel_rfl
theorem ok52 : FnOk D 52 (W52 F52) := oW Tryz.func52 (tn) (k52 )
abbrev T214 : Type 1 := T50
def P214 : T214 := fun β a b k =>
 k a b
def F214 : T214 := P214
abbrev s214 : List (Bool × List CK) := s50
abbrev G214 := G50
abbrev W214 (F : T214) : WT := wrap s214 (G214 F)
theorem k214 : KO [] noX 214 Tryz.f214 s214 (G214 (P214)) := fun _ _ _ => by kernel_rfl
theorem ok214 : FnOk D 214 (W214 F214) := oW Tryz.func214 (tn) (k214 )
abbrev T181 : Type 1 := T58
def P181 (F214 : T214) : T181 := fun β a k =>
 chk (0 ≤ (a.length : Int) ∧ (a.length : Int) ≤ (a.length : Int) ∧ (a.length : Int) * 32 ≤ 140737488355328 ∧ (a.length : Int) ≤ 140737488355328) <|
 whileK (fun s1 =>
 br (decide ((lI s1 2) < ((lL s1 0).length : Int))) (
 chk (0 ≤ (lI s1 2)) <|
 idx true [.str, .str] (lL s1 0) ((lI s1 2).toNat) fun (e2 : r8_) =>
 F214 _ e2.1 e2.2.1 fun t3 t4 =>
 chk (0 ≤ (lI s1 2) ∧ (lI s1 2).toNat < (lL s1 1).length) <|
 storeO (lL s1 1) ((lI s1 2).toNat) 0 [.str t3, .str t4] fun l5 =>
 some (.inl [.l (lL s1 0), .l l5, .i (IntKind.wrap .i64 ((lI s1 2) + 1))])) (
 some (.inr (0, [.l (lL s1 1)])))) [.l a, .l (List.replicate ((a.length : Int).toNat) (.agg [.str [], .str []])), .i 0] fun r6 =>
 k (lL r6.2 0)
def F181 : T181 := P181 F214
def X181 : Exits := fun i => lookN i [] [(3, [(.exit 0, xk 23 [(3, .own 1000000 2 .flat [])] [])])]
abbrev s181 : List (Bool × List CK) := [(false, [.sl 2 true])]
def G181 (F : T181) (β : Type) (e : argsT s181) (k : V → Option β) : Option β := F β e.1.1 (fun y1 => k (.own 0 2 .flat y1))
abbrev W181 (F : T181) : WT := wrap s181 (G181 F)
theorem k181 (F214 : T214) : KO [(214, W214 F214)] X181 181 Tryz.f181 s181 (G181 (P181 F214)) := fun _ _ _ => by kernel_rfl
theorem ok181 : FnOk D 181 (W181 F181) := oW Tryz.func181 (tc ok214 tn) (k181 F214 )
abbrev T116 : Type 1 := (β : Type) → Int → LU → LsV → LU → (Int → LU → LsV → LU → Option β) → Option β
def P116 (F181 : T181) : T116 := fun β a b c d k =>
 F181 _ c fun l1 =>
 k a b l1 d
def F116 : T116 := P116 F181
abbrev s116 : List (Bool × List CK) := [(true, q6)]
def G116 (F : T116) (β : Type) (e : argsT s116) (k : V → Option β) : Option β := F β e.1.1 e.1.2.1 e.1.2.2.1 e.1.2.2.2.1 (fun y1 y2 y3 y4 => k (.agg [.int .i64 y1, .str y2, .own 2 2 .flat y3, .str y4]))
abbrev W116 (F : T116) : WT := wrap s116 (G116 F)
theorem k116 (F181 : T181) : KO [(181, W181 F181)] noX 116 Tryz.f116 s116 (G116 (P116 F181)) := fun _ _ _ => by kernel_rfl
theorem ok116 : FnOk D 116 (W116 F116) := oW Tryz.func116 (tc ok181 tn) (k116 F181 )
abbrev T53 : Type 1 := T58
def P53 (F116 : T116) : T53 := fun β a k =>
 chk (0 ≤ (a.length : Int) ∧ (a.length : Int) ≤ (a.length : Int) ∧ (a.length : Int) * 64 ≤ 140737488355328 ∧ (a.length : Int) ≤ 140737488355328) <|
 whileK (fun s1 =>
 br (decide ((lI s1 2) < ((lL s1 0).length : Int))) (
 chk (0 ≤ (lI s1 2)) <|
 idx true q6 (lL s1 0) ((lI s1 2).toNat) fun (e2 : r2_) =>
 F116 _ e2.1 e2.2.1 e2.2.2.1 e2.2.2.2.1 fun n3 t4 l5 t6 =>
 chk (0 ≤ (lI s1 2) ∧ (lI s1 2).toNat < (lL s1 1).length) <|
 storeO (lL s1 1) ((lI s1 2).toNat) 0 [.int .i64 n3, .str t4, .sl 2 true l5, .str t6] fun l7 =>
 some (.inl [.l (lL s1 0), .l l7, .i (IntKind.wrap .i64 ((lI s1 2) + 1))])) (
 some (.inr (0, [.l (lL s1 1)])))) [.l a, .l (List.replicate ((a.length : Int).toNat) (.agg [.int .i64 0, .str [], .sl 2 true [], .str []])), .i 0] fun r8 =>
 k (lL r8.2 0)
def F53 : T53 := P53 F116
def X53 : Exits := fun i => lookN i [] [(3, [(.exit 0, xk 23 [(3, .own 1000000 4 .clean [])] [])])]
abbrev s53 : List (Bool × List CK) := [(false, [.sl 4 false])]
def G53 (F : T53) (β : Type) (e : argsT s53) (k : V → Option β) : Option β := F β e.1.1 (fun y1 => k (.own 0 4 .clean y1))
abbrev W53 (F : T53) : WT := wrap s53 (G53 F)
theorem k53 (F116 : T116) : KO [(116, W116 F116)] X53 53 Tryz.f53 s53 (G53 (P53 F116)) := fun _ _ _ => by kernel_rfl
theorem ok53 : FnOk D 53 (W53 F53) := oW Tryz.func53 (tc ok116 tn) (k53 F116 )
abbrev T182 : Type 1 := (β : Type) → LU → LU → Int → LsV → (LU → LU → Int → LsV → Option β) → Option β
def P182 (F181 : T181) : T182 := fun β a b c d k =>
 F181 _ d fun l1 =>
 k a b c l1
def F182 : T182 := P182 F181
abbrev s182 : List (Bool × List CK) := [(true, q7)]
def G182 (F : T182) (β : Type) (e : argsT s182) (k : V → Option β) : Option β := F β e.1.1 e.1.2.1 e.1.2.2.1 e.1.2.2.2.1 (fun y1 y2 y3 y4 => k (.agg [.str y1, .str y2, .int .i64 y3, .own 3 2 .flat y4]))
abbrev W182 (F : T182) : WT := wrap s182 (G182 F)
theorem k182 (F181 : T181) : KO [(181, W181 F181)] noX 182 Tryz.f182 s182 (G182 (P182 F181)) := fun _ _ _ => by kernel_rfl
theorem ok182 : FnOk D 182 (W182 F182) := oW Tryz.func182 (tc ok181 tn) (k182 F181 )
abbrev T117 : Type 1 := T58
def P117 (F182 : T182) : T117 := fun β a k =>
 chk (0 ≤ (a.length : Int) ∧ (a.length : Int) ≤ (a.length : Int) ∧ (a.length : Int) * 64 ≤ 140737488355328 ∧ (a.length : Int) ≤ 140737488355328) <|
 whileK (fun s1 =>
 br (decide ((lI s1 2) < ((lL s1 0).length : Int))) (
 chk (0 ≤ (lI s1 2)) <|
 idx true q7 (lL s1 0) ((lI s1 2).toNat) fun (e2 : r7_) =>
 F182 _ e2.1 e2.2.1 e2.2.2.1 e2.2.2.2.1 fun t3 t4 n5 l6 =>
 chk (0 ≤ (lI s1 2) ∧ (lI s1 2).toNat < (lL s1 1).length) <|
 storeO (lL s1 1) ((lI s1 2).toNat) 0 [.str t3, .str t4, .int .i64 n5, .sl 2 true l6] fun l7 =>
 some (.inl [.l (lL s1 0), .l l7, .i (IntKind.wrap .i64 ((lI s1 2) + 1))])) (
 some (.inr (0, [.l (lL s1 1)])))) [.l a, .l (List.replicate ((a.length : Int).toNat) (.agg [.str [], .str [], .int .i64 0, .sl 2 true []])), .i 0] fun r8 =>
 k (lL r8.2 0)
def F117 : T117 := P117 F182
def X117 : Exits := fun i => lookN i [] [(3, [(.exit 0, xk 23 [(3, .own 1000000 4 .clean [])] [])])]
abbrev s117 : List (Bool × List CK) := s53
abbrev G117 := G53
abbrev W117 (F : T117) : WT := wrap s117 (G117 F)
theorem k117 (F182 : T182) : KO [(182, W182 F182)] X117 117 Tryz.f117 s117 (G117 (P117 F182)) := fun _ _ _ => by kernel_rfl
theorem ok117 : FnOk D 117 (W117 F117) := oW Tryz.func117 (tc ok182 tn) (k117 F182 )
abbrev T118 : Type 1 := T58
def P118 : T118 := fun β a k =>
 chk (0 ≤ (a.length : Int) ∧ (a.length : Int) ≤ (a.length : Int) ∧ (a.length : Int) * 8 ≤ 140737488355328 ∧ (a.length : Int) ≤ 140737488355328) <|
 whileK (fun s1 =>
 br (decide ((lI s1 2) < ((lL s1 0).length : Int))) (
 chk (0 ≤ (lI s1 2)) <|
 idx false [.int .i64] (lL s1 0) ((lI s1 2).toNat) fun (e2 : Int × Unit) =>
 chk (0 ≤ (lI s1 2) ∧ (lI s1 2).toNat < (lL s1 1).length) <|
 storeO (lL s1 1) ((lI s1 2).toNat) 0 [.int .i64 e2.1] fun l3 =>
 some (.inl [.l (lL s1 0), .l l3, .i (IntKind.wrap .i64 ((lI s1 2) + 1))])) (
 some (.inr (0, [.l (lL s1 1)])))) [.l a, .l (List.replicate ((a.length : Int).toNat) (.int .i64 0)), .i 0] fun r4 =>
 k (lL r4.2 0)
def F118 : T118 := P118
def X118 : Exits := fun i => lookN i [] [(3, [(.exit 0, xk 22 [(3, .own 1000000 1 .flat [])] [])])]
abbrev s118 : List (Bool × List CK) := s58
abbrev G118 := G58
abbrev W118 (F : T118) : WT := wrap s118 (G118 F)
theorem k118 : KO [] X118 118 Tryz.f118 s118 (G118 (P118)) := fun _ _ _ => by kernel_rfl
theorem ok118 : FnOk D 118 (W118 F118) := oW Tryz.func118 (tn) (k118 )
abbrev T54 : Type 1 := (β : Type) → LsV → LsV → (LsV → LsV → Option β) → Option β
def P54 (F117 : T117) (F118 : T118) : T54 := fun β a b k =>
 F117 _ a fun l1 =>
 F118 _ b fun l2 =>
 k l1 l2
def F54 : T54 := P54 F117 F118
abbrev s54 : List (Bool × List CK) := [(true, q10)]
def G54 (F : T54) (β : Type) (e : argsT s54) (k : V → Option β) : Option β := F β e.1.1 e.1.2.1 (fun y1 y2 => k (.agg [.own 0 4 .clean y1, .own 1 1 .flat y2]))
abbrev W54 (F : T54) : WT := wrap s54 (G54 F)
theorem k54 (F117 : T117) (F118 : T118) : KO [(117, W117 F117), (118, W118 F118)] noX 54 Tryz.f54 s54 (G54 (P54 F117 F118)) := fun _ _ _ => by kernel_rfl
theorem ok54 : FnOk D 54 (W54 F54) := oW Tryz.func54 (tc ok117 (tc ok118 tn)) (k54 F117 F118 )
abbrev T119 : Type 1 := (β : Type) → Int → LU → LU → LU → Int → Bool → Int → LU → (Int → LU → LU → LU → Int → Bool → Int → LU → Option β) → Option β
def P119 (F50 : T50) : T119 := fun β a b c d f g h i k =>
 F50 _ b c fun t1 t2 =>
 k a t1 t2 d f g h i
def F119 : T119 := P119 F50
abbrev s119 : List (Bool × List CK) := [(true, q2)]
def G119 (F : T119) (β : Type) (e : argsT s119) (k : V → Option β) : Option β := let a:=e.1;let b:=a.2;let c:=b.2;let d:=c.2;let f:=d.2;let g:=f.2;let h:=g.2;let i:=h.2;F β a.1 b.1 c.1 d.1 f.1 g.1 h.1 i.1 (fun y1 y2 y3 y4 y5 y6 y7 y8 => k (.agg [.int .i64 y1, .str y2, .str y3, .str y4, .int .i64 y5, .bool y6, .int .i64 y7, .str y8]))
abbrev W119 (F : T119) : WT := wrap s119 (G119 F)
theorem k119 (F50 : T50) : KO [(50, W50 F50)] noX 119 Tryz.f119 s119 (G119 (P119 F50)) := fun _ _ _ => by kernel_rfl
theorem ok119 : FnOk D 119 (W119 F119) := oW Tryz.func119 (tc ok50 tn) (k119 F50 )
abbrev T55 : Type 1 := T58
def P55 (F119 : T119) : T55 := fun β a k =>
 chk (0 ≤ (a.length : Int) ∧ (a.length : Int) ≤ (a.length : Int) ∧ (a.length : Int) * 96 ≤ 140737488355328 ∧ (a.length : Int) ≤ 140737488355328) <|
 whileK (fun s1 =>
 br (decide ((lI s1 2) < ((lL s1 0).length : Int))) (
 chk (0 ≤ (lI s1 2)) <|
 idx true q2 (lL s1 0) ((lI s1 2).toNat) fun (e2 : r0_) =>
 F119 _ e2.1 e2.2.1 e2.2.2.1 e2.2.2.2.1 e2.2.2.2.2.1 e2.2.2.2.2.2.1 e2.2.2.2.2.2.2.1 e2.2.2.2.2.2.2.2.1 fun n3 t4 t5 t6 n7 b8 n9 t10 =>
 chk (0 ≤ (lI s1 2) ∧ (lI s1 2).toNat < (lL s1 1).length) <|
 storeO (lL s1 1) ((lI s1 2).toNat) 0 [.int .i64 n3, .str t4, .str t5, .str t6, .int .i64 n7, .bool b8, .int .i64 n9, .str t10] fun l11 =>
 some (.inl [.l (lL s1 0), .l l11, .i (IntKind.wrap .i64 ((lI s1 2) + 1))])) (
 some (.inr (0, [.l (lL s1 1)])))) [.l a, .l (List.replicate ((a.length : Int).toNat) (.agg [.int .i64 0, .str [], .str [], .str [], .int .i64 0, .bool false, .int .i64 0, .str []])), .i 0] fun r12 =>
 k (lL r12.2 0)
def F55 : T55 := P55 F119
def X55 : Exits := fun i => lookN i [] [(3, [(.exit 0, xk 23 [(3, .own 1000000 8 .flat [])] [])])]
abbrev s55 : List (Bool × List CK) := [(false, [.sl 8 true])]
def G55 (F : T55) (β : Type) (e : argsT s55) (k : V → Option β) : Option β := F β e.1.1 (fun y1 => k (.own 0 8 .flat y1))
abbrev W55 (F : T55) : WT := wrap s55 (G55 F)
theorem k55 (F119 : T119) : KO [(119, W119 F119)] X55 55 Tryz.f55 s55 (G55 (P55 F119)) := fun _ _ _ => by kernel_rfl
theorem ok55 : FnOk D 55 (W55 F55) := oW Tryz.func55 (tc ok119 tn) (k55 F119 )
abbrev T120 : Type 1 := (β : Type) → LU → LU → Bool → Int → LU → (LU → LU → Bool → Int → LU → Option β) → Option β
def P120 (F50 : T50) : T120 := fun β a b c d f k =>
 F50 _ a b fun t1 t2 =>
 k t1 t2 c d f
def F120 : T120 := P120 F50
abbrev s120 : List (Bool × List CK) := [(true, q5)]
def G120 (F : T120) (β : Type) (e : argsT s120) (k : V → Option β) : Option β := let a:=e.1;let b:=a.2;let c:=b.2;let d:=c.2;let f:=d.2;F β a.1 b.1 c.1 d.1 f.1 (fun y1 y2 y3 y4 y5 => k (.agg [.str y1, .str y2, .bool y3, .int .i64 y4, .str y5]))
abbrev W120 (F : T120) : WT := wrap s120 (G120 F)
theorem k120 (F50 : T50) : KO [(50, W50 F50)] noX 120 Tryz.f120 s120 (G120 (P120 F50)) := fun _ _ _ => by kernel_rfl
theorem ok120 : FnOk D 120 (W120 F120) := oW Tryz.func120 (tc ok50 tn) (k120 F50 )
abbrev T56 : Type 1 := T58
def P56 (F120 : T120) : T56 := fun β a k =>
 chk (0 ≤ (a.length : Int) ∧ (a.length : Int) ≤ (a.length : Int) ∧ (a.length : Int) * 64 ≤ 140737488355328 ∧ (a.length : Int) ≤ 140737488355328) <|
 whileK (fun s1 =>
 br (decide ((lI s1 2) < ((lL s1 0).length : Int))) (
 chk (0 ≤ (lI s1 2)) <|
 idx true q5 (lL s1 0) ((lI s1 2).toNat) fun (e2 : r5_) =>
 F120 _ e2.1 e2.2.1 e2.2.2.1 e2.2.2.2.1 e2.2.2.2.2.1 fun t3 t4 b5 n6 t7 =>
 chk (0 ≤ (lI s1 2) ∧ (lI s1 2).toNat < (lL s1 1).length) <|
 storeO (lL s1 1) ((lI s1 2).toNat) 0 [.str t3, .str t4, .bool b5, .int .i64 n6, .str t7] fun l8 =>
 some (.inl [.l (lL s1 0), .l l8, .i (IntKind.wrap .i64 ((lI s1 2) + 1))])) (
 some (.inr (0, [.l (lL s1 1)])))) [.l a, .l (List.replicate ((a.length : Int).toNat) (.agg [.str [], .str [], .bool false, .int .i64 0, .str []])), .i 0] fun r9 =>
 k (lL r9.2 0)
def F56 : T56 := P56 F120
def X56 : Exits := fun i => lookN i [] [(3, [(.exit 0, xk 23 [(3, .own 1000000 5 .flat [])] [])])]
abbrev s56 : List (Bool × List CK) := [(false, [.sl 5 true])]
def G56 (F : T56) (β : Type) (e : argsT s56) (k : V → Option β) : Option β := F β e.1.1 (fun y1 => k (.own 0 5 .flat y1))
abbrev W56 (F : T56) : WT := wrap s56 (G56 F)
theorem k56 (F120 : T120) : KO [(120, W120 F120)] X56 56 Tryz.f56 s56 (G56 (P56 F120)) := fun _ _ _ => by kernel_rfl
theorem ok56 : FnOk D 56 (W56 F56) := oW Tryz.func56 (tc ok120 tn) (k56 F120 )
abbrev T57 : Type 1 := T58
def P57 (F50 : T50) : T57 := fun β a k =>
 chk (0 ≤ (a.length : Int) ∧ (a.length : Int) ≤ (a.length : Int) ∧ (a.length : Int) * 32 ≤ 140737488355328 ∧ (a.length : Int) ≤ 140737488355328) <|
 whileK (fun s1 =>
 br (decide ((lI s1 2) < ((lL s1 0).length : Int))) (
 chk (0 ≤ (lI s1 2)) <|
 idx true [.str, .str] (lL s1 0) ((lI s1 2).toNat) fun (e2 : r8_) =>
 F50 _ e2.1 e2.2.1 fun t3 t4 =>
 chk (0 ≤ (lI s1 2) ∧ (lI s1 2).toNat < (lL s1 1).length) <|
 storeO (lL s1 1) ((lI s1 2).toNat) 0 [.str t3, .str t4] fun l5 =>
 some (.inl [.l (lL s1 0), .l l5, .i (IntKind.wrap .i64 ((lI s1 2) + 1))])) (
 some (.inr (0, [.l (lL s1 1)])))) [.l a, .l (List.replicate ((a.length : Int).toNat) (.agg [.str [], .str []])), .i 0] fun r6 =>
 k (lL r6.2 0)
def F57 : T57 := P57 F50
def X57 : Exits := fun i => lookN i [] [(3, [(.exit 0, xk 23 [(3, .own 1000000 2 .flat [])] [])])]
abbrev s57 : List (Bool × List CK) := s181
abbrev G57 := G181
abbrev W57 (F : T57) : WT := wrap s57 (G57 F)
theorem k57 (F50 : T50) : KO [(50, W50 F50)] X57 57 Tryz.f57 s57 (G57 (P57 F50)) := fun _ _ _ => by kernel_rfl
theorem ok57 : FnOk D 57 (W57 F57) := oW Tryz.func57 (tc ok50 tn) (k57 F50 )
abbrev T11 : Type 1 := (β : Type) → LU → LU → Bool → LsV → LsV → LsV → LU → LU → LsV → Bool → LsV → LsV → LsV → LsV → LsV → Int → Int → Int → Int → LsV → LsV → Bool → (LU → LU → Bool → LsV → LsV → LsV → LU → LU → LsV → Bool → LsV → LsV → LsV → LsV → LsV → Int → Int → Int → Int → LsV → LsV → Bool → Option β) → Option β
def P11 (F50 : T50) (F51 : T51) (F52 : T52) (F53 : T53) (F54 : T54) (F55 : T55) (F56 : T56) (F57 : T57) (F58 : T58) : T11 := fun β a b c d f g h i j l m n o p q r s t u v w x k =>
 F50 _ a b fun t1 t2 =>
 F51 _ c d f g h fun b3 l4 l5 l6 t7 =>
 F52 _ i fun t8 =>
 F53 _ j fun l9 =>
 F54 _ m n fun l10 l11 =>
 F55 _ o fun l12 =>
 F56 _ p fun l13 =>
 F57 _ q fun l14 =>
 F57 _ v fun l15 =>
 F58 _ w fun l16 =>
 k t1 t2 b3 l4 l5 l6 t7 t8 l9 l l10 l11 l12 l13 l14 r s t u l15 l16 x
def F11 : T11 := P11 F50 F51 F52 F53 F54 F55 F56 F57 F58
abbrev s11 : List (Bool × List CK) := [(true, q0)]
def G11 (F : T11) (β : Type) (e : argsT s11) (k : V → Option β) : Option β := let a:=e.1;let b:=a.2;let c:=b.2;let d:=c.2;let f:=d.2;let g:=f.2;let h:=g.2;let i:=h.2;let j:=i.2;let l:=j.2;let m:=l.2;let n:=m.2;let o:=n.2;let p:=o.2;let q:=p.2;let r:=q.2;let s:=r.2;let t:=s.2;let u:=t.2;let v:=u.2;let w:=v.2;let x:=w.2;F β a.1 b.1 c.1 d.1 f.1 g.1 h.1 i.1 j.1 l.1 m.1 n.1 o.1 p.1 q.1 r.1 s.1 t.1 u.1 v.1 w.1 x.1 (fun y1 y2 y3 y4 y5 y6 y7 y8 y9 y10 y11 y12 y13 y14 y15 y16 y17 y18 y19 y20 y21 y22 => k (.agg [.str y1, .str y2, .bool y3, .own 3 1 .flat y4, .own 4 1 .flat y5, .own 5 1 .flat y6, .str y7, .str y8, .own 8 4 .clean y9, .bool y10, .own 10 4 .clean y11, .own 11 1 .flat y12, .own 12 8 .flat y13, .own 13 5 .flat y14, .own 14 2 .flat y15, .int .i64 y16, .int .i64 y17, .int .i64 y18, .int .i64 y19, .own 19 2 .flat y20, .own 20 1 .flat y21, .bool y22]))
abbrev W11 (F : T11) : WT := wrap s11 (G11 F)
theorem k11 (F50 : T50) (F51 : T51) (F52 : T52) (F53 : T53) (F54 : T54) (F55 : T55) (F56 : T56) (F57 : T57) (F58 : T58) : KO [(50, W50 F50), (51, W51 F51), (52, W52 F52), (53, W53 F53), (54, W54 F54), (55, W55 F55), (56, W56 F56), (57, W57 F57), (58, W58 F58)] noX 11 Tryz.f11 s11 (G11 (P11 F50 F51 F52 F53 F54 F55 F56 F57 F58)) := fun _ _ _ => by kernel_rfl
theorem ok11 : FnOk D 11 (W11 F11) := oW Tryz.func11 (tc ok50 (tc ok51 (tc ok52 (tc ok53 (tc ok54 (tc ok55 (tc ok56 (tc ok57 (tc ok58 tn))))))))) (k11 F50 F51 F52 F53 F54 F55 F56 F57 F58 )
abbrev T190 : Type 1 := (β : Type) → Int → Int → LU → Int → Bool → LU → (Int → Int → LU → Int → Bool → LU → Option β) → Option β
def P190 : T190 := fun β a b c d f g k =>
 k a b c d f g
def F190 : T190 := P190
abbrev s190 : List (Bool × List CK) := [(true, q8)]
def G190 (F : T190) (β : Type) (e : argsT s190) (k : V → Option β) : Option β := let a:=e.1;let b:=a.2;let c:=b.2;let d:=c.2;let f:=d.2;let g:=f.2;F β a.1 b.1 c.1 d.1 f.1 g.1 (fun y1 y2 y3 y4 y5 y6 => k (.agg [.int .i64 y1, .int .i64 y2, .str y3, .int .i64 y4, .bool y5, .str y6]))
abbrev W190 (F : T190) : WT := wrap s190 (G190 F)
theorem k190 : KO [] noX 190 Tryz.f190 s190 (G190 (P190)) := fun _ _ _ => by kernel_rfl
theorem ok190 : FnOk D 190 (W190 F190) := oW Tryz.func190 (tn) (k190 )
abbrev T149 : Type 1 := (β : Type) → LU → LU → Int → Int → LU → Int → Bool → LU → (LU → LU → Int → Int → LU → Int → Bool → LU → Option β) → Option β
def P149 (F50 : T50) (F190 : T190) : T149 := fun β a b c d f g h i k =>
 F50 _ a b fun t1 t2 =>
 F190 _ c d f g h i fun n3 n4 t5 n6 b7 t8 =>
 k t1 t2 n3 n4 t5 n6 b7 t8
def F149 : T149 := P149 F50 F190
abbrev s149 : List (Bool × List CK) := [(true, q3)]
def G149 (F : T149) (β : Type) (e : argsT s149) (k : V → Option β) : Option β := let a:=e.1;let b:=a.2;let c:=b.2;let d:=c.2;let f:=d.2;let g:=f.2;let h:=g.2;let i:=h.2;F β a.1 b.1 c.1 d.1 f.1 g.1 h.1 i.1 (fun y1 y2 y3 y4 y5 y6 y7 y8 => k (.agg [.str y1, .str y2, .int .i64 y3, .int .i64 y4, .str y5, .int .i64 y6, .bool y7, .str y8]))
abbrev W149 (F : T149) : WT := wrap s149 (G149 F)
theorem k149 (F50 : T50) (F190 : T190) : KO [(50, W50 F50), (190, W190 F190)] noX 149 Tryz.f149 s149 (G149 (P149 F50 F190)) := fun _ _ _ => by kernel_rfl
theorem ok149 : FnOk D 149 (W149 F149) := oW Tryz.func149 (tc ok50 (tc ok190 tn)) (k149 F50 F190 )
abbrev T89 : Type 1 := T58
def P89 (F149 : T149) : T89 := fun β a k =>
 chk (0 ≤ (a.length : Int) ∧ (a.length : Int) ≤ (a.length : Int) ∧ (a.length : Int) * 96 ≤ 140737488355328 ∧ (a.length : Int) ≤ 140737488355328) <|
 whileK (fun s1 =>
 br (decide ((lI s1 2) < ((lL s1 0).length : Int))) (
 chk (0 ≤ (lI s1 2)) <|
 idx true q3 (lL s1 0) ((lI s1 2).toNat) fun (e2 : r6_) =>
 F149 _ e2.1 e2.2.1 e2.2.2.1 e2.2.2.2.1 e2.2.2.2.2.1 e2.2.2.2.2.2.1 e2.2.2.2.2.2.2.1 e2.2.2.2.2.2.2.2.1 fun t3 t4 n5 n6 t7 n8 b9 t10 =>
 chk (0 ≤ (lI s1 2) ∧ (lI s1 2).toNat < (lL s1 1).length) <|
 storeO (lL s1 1) ((lI s1 2).toNat) 0 [.str t3, .str t4, .int .i64 n5, .int .i64 n6, .str t7, .int .i64 n8, .bool b9, .str t10] fun l11 =>
 some (.inl [.l (lL s1 0), .l l11, .i (IntKind.wrap .i64 ((lI s1 2) + 1))])) (
 some (.inr (0, [.l (lL s1 1)])))) [.l a, .l (List.replicate ((a.length : Int).toNat) (.agg [.str [], .str [], .int .i64 0, .int .i64 0, .str [], .int .i64 0, .bool false, .str []])), .i 0] fun r12 =>
 k (lL r12.2 0)
def F89 : T89 := P89 F149
def X89 : Exits := fun i => lookN i [] [(3, [(.exit 0, xk 23 [(3, .own 1000000 8 .flat [])] [])])]
abbrev s89 : List (Bool × List CK) := s55
abbrev G89 := G55
abbrev W89 (F : T89) : WT := wrap s89 (G89 F)
theorem k89 (F149 : T149) : KO [(149, W149 F149)] X89 89 Tryz.f89 s89 (G89 (P89 F149)) := fun _ _ _ => by kernel_rfl
theorem ok89 : FnOk D 89 (W89 F89) := oW Tryz.func89 (tc ok149 tn) (k89 F149 )
abbrev T217 : Type 1 := (β : Type) → LU → Int → Int → LU → Int → Bool → LU → (LU → Int → Int → LU → Int → Bool → LU → Option β) → Option β
def P217 (F190 : T190) : T217 := fun β a b c d f g h k =>
 F190 _ b c d f g h fun n1 n2 t3 n4 b5 t6 =>
 k a n1 n2 t3 n4 b5 t6
def F217 : T217 := P217 F190
abbrev s217 : List (Bool × List CK) := [(true, q4)]
def G217 (F : T217) (β : Type) (e : argsT s217) (k : V → Option β) : Option β := let a:=e.1;let b:=a.2;let c:=b.2;let d:=c.2;let f:=d.2;let g:=f.2;let h:=g.2;F β a.1 b.1 c.1 d.1 f.1 g.1 h.1 (fun y1 y2 y3 y4 y5 y6 y7 => k (.agg [.str y1, .int .i64 y2, .int .i64 y3, .str y4, .int .i64 y5, .bool y6, .str y7]))
abbrev W217 (F : T217) : WT := wrap s217 (G217 F)
theorem k217 (F190 : T190) : KO [(190, W190 F190)] noX 217 Tryz.f217 s217 (G217 (P217 F190)) := fun _ _ _ => by kernel_rfl
theorem ok217 : FnOk D 217 (W217 F217) := oW Tryz.func217 (tc ok190 tn) (k217 F190 )
abbrev T191 : Type 1 := T58
def P191 (F217 : T217) : T191 := fun β a k =>
 chk (0 ≤ (a.length : Int) ∧ (a.length : Int) ≤ (a.length : Int) ∧ (a.length : Int) * 80 ≤ 140737488355328 ∧ (a.length : Int) ≤ 140737488355328) <|
 whileK (fun s1 =>
 br (decide ((lI s1 2) < ((lL s1 0).length : Int))) (
 chk (0 ≤ (lI s1 2)) <|
 idx true q4 (lL s1 0) ((lI s1 2).toNat) fun (e2 : r4_) =>
 F217 _ e2.1 e2.2.1 e2.2.2.1 e2.2.2.2.1 e2.2.2.2.2.1 e2.2.2.2.2.2.1 e2.2.2.2.2.2.2.1 fun t3 n4 n5 t6 n7 b8 t9 =>
 chk (0 ≤ (lI s1 2) ∧ (lI s1 2).toNat < (lL s1 1).length) <|
 storeO (lL s1 1) ((lI s1 2).toNat) 0 [.str t3, .int .i64 n4, .int .i64 n5, .str t6, .int .i64 n7, .bool b8, .str t9] fun l10 =>
 some (.inl [.l (lL s1 0), .l l10, .i (IntKind.wrap .i64 ((lI s1 2) + 1))])) (
 some (.inr (0, [.l (lL s1 1)])))) [.l a, .l (List.replicate ((a.length : Int).toNat) (.agg [.str [], .int .i64 0, .int .i64 0, .str [], .int .i64 0, .bool false, .str []])), .i 0] fun r11 =>
 k (lL r11.2 0)
def F191 : T191 := P191 F217
def X191 : Exits := fun i => lookN i [] [(3, [(.exit 0, xk 23 [(3, .own 1000000 7 .flat [])] [])])]
abbrev s191 : List (Bool × List CK) := [(false, [.sl 7 true])]
def G191 (F : T191) (β : Type) (e : argsT s191) (k : V → Option β) : Option β := F β e.1.1 (fun y1 => k (.own 0 7 .flat y1))
abbrev W191 (F : T191) : WT := wrap s191 (G191 F)
theorem k191 (F217 : T217) : KO [(217, W217 F217)] X191 191 Tryz.f191 s191 (G191 (P191 F217)) := fun _ _ _ => by kernel_rfl
theorem ok191 : FnOk D 191 (W191 F191) := oW Tryz.func191 (tc ok217 tn) (k191 F217 )
abbrev T150 : Type 1 := (β : Type) → LU → LsV → (LU → LsV → Option β) → Option β
def P150 (F191 : T191) : T150 := fun β a b k =>
 F191 _ b fun l1 =>
 k a l1
def F150 : T150 := P150 F191
abbrev s150 : List (Bool × List CK) := [(true, [.str, .sl 7 true])]
def G150 (F : T150) (β : Type) (e : argsT s150) (k : V → Option β) : Option β := F β e.1.1 e.1.2.1 (fun y1 y2 => k (.agg [.str y1, .own 1 7 .flat y2]))
abbrev W150 (F : T150) : WT := wrap s150 (G150 F)
theorem k150 (F191 : T191) : KO [(191, W191 F191)] noX 150 Tryz.f150 s150 (G150 (P150 F191)) := fun _ _ _ => by kernel_rfl
theorem ok150 : FnOk D 150 (W150 F150) := oW Tryz.func150 (tc ok191 tn) (k150 F191 )
abbrev T90 : Type 1 := T58
def P90 (F150 : T150) : T90 := fun β a k =>
 chk (0 ≤ (a.length : Int) ∧ (a.length : Int) ≤ (a.length : Int) ∧ (a.length : Int) * 40 ≤ 140737488355328 ∧ (a.length : Int) ≤ 140737488355328) <|
 whileK (fun s1 =>
 br (decide ((lI s1 2) < ((lL s1 0).length : Int))) (
 chk (0 ≤ (lI s1 2)) <|
 idx true [.str, .sl 7 true] (lL s1 0) ((lI s1 2).toNat) fun (e2 : r9_) =>
 F150 _ e2.1 e2.2.1 fun t3 l4 =>
 chk (0 ≤ (lI s1 2) ∧ (lI s1 2).toNat < (lL s1 1).length) <|
 storeO (lL s1 1) ((lI s1 2).toNat) 0 [.str t3, .sl 7 true l4] fun l5 =>
 some (.inl [.l (lL s1 0), .l l5, .i (IntKind.wrap .i64 ((lI s1 2) + 1))])) (
 some (.inr (0, [.l (lL s1 1)])))) [.l a, .l (List.replicate ((a.length : Int).toNat) (.agg [.str [], .sl 7 true []])), .i 0] fun r6 =>
 k (lL r6.2 0)
def F90 : T90 := P90 F150
def X90 : Exits := fun i => lookN i [] [(3, [(.exit 0, xk 23 [(3, .own 1000000 2 .clean [])] [])])]
abbrev s90 : List (Bool × List CK) := [(false, [.sl 2 false])]
def G90 (F : T90) (β : Type) (e : argsT s90) (k : V → Option β) : Option β := F β e.1.1 (fun y1 => k (.own 0 2 .clean y1))
abbrev W90 (F : T90) : WT := wrap s90 (G90 F)
theorem k90 (F150 : T150) : KO [(150, W150 F150)] X90 90 Tryz.f90 s90 (G90 (P90 F150)) := fun _ _ _ => by kernel_rfl
theorem ok90 : FnOk D 90 (W90 F90) := oW Tryz.func90 (tc ok150 tn) (k90 F150 )
abbrev T22 : Type 1 := (β : Type) → Bool → LU → LU → Bool → LsV → LsV → LsV → LU → LU → LsV → Bool → LsV → LsV → LsV → LsV → LsV → Int → Int → Int → Int → LsV → LsV → Bool → LsV → LsV → Int → (Bool → LU → LU → Bool → LsV → LsV → LsV → LU → LU → LsV → Bool → LsV → LsV → LsV → LsV → LsV → Int → Int → Int → Int → LsV → LsV → Bool → LsV → LsV → Int → Option β) → Option β
def P22 (F11 : T11) (F89 : T89) (F90 : T90) : T22 := fun β a b c d f g h i j l m n o p q r s t u v w x y z a1 b1 k =>
 F11 _ b c d f g h i j l m n o p q r s t u v w x y fun t1 t2 b3 l4 l5 l6 t7 t8 l9 b10 l11 l12 l13 l14 l15 n16 n17 n18 n19 l20 l21 b22 =>
 F89 _ z fun l23 =>
 F90 _ a1 fun l24 =>
 k a t1 t2 b3 l4 l5 l6 t7 t8 l9 b10 l11 l12 l13 l14 l15 n16 n17 n18 n19 l20 l21 b22 l23 l24 b1
def F22 : T22 := P22 F11 F89 F90
abbrev s22 : List (Bool × List CK) := [(true, q1)]
def G22 (F : T22) (β : Type) (e : argsT s22) (k : V → Option β) : Option β := let a:=e.1;let b:=a.2;let c:=b.2;let d:=c.2;let f:=d.2;let g:=f.2;let h:=g.2;let i:=h.2;let j:=i.2;let l:=j.2;let m:=l.2;let n:=m.2;let o:=n.2;let p:=o.2;let q:=p.2;let r:=q.2;let s:=r.2;let t:=s.2;let u:=t.2;let v:=u.2;let w:=v.2;let x:=w.2;let y:=x.2;let z:=y.2;let a1:=z.2;let b1:=a1.2;F β a.1 b.1 c.1 d.1 f.1 g.1 h.1 i.1 j.1 l.1 m.1 n.1 o.1 p.1 q.1 r.1 s.1 t.1 u.1 v.1 w.1 x.1 y.1 z.1 a1.1 b1.1 (fun y1 y2 y3 y4 y5 y6 y7 y8 y9 y10 y11 y12 y13 y14 y15 y16 y17 y18 y19 y20 y21 y22 y23 y24 y25 y26 => k (.agg [.bool y1, .str y2, .str y3, .bool y4, .own 4 1 .flat y5, .own 5 1 .flat y6, .own 6 1 .flat y7, .str y8, .str y9, .own 9 4 .clean y10, .bool y11, .own 11 4 .clean y12, .own 12 1 .flat y13, .own 13 8 .flat y14, .own 14 5 .flat y15, .own 15 2 .flat y16, .int .i64 y17, .int .i64 y18, .int .i64 y19, .int .i64 y20, .own 20 2 .flat y21, .own 21 1 .flat y22, .bool y23, .own 23 8 .flat y24, .own 24 2 .clean y25, .int .i64 y26]))
abbrev W22 (F : T22) : WT := wrap s22 (G22 F)
theorem k22 (F11 : T11) (F89 : T89) (F90 : T90) : KO [(11, W11 F11), (89, W89 F89), (90, W90 F90)] noX 22 Tryz.f22 s22 (G22 (P22 F11 F89 F90)) := fun _ _ _ => by kernel_rfl
theorem ok22 : FnOk D 22 (W22 F22) := oW Tryz.func22 (tc ok11 (tc ok89 (tc ok90 tn))) (k22 F11 F89 F90 )
abbrev T63 : Type 1 := (β : Type) → LU → LU → LU → LU → (Bool → Option β) → Option β
def P63 : T63 := fun β a b c d k =>
 br (!(a == c)) (
 k false) (
 br (!(b == d)) (
 k false) (
 k true))
def F63 : T63 := P63
abbrev s63 : List (Bool × List CK) := [(true, [.str, .str]), (true, [.str, .str])]
def G63 (F : T63) (β : Type) (e : argsT s63) (k : V → Option β) : Option β := F β e.1.1 e.1.2.1 e.2.1.1 e.2.1.2.1 (fun y1 => k (.bool y1))
abbrev W63 (F : T63) : WT := wrap s63 (G63 F)
theorem k63 : KO [] noX 63 Tryz.f63 s63 (G63 (P63)) := fun _ _ _ => by kernel_rfl
theorem ok63 : FnOk D 63 (W63 F63) := oW Tryz.func63 (tn) (k63 )
abbrev T70 : Type 1 := (β : Type) → LsV → LsV → (Bool → Option β) → Option β
def P70 : T70 := fun β a b k =>
 br ((a.length : Int) != (b.length : Int)) (
 k false) (
 whileK (fun s1 =>
 br (decide ((lI s1 2) < ((lL s1 0).length : Int))) (
 chk (0 ≤ (lI s1 2)) <|
 idx false [.str] (lL s1 0) ((lI s1 2).toNat) fun (e2 : r10_) =>
 chk (0 ≤ (lI s1 2)) <|
 idx false [.str] (lL s1 1) ((lI s1 2).toNat) fun (e3 : r10_) =>
 br (!(e2.1 == e3.1)) (
 some (.inr (0, [.b false]))) (
 some (.inl [.l (lL s1 0), .l (lL s1 1), .i (IntKind.wrap .i64 ((lI s1 2) + 1))]))) (
 some (.inr (1, [])))) [.l a, .l b, .i 0] fun r4 =>
 if r4.1 = 0 then
 k (lB r4.2 0)
 else
 k true)
def F70 : T70 := P70
def X70 : Exits := fun i => lookN i [] [(4, [(.ret, xk 26 [(4, .bool false)] []), (.exit 0, xk 26 [] [])])]
abbrev s70 : List (Bool × List CK) := [(false, [.sl 1 true]), (false, [.sl 1 true])]
def G70 (F : T70) (β : Type) (e : argsT s70) (k : V → Option β) : Option β := F β e.1.1 e.2.1.1 (fun y1 => k (.bool y1))
abbrev W70 (F : T70) : WT := wrap s70 (G70 F)
theorem k70 : KO [] X70 70 Tryz.f70 s70 (G70 (P70)) := fun _ _ _ => by kernel_rfl
theorem ok70 : FnOk D 70 (W70 F70) := oW Tryz.func70 (tn) (k70 )
abbrev T64 : Type 1 := (β : Type) → Bool → LsV → LsV → LsV → LU → Bool → LsV → LsV → LsV → LU → (Bool → Option β) → Option β
def P64 (F70 : T70) : T64 := fun β a b c d f g h i j l k =>
 br (!(a == g)) (
 k false) (
 F70 _ b h fun b1 =>
 br (!b1) (
 k false) (
 F70 _ c i fun b2 =>
 br (!b2) (
 k false) (
 F70 _ d j fun b3 =>
 br (!b3) (
 k false) (
 br (!(f == l)) (
 k false) (
 k true)))))
def F64 : T64 := P64 F70
abbrev s64 : List (Bool × List CK) := [(true, q9), (true, q9)]
def G64 (F : T64) (β : Type) (e : argsT s64) (k : V → Option β) : Option β := let a:=e.1;let b:=a.2;let c:=b.2;let d:=c.2;let f:=d.2;let g:=e.2.1;let h:=g.2;let i:=h.2;let j:=i.2;let l:=j.2;F β a.1 b.1 c.1 d.1 f.1 g.1 h.1 i.1 j.1 l.1 (fun y1 => k (.bool y1))
abbrev W64 (F : T64) : WT := wrap s64 (G64 F)
theorem k64 (F70 : T70) : KO [(70, W70 F70)] noX 64 Tryz.f64 s64 (G64 (P64 F70)) := fun _ _ _ => by kernel_rfl
theorem ok64 : FnOk D 64 (W64 F64) := oW Tryz.func64 (tc ok70 tn) (k64 F70 )
abbrev T65 : Type 1 := (β : Type) → LU → LU → (Bool → Option β) → Option β
def P65 : T65 := fun β a b k =>
 br (!(a == b)) (
 k false) (
 k true)
def F65 : T65 := P65
abbrev s65 : List (Bool × List CK) := [(true, [.str]), (true, [.str])]
def G65 (F : T65) (β : Type) (e : argsT s65) (k : V → Option β) : Option β := F β e.1.1 e.2.1.1 (fun y1 => k (.bool y1))
abbrev W65 (F : T65) : WT := wrap s65 (G65 F)
theorem k65 : KO [] noX 65 Tryz.f65 s65 (G65 (P65)) := fun _ _ _ => by kernel_rfl
theorem ok65 : FnOk D 65 (W65 F65) := oW Tryz.func65 (tn) (k65 )
abbrev T215 : Type 1 := T63
def P215 : T215 := fun β a b c d k =>
 br (!(a == c)) (
 k false) (
 br (!(b == d)) (
 k false) (
 k true))
def F215 : T215 := P215
abbrev s215 : List (Bool × List CK) := s63
abbrev G215 := G63
abbrev W215 (F : T215) : WT := wrap s215 (G215 F)
theorem k215 : KO [] noX 215 Tryz.f215 s215 (G215 (P215)) := fun _ _ _ => by kernel_rfl
theorem ok215 : FnOk D 215 (W215 F215) := oW Tryz.func215 (tn) (k215 )
abbrev T184 : Type 1 := T70
def P184 (F215 : T215) : T184 := fun β a b k =>
 br ((a.length : Int) != (b.length : Int)) (
 k false) (
 whileK (fun s1 =>
 br (decide ((lI s1 2) < ((lL s1 0).length : Int))) (
 chk (0 ≤ (lI s1 2)) <|
 idx true [.str, .str] (lL s1 0) ((lI s1 2).toNat) fun (e2 : r8_) =>
 chk (0 ≤ (lI s1 2)) <|
 idx true [.str, .str] (lL s1 1) ((lI s1 2).toNat) fun (e3 : r8_) =>
 F215 _ e2.1 e2.2.1 e3.1 e3.2.1 fun b4 =>
 br (!b4) (
 some (.inr (0, [.b false]))) (
 some (.inl [.l (lL s1 0), .l (lL s1 1), .i (IntKind.wrap .i64 ((lI s1 2) + 1))]))) (
 some (.inr (1, [])))) [.l a, .l b, .i 0] fun r5 =>
 if r5.1 = 0 then
 k (lB r5.2 0)
 else
 k true)
def F184 : T184 := P184 F215
def X184 : Exits := fun i => lookN i [] [(4, [(.ret, xk 27 [(4, .bool false)] []), (.exit 0, xk 27 [] [])])]
abbrev s184 : List (Bool × List CK) := [(false, [.sl 2 true]), (false, [.sl 2 true])]
def G184 (F : T184) (β : Type) (e : argsT s184) (k : V → Option β) : Option β := F β e.1.1 e.2.1.1 (fun y1 => k (.bool y1))
abbrev W184 (F : T184) : WT := wrap s184 (G184 F)
theorem k184 (F215 : T215) : KO [(215, W215 F215)] X184 184 Tryz.f184 s184 (G184 (P184 F215)) := fun _ _ _ => by kernel_rfl
theorem ok184 : FnOk D 184 (W184 F184) := oW Tryz.func184 (tc ok215 tn) (k184 F215 )
abbrev T125 : Type 1 := (β : Type) → Int → LU → LsV → LU → Int → LU → LsV → LU → (Bool → Option β) → Option β
def P125 (F184 : T184) : T125 := fun β a b c d f g h i k =>
 br (a != f) (
 k false) (
 br (!(b == g)) (
 k false) (
 F184 _ c h fun b1 =>
 br (!b1) (
 k false) (
 br (!(d == i)) (
 k false) (
 k true))))
def F125 : T125 := P125 F184
abbrev s125 : List (Bool × List CK) := [(true, q6), (true, q6)]
def G125 (F : T125) (β : Type) (e : argsT s125) (k : V → Option β) : Option β := F β e.1.1 e.1.2.1 e.1.2.2.1 e.1.2.2.2.1 e.2.1.1 e.2.1.2.1 e.2.1.2.2.1 e.2.1.2.2.2.1 (fun y1 => k (.bool y1))
abbrev W125 (F : T125) : WT := wrap s125 (G125 F)
theorem k125 (F184 : T184) : KO [(184, W184 F184)] noX 125 Tryz.f125 s125 (G125 (P125 F184)) := fun _ _ _ => by kernel_rfl
theorem ok125 : FnOk D 125 (W125 F125) := oW Tryz.func125 (tc ok184 tn) (k125 F184 )
abbrev T66 : Type 1 := T70
def P66 (F125 : T125) : T66 := fun β a b k =>
 br ((a.length : Int) != (b.length : Int)) (
 k false) (
 whileK (fun s1 =>
 br (decide ((lI s1 2) < ((lL s1 0).length : Int))) (
 chk (0 ≤ (lI s1 2)) <|
 idx true q6 (lL s1 0) ((lI s1 2).toNat) fun (e2 : r2_) =>
 chk (0 ≤ (lI s1 2)) <|
 idx true q6 (lL s1 1) ((lI s1 2).toNat) fun (e3 : r2_) =>
 F125 _ e2.1 e2.2.1 e2.2.2.1 e2.2.2.2.1 e3.1 e3.2.1 e3.2.2.1 e3.2.2.2.1 fun b4 =>
 br (!b4) (
 some (.inr (0, [.b false]))) (
 some (.inl [.l (lL s1 0), .l (lL s1 1), .i (IntKind.wrap .i64 ((lI s1 2) + 1))]))) (
 some (.inr (1, [])))) [.l a, .l b, .i 0] fun r5 =>
 if r5.1 = 0 then
 k (lB r5.2 0)
 else
 k true)
def F66 : T66 := P66 F125
def X66 : Exits := fun i => lookN i [] [(4, [(.ret, xk 27 [(4, .bool false)] []), (.exit 0, xk 27 [] [])])]
abbrev s66 : List (Bool × List CK) := [(false, [.sl 4 false]), (false, [.sl 4 false])]
def G66 (F : T66) (β : Type) (e : argsT s66) (k : V → Option β) : Option β := F β e.1.1 e.2.1.1 (fun y1 => k (.bool y1))
abbrev W66 (F : T66) : WT := wrap s66 (G66 F)
theorem k66 (F125 : T125) : KO [(125, W125 F125)] X66 66 Tryz.f66 s66 (G66 (P66 F125)) := fun _ _ _ => by kernel_rfl
theorem ok66 : FnOk D 66 (W66 F66) := oW Tryz.func66 (tc ok125 tn) (k66 F125 )
abbrev T185 : Type 1 := (β : Type) → LU → LU → Int → LsV → LU → LU → Int → LsV → (Bool → Option β) → Option β
def P185 (F184 : T184) : T185 := fun β a b c d f g h i k =>
 br (!(a == f)) (
 k false) (
 br (!(b == g)) (
 k false) (
 br (c != h) (
 k false) (
 F184 _ d i fun b1 =>
 br (!b1) (
 k false) (
 k true))))
def F185 : T185 := P185 F184
abbrev s185 : List (Bool × List CK) := [(true, q7), (true, q7)]
def G185 (F : T185) (β : Type) (e : argsT s185) (k : V → Option β) : Option β := F β e.1.1 e.1.2.1 e.1.2.2.1 e.1.2.2.2.1 e.2.1.1 e.2.1.2.1 e.2.1.2.2.1 e.2.1.2.2.2.1 (fun y1 => k (.bool y1))
abbrev W185 (F : T185) : WT := wrap s185 (G185 F)
theorem k185 (F184 : T184) : KO [(184, W184 F184)] noX 185 Tryz.f185 s185 (G185 (P185 F184)) := fun _ _ _ => by kernel_rfl
theorem ok185 : FnOk D 185 (W185 F185) := oW Tryz.func185 (tc ok184 tn) (k185 F184 )
abbrev T126 : Type 1 := T70
def P126 (F185 : T185) : T126 := fun β a b k =>
 br ((a.length : Int) != (b.length : Int)) (
 k false) (
 whileK (fun s1 =>
 br (decide ((lI s1 2) < ((lL s1 0).length : Int))) (
 chk (0 ≤ (lI s1 2)) <|
 idx true q7 (lL s1 0) ((lI s1 2).toNat) fun (e2 : r7_) =>
 chk (0 ≤ (lI s1 2)) <|
 idx true q7 (lL s1 1) ((lI s1 2).toNat) fun (e3 : r7_) =>
 F185 _ e2.1 e2.2.1 e2.2.2.1 e2.2.2.2.1 e3.1 e3.2.1 e3.2.2.1 e3.2.2.2.1 fun b4 =>
 br (!b4) (
 some (.inr (0, [.b false]))) (
 some (.inl [.l (lL s1 0), .l (lL s1 1), .i (IntKind.wrap .i64 ((lI s1 2) + 1))]))) (
 some (.inr (1, [])))) [.l a, .l b, .i 0] fun r5 =>
 if r5.1 = 0 then
 k (lB r5.2 0)
 else
 k true)
def F126 : T126 := P126 F185
def X126 : Exits := fun i => lookN i [] [(4, [(.ret, xk 27 [(4, .bool false)] []), (.exit 0, xk 27 [] [])])]
abbrev s126 : List (Bool × List CK) := s66
abbrev G126 := G66
abbrev W126 (F : T126) : WT := wrap s126 (G126 F)
theorem k126 (F185 : T185) : KO [(185, W185 F185)] X126 126 Tryz.f126 s126 (G126 (P126 F185)) := fun _ _ _ => by kernel_rfl
theorem ok126 : FnOk D 126 (W126 F126) := oW Tryz.func126 (tc ok185 tn) (k126 F185 )
abbrev T127 : Type 1 := T70
def P127 : T127 := fun β a b k =>
 br ((a.length : Int) != (b.length : Int)) (
 k false) (
 whileK (fun s1 =>
 br (decide ((lI s1 2) < ((lL s1 0).length : Int))) (
 chk (0 ≤ (lI s1 2)) <|
 idx false [.int .i64] (lL s1 0) ((lI s1 2).toNat) fun (e2 : Int × Unit) =>
 chk (0 ≤ (lI s1 2)) <|
 idx false [.int .i64] (lL s1 1) ((lI s1 2).toNat) fun (e3 : Int × Unit) =>
 br (e2.1 != e3.1) (
 some (.inr (0, [.b false]))) (
 some (.inl [.l (lL s1 0), .l (lL s1 1), .i (IntKind.wrap .i64 ((lI s1 2) + 1))]))) (
 some (.inr (1, [])))) [.l a, .l b, .i 0] fun r4 =>
 if r4.1 = 0 then
 k (lB r4.2 0)
 else
 k true)
def F127 : T127 := P127
def X127 : Exits := fun i => lookN i [] [(4, [(.ret, xk 26 [(4, .bool false)] []), (.exit 0, xk 26 [] [])])]
abbrev s127 : List (Bool × List CK) := s70
abbrev G127 := G70
abbrev W127 (F : T127) : WT := wrap s127 (G127 F)
theorem k127 : KO [] X127 127 Tryz.f127 s127 (G127 (P127)) := fun _ _ _ => by kernel_rfl
theorem ok127 : FnOk D 127 (W127 F127) := oW Tryz.func127 (tn) (k127 )
abbrev T67 : Type 1 := (β : Type) → LsV → LsV → LsV → LsV → (Bool → Option β) → Option β
def P67 (F126 : T126) (F127 : T127) : T67 := fun β a b c d k =>
 F126 _ a c fun b1 =>
 br (!b1) (
 k false) (
 F127 _ b d fun b2 =>
 br (!b2) (
 k false) (
 k true))
def F67 : T67 := P67 F126 F127
abbrev s67 : List (Bool × List CK) := [(true, q10), (true, q10)]
def G67 (F : T67) (β : Type) (e : argsT s67) (k : V → Option β) : Option β := F β e.1.1 e.1.2.1 e.2.1.1 e.2.1.2.1 (fun y1 => k (.bool y1))
abbrev W67 (F : T67) : WT := wrap s67 (G67 F)
theorem k67 (F126 : T126) (F127 : T127) : KO [(126, W126 F126), (127, W127 F127)] noX 67 Tryz.f67 s67 (G67 (P67 F126 F127)) := fun _ _ _ => by kernel_rfl
theorem ok67 : FnOk D 67 (W67 F67) := oW Tryz.func67 (tc ok126 (tc ok127 tn)) (k67 F126 F127 )
abbrev T128 : Type 1 := (β : Type) → Int → LU → LU → LU → Int → Bool → Int → LU → Int → LU → LU → LU → Int → Bool → Int → LU → (Bool → Option β) → Option β
def P128 (F63 : T63) : T128 := fun β a b c d f g h i j l m n o p q r k =>
 br (a != j) (
 k false) (
 F63 _ b c l m fun b1 =>
 br (!b1) (
 k false) (
 br (!(d == n)) (
 k false) (
 br (f != o) (
 k false) (
 br (!(g == p)) (
 k false) (
 br (h != q) (
 k false) (
 br (!(i == r)) (
 k false) (
 k true)))))))
def F128 : T128 := P128 F63
abbrev s128 : List (Bool × List CK) := [(true, q2), (true, q2)]
def G128 (F : T128) (β : Type) (e : argsT s128) (k : V → Option β) : Option β := let a:=e.1;let b:=a.2;let c:=b.2;let d:=c.2;let f:=d.2;let g:=f.2;let h:=g.2;let i:=h.2;let j:=e.2.1;let l:=j.2;let m:=l.2;let n:=m.2;let o:=n.2;let p:=o.2;let q:=p.2;let r:=q.2;F β a.1 b.1 c.1 d.1 f.1 g.1 h.1 i.1 j.1 l.1 m.1 n.1 o.1 p.1 q.1 r.1 (fun y1 => k (.bool y1))
abbrev W128 (F : T128) : WT := wrap s128 (G128 F)
theorem k128 (F63 : T63) : KO [(63, W63 F63)] noX 128 Tryz.f128 s128 (G128 (P128 F63)) := fun _ _ _ => by kernel_rfl
theorem ok128 : FnOk D 128 (W128 F128) := oW Tryz.func128 (tc ok63 tn) (k128 F63 )
abbrev T68 : Type 1 := T70
def P68 (F128 : T128) : T68 := fun β a b k =>
 br ((a.length : Int) != (b.length : Int)) (
 k false) (
 whileK (fun s1 =>
 br (decide ((lI s1 2) < ((lL s1 0).length : Int))) (
 chk (0 ≤ (lI s1 2)) <|
 idx true q2 (lL s1 0) ((lI s1 2).toNat) fun (e2 : r0_) =>
 chk (0 ≤ (lI s1 2)) <|
 idx true q2 (lL s1 1) ((lI s1 2).toNat) fun (e3 : r0_) =>
 F128 _ e2.1 e2.2.1 e2.2.2.1 e2.2.2.2.1 e2.2.2.2.2.1 e2.2.2.2.2.2.1 e2.2.2.2.2.2.2.1 e2.2.2.2.2.2.2.2.1 e3.1 e3.2.1 e3.2.2.1 e3.2.2.2.1 e3.2.2.2.2.1 e3.2.2.2.2.2.1 e3.2.2.2.2.2.2.1 e3.2.2.2.2.2.2.2.1 fun b4 =>
 br (!b4) (
 some (.inr (0, [.b false]))) (
 some (.inl [.l (lL s1 0), .l (lL s1 1), .i (IntKind.wrap .i64 ((lI s1 2) + 1))]))) (
 some (.inr (1, [])))) [.l a, .l b, .i 0] fun r5 =>
 if r5.1 = 0 then
 k (lB r5.2 0)
 else
 k true)
def F68 : T68 := P68 F128
def X68 : Exits := fun i => lookN i [] [(4, [(.ret, xk 27 [(4, .bool false)] []), (.exit 0, xk 27 [] [])])]
abbrev s68 : List (Bool × List CK) := [(false, [.sl 8 true]), (false, [.sl 8 true])]
def G68 (F : T68) (β : Type) (e : argsT s68) (k : V → Option β) : Option β := F β e.1.1 e.2.1.1 (fun y1 => k (.bool y1))
abbrev W68 (F : T68) : WT := wrap s68 (G68 F)
theorem k68 (F128 : T128) : KO [(128, W128 F128)] X68 68 Tryz.f68 s68 (G68 (P68 F128)) := fun _ _ _ => by kernel_rfl
theorem ok68 : FnOk D 68 (W68 F68) := oW Tryz.func68 (tc ok128 tn) (k68 F128 )
abbrev T129 : Type 1 := (β : Type) → LU → LU → Bool → Int → LU → LU → LU → Bool → Int → LU → (Bool → Option β) → Option β
def P129 (F63 : T63) : T129 := fun β a b c d f g h i j l k =>
 F63 _ a b g h fun b1 =>
 br (!b1) (
 k false) (
 br (!(c == i)) (
 k false) (
 br (d != j) (
 k false) (
 br (!(f == l)) (
 k false) (
 k true))))
def F129 : T129 := P129 F63
abbrev s129 : List (Bool × List CK) := [(true, q5), (true, q5)]
def G129 (F : T129) (β : Type) (e : argsT s129) (k : V → Option β) : Option β := let a:=e.1;let b:=a.2;let c:=b.2;let d:=c.2;let f:=d.2;let g:=e.2.1;let h:=g.2;let i:=h.2;let j:=i.2;let l:=j.2;F β a.1 b.1 c.1 d.1 f.1 g.1 h.1 i.1 j.1 l.1 (fun y1 => k (.bool y1))
abbrev W129 (F : T129) : WT := wrap s129 (G129 F)
theorem k129 (F63 : T63) : KO [(63, W63 F63)] noX 129 Tryz.f129 s129 (G129 (P129 F63)) := fun _ _ _ => by kernel_rfl
theorem ok129 : FnOk D 129 (W129 F129) := oW Tryz.func129 (tc ok63 tn) (k129 F63 )
abbrev T69 : Type 1 := T70
def P69 (F129 : T129) : T69 := fun β a b k =>
 br ((a.length : Int) != (b.length : Int)) (
 k false) (
 whileK (fun s1 =>
 br (decide ((lI s1 2) < ((lL s1 0).length : Int))) (
 chk (0 ≤ (lI s1 2)) <|
 idx true q5 (lL s1 0) ((lI s1 2).toNat) fun (e2 : r5_) =>
 chk (0 ≤ (lI s1 2)) <|
 idx true q5 (lL s1 1) ((lI s1 2).toNat) fun (e3 : r5_) =>
 F129 _ e2.1 e2.2.1 e2.2.2.1 e2.2.2.2.1 e2.2.2.2.2.1 e3.1 e3.2.1 e3.2.2.1 e3.2.2.2.1 e3.2.2.2.2.1 fun b4 =>
 br (!b4) (
 some (.inr (0, [.b false]))) (
 some (.inl [.l (lL s1 0), .l (lL s1 1), .i (IntKind.wrap .i64 ((lI s1 2) + 1))]))) (
 some (.inr (1, [])))) [.l a, .l b, .i 0] fun r5 =>
 if r5.1 = 0 then
 k (lB r5.2 0)
 else
 k true)
def F69 : T69 := P69 F129
def X69 : Exits := fun i => lookN i [] [(4, [(.ret, xk 27 [(4, .bool false)] []), (.exit 0, xk 27 [] [])])]
abbrev s69 : List (Bool × List CK) := [(false, [.sl 5 true]), (false, [.sl 5 true])]
def G69 (F : T69) (β : Type) (e : argsT s69) (k : V → Option β) : Option β := F β e.1.1 e.2.1.1 (fun y1 => k (.bool y1))
abbrev W69 (F : T69) : WT := wrap s69 (G69 F)
theorem k69 (F129 : T129) : KO [(129, W129 F129)] X69 69 Tryz.f69 s69 (G69 (P69 F129)) := fun _ _ _ => by kernel_rfl
theorem ok69 : FnOk D 69 (W69 F69) := oW Tryz.func69 (tc ok129 tn) (k69 F129 )
abbrev T24 : Type 1 := T70
def P24 (F63 : T63) : T24 := fun β a b k =>
 br ((a.length : Int) != (b.length : Int)) (
 k false) (
 whileK (fun s1 =>
 br (decide ((lI s1 2) < ((lL s1 0).length : Int))) (
 chk (0 ≤ (lI s1 2)) <|
 idx true [.str, .str] (lL s1 0) ((lI s1 2).toNat) fun (e2 : r8_) =>
 chk (0 ≤ (lI s1 2)) <|
 idx true [.str, .str] (lL s1 1) ((lI s1 2).toNat) fun (e3 : r8_) =>
 F63 _ e2.1 e2.2.1 e3.1 e3.2.1 fun b4 =>
 br (!b4) (
 some (.inr (0, [.b false]))) (
 some (.inl [.l (lL s1 0), .l (lL s1 1), .i (IntKind.wrap .i64 ((lI s1 2) + 1))]))) (
 some (.inr (1, [])))) [.l a, .l b, .i 0] fun r5 =>
 if r5.1 = 0 then
 k (lB r5.2 0)
 else
 k true)
def F24 : T24 := P24 F63
def X24 : Exits := fun i => lookN i [] [(4, [(.ret, xk 27 [(4, .bool false)] []), (.exit 0, xk 27 [] [])])]
abbrev s24 : List (Bool × List CK) := s184
abbrev G24 := G184
abbrev W24 (F : T24) : WT := wrap s24 (G24 F)
theorem k24 (F63 : T63) : KO [(63, W63 F63)] X24 24 Tryz.f24 s24 (G24 (P24 F63)) := fun _ _ _ => by kernel_rfl
theorem ok24 : FnOk D 24 (W24 F24) := oW Tryz.func24 (tc ok63 tn) (k24 F63 )
abbrev T14 : Type 1 := (β : Type) → LU → LU → Bool → LsV → LsV → LsV → LU → LU → LsV → Bool → LsV → LsV → LsV → LsV → LsV → Int → Int → Int → Int → LsV → LsV → Bool → LU → LU → Bool → LsV → LsV → LsV → LU → LU → LsV → Bool → LsV → LsV → LsV → LsV → LsV → Int → Int → Int → Int → LsV → LsV → Bool → (Bool → Option β) → Option β
def P14 (F63 : T63) (F64 : T64) (F65 : T65) (F66 : T66) (F67 : T67) (F68 : T68) (F69 : T69) (F24 : T24) (F70 : T70) : T14 := fun β a b c d f g h i j l m n o p q r s t u v w x y z a1 c1 d1 f1 g1 h1 i1 j1 l1 m1 n1 o1 p1 q1 r1 s1 t1 u1 v1 w1 k =>
 F63 _ a b y z fun b1 =>
 br (!b1) (
 k false) (
 F64 _ c d f g h a1 c1 d1 f1 g1 fun b2 =>
 br (!b2) (
 k false) (
 F65 _ i h1 fun b3 =>
 br (!b3) (
 k false) (
 F66 _ j i1 fun b4 =>
 br (!b4) (
 k false) (
 br (!(l == j1)) (
 k false) (
 F67 _ m n l1 m1 fun b5 =>
 br (!b5) (
 k false) (
 F68 _ o n1 fun b6 =>
 br (!b6) (
 k false) (
 F69 _ p o1 fun b7 =>
 br (!b7) (
 k false) (
 F24 _ q p1 fun b8 =>
 br (!b8) (
 k false) (
 br (r != q1) (
 k false) (
 br (s != r1) (
 k false) (
 br (t != s1) (
 k false) (
 br (u != t1) (
 k false) (
 F24 _ v u1 fun b9 =>
 br (!b9) (
 k false) (
 F70 _ w v1 fun b10 =>
 br (!b10) (
 k false) (
 br (!(x == w1)) (
 k false) (
 k true))))))))))))))))
def F14 : T14 := P14 F63 F64 F65 F66 F67 F68 F69 F24 F70
abbrev s14 : List (Bool × List CK) := [(true, q0), (true, q0)]
def G14 (F : T14) (β : Type) (e : argsT s14) (k : V → Option β) : Option β := let a:=e.1;let b:=a.2;let c:=b.2;let d:=c.2;let f:=d.2;let g:=f.2;let h:=g.2;let i:=h.2;let j:=i.2;let l:=j.2;let m:=l.2;let n:=m.2;let o:=n.2;let p:=o.2;let q:=p.2;let r:=q.2;let s:=r.2;let t:=s.2;let u:=t.2;let v:=u.2;let w:=v.2;let x:=w.2;let y:=e.2.1;let z:=y.2;let a1:=z.2;let b1:=a1.2;let c1:=b1.2;let d1:=c1.2;let f1:=d1.2;let g1:=f1.2;let h1:=g1.2;let i1:=h1.2;let j1:=i1.2;let l1:=j1.2;let m1:=l1.2;let n1:=m1.2;let o1:=n1.2;let p1:=o1.2;let q1:=p1.2;let r1:=q1.2;let s1:=r1.2;let t1:=s1.2;let u1:=t1.2;let v1:=u1.2;F β a.1 b.1 c.1 d.1 f.1 g.1 h.1 i.1 j.1 l.1 m.1 n.1 o.1 p.1 q.1 r.1 s.1 t.1 u.1 v.1 w.1 x.1 y.1 z.1 a1.1 b1.1 c1.1 d1.1 f1.1 g1.1 h1.1 i1.1 j1.1 l1.1 m1.1 n1.1 o1.1 p1.1 q1.1 r1.1 s1.1 t1.1 u1.1 v1.1 (fun y1 => k (.bool y1))
abbrev W14 (F : T14) : WT := wrap s14 (G14 F)
theorem k14 (F63 : T63) (F64 : T64) (F65 : T65) (F66 : T66) (F67 : T67) (F68 : T68) (F69 : T69) (F24 : T24) (F70 : T70) : KO [(63, W63 F63), (64, W64 F64), (65, W65 F65), (66, W66 F66), (67, W67 F67), (68, W68 F68), (69, W69 F69), (24, W24 F24), (70, W70 F70)] noX 14 Tryz.f14 s14 (G14 (P14 F63 F64 F65 F66 F67 F68 F69 F24 F70)) := fun _ _ _ => by kernel_rfl
theorem ok14 : FnOk D 14 (W14 F14) := oW Tryz.func14 (tc ok63 (tc ok64 (tc ok65 (tc ok66 (tc ok67 (tc ok68 (tc ok69 (tc ok24 (tc ok70 tn))))))))) (k14 F63 F64 F65 F66 F67 F68 F69 F24 F70 )
abbrev T196 : Type 1 := (β : Type) → Int → Int → LU → Int → Bool → LU → Int → Int → LU → Int → Bool → LU → (Bool → Option β) → Option β
def P196 : T196 := fun β a b c d f g h i j l m n k =>
 br (a != h) (
 k false) (
 br (b != i) (
 k false) (
 br (!(c == j)) (
 k false) (
 br (d != l) (
 k false) (
 br (!(f == m)) (
 k false) (
 br (!(g == n)) (
 k false) (
 k true))))))
def F196 : T196 := P196
abbrev s196 : List (Bool × List CK) := [(true, q8), (true, q8)]
def G196 (F : T196) (β : Type) (e : argsT s196) (k : V → Option β) : Option β := let a:=e.1;let b:=a.2;let c:=b.2;let d:=c.2;let f:=d.2;let g:=f.2;let h:=e.2.1;let i:=h.2;let j:=i.2;let l:=j.2;let m:=l.2;let n:=m.2;F β a.1 b.1 c.1 d.1 f.1 g.1 h.1 i.1 j.1 l.1 m.1 n.1 (fun y1 => k (.bool y1))
abbrev W196 (F : T196) : WT := wrap s196 (G196 F)
theorem k196 : KO [] noX 196 Tryz.f196 s196 (G196 (P196)) := fun _ _ _ => by kernel_rfl
theorem ok196 : FnOk D 196 (W196 F196) := oW Tryz.func196 (tn) (k196 )
abbrev T158 : Type 1 := (β : Type) → LU → LU → Int → Int → LU → Int → Bool → LU → LU → LU → Int → Int → LU → Int → Bool → LU → (Bool → Option β) → Option β
def P158 (F63 : T63) (F196 : T196) : T158 := fun β a b c d f g h i j l m n o p q r k =>
 F63 _ a b j l fun b1 =>
 br (!b1) (
 k false) (
 F196 _ c d f g h i m n o p q r fun b2 =>
 br (!b2) (
 k false) (
 k true))
def F158 : T158 := P158 F63 F196
abbrev s158 : List (Bool × List CK) := [(true, q3), (true, q3)]
def G158 (F : T158) (β : Type) (e : argsT s158) (k : V → Option β) : Option β := let a:=e.1;let b:=a.2;let c:=b.2;let d:=c.2;let f:=d.2;let g:=f.2;let h:=g.2;let i:=h.2;let j:=e.2.1;let l:=j.2;let m:=l.2;let n:=m.2;let o:=n.2;let p:=o.2;let q:=p.2;let r:=q.2;F β a.1 b.1 c.1 d.1 f.1 g.1 h.1 i.1 j.1 l.1 m.1 n.1 o.1 p.1 q.1 r.1 (fun y1 => k (.bool y1))
abbrev W158 (F : T158) : WT := wrap s158 (G158 F)
theorem k158 (F63 : T63) (F196 : T196) : KO [(63, W63 F63), (196, W196 F196)] noX 158 Tryz.f158 s158 (G158 (P158 F63 F196)) := fun _ _ _ => by kernel_rfl
theorem ok158 : FnOk D 158 (W158 F158) := oW Tryz.func158 (tc ok63 (tc ok196 tn)) (k158 F63 F196 )
abbrev T93 : Type 1 := T70
def P93 (F158 : T158) : T93 := fun β a b k =>
 br ((a.length : Int) != (b.length : Int)) (
 k false) (
 whileK (fun s1 =>
 br (decide ((lI s1 2) < ((lL s1 0).length : Int))) (
 chk (0 ≤ (lI s1 2)) <|
 idx true q3 (lL s1 0) ((lI s1 2).toNat) fun (e2 : r6_) =>
 chk (0 ≤ (lI s1 2)) <|
 idx true q3 (lL s1 1) ((lI s1 2).toNat) fun (e3 : r6_) =>
 F158 _ e2.1 e2.2.1 e2.2.2.1 e2.2.2.2.1 e2.2.2.2.2.1 e2.2.2.2.2.2.1 e2.2.2.2.2.2.2.1 e2.2.2.2.2.2.2.2.1 e3.1 e3.2.1 e3.2.2.1 e3.2.2.2.1 e3.2.2.2.2.1 e3.2.2.2.2.2.1 e3.2.2.2.2.2.2.1 e3.2.2.2.2.2.2.2.1 fun b4 =>
 br (!b4) (
 some (.inr (0, [.b false]))) (
 some (.inl [.l (lL s1 0), .l (lL s1 1), .i (IntKind.wrap .i64 ((lI s1 2) + 1))]))) (
 some (.inr (1, [])))) [.l a, .l b, .i 0] fun r5 =>
 if r5.1 = 0 then
 k (lB r5.2 0)
 else
 k true)
def F93 : T93 := P93 F158
def X93 : Exits := fun i => lookN i [] [(4, [(.ret, xk 27 [(4, .bool false)] []), (.exit 0, xk 27 [] [])])]
abbrev s93 : List (Bool × List CK) := s68
abbrev G93 := G68
abbrev W93 (F : T93) : WT := wrap s93 (G93 F)
theorem k93 (F158 : T158) : KO [(158, W158 F158)] X93 93 Tryz.f93 s93 (G93 (P93 F158)) := fun _ _ _ => by kernel_rfl
theorem ok93 : FnOk D 93 (W93 F93) := oW Tryz.func93 (tc ok158 tn) (k93 F158 )
abbrev T229 : Type 1 := (β : Type) → LU → Int → Int → LU → Int → Bool → LU → LU → Int → Int → LU → Int → Bool → LU → (Bool → Option β) → Option β
def P229 (F196 : T196) : T229 := fun β a b c d f g h i j l m n o p k =>
 br (!(a == i)) (
 k false) (
 F196 _ b c d f g h j l m n o p fun b1 =>
 br (!b1) (
 k false) (
 k true))
def F229 : T229 := P229 F196
abbrev s229 : List (Bool × List CK) := [(true, q4), (true, q4)]
def G229 (F : T229) (β : Type) (e : argsT s229) (k : V → Option β) : Option β := let a:=e.1;let b:=a.2;let c:=b.2;let d:=c.2;let f:=d.2;let g:=f.2;let h:=g.2;let i:=e.2.1;let j:=i.2;let l:=j.2;let m:=l.2;let n:=m.2;let o:=n.2;let p:=o.2;F β a.1 b.1 c.1 d.1 f.1 g.1 h.1 i.1 j.1 l.1 m.1 n.1 o.1 p.1 (fun y1 => k (.bool y1))
abbrev W229 (F : T229) : WT := wrap s229 (G229 F)
theorem k229 (F196 : T196) : KO [(196, W196 F196)] noX 229 Tryz.f229 s229 (G229 (P229 F196)) := fun _ _ _ => by kernel_rfl
theorem ok229 : FnOk D 229 (W229 F229) := oW Tryz.func229 (tc ok196 tn) (k229 F196 )
abbrev T197 : Type 1 := T70
def P197 (F229 : T229) : T197 := fun β a b k =>
 br ((a.length : Int) != (b.length : Int)) (
 k false) (
 whileK (fun s1 =>
 br (decide ((lI s1 2) < ((lL s1 0).length : Int))) (
 chk (0 ≤ (lI s1 2)) <|
 idx true q4 (lL s1 0) ((lI s1 2).toNat) fun (e2 : r4_) =>
 chk (0 ≤ (lI s1 2)) <|
 idx true q4 (lL s1 1) ((lI s1 2).toNat) fun (e3 : r4_) =>
 F229 _ e2.1 e2.2.1 e2.2.2.1 e2.2.2.2.1 e2.2.2.2.2.1 e2.2.2.2.2.2.1 e2.2.2.2.2.2.2.1 e3.1 e3.2.1 e3.2.2.1 e3.2.2.2.1 e3.2.2.2.2.1 e3.2.2.2.2.2.1 e3.2.2.2.2.2.2.1 fun b4 =>
 br (!b4) (
 some (.inr (0, [.b false]))) (
 some (.inl [.l (lL s1 0), .l (lL s1 1), .i (IntKind.wrap .i64 ((lI s1 2) + 1))]))) (
 some (.inr (1, [])))) [.l a, .l b, .i 0] fun r5 =>
 if r5.1 = 0 then
 k (lB r5.2 0)
 else
 k true)
def F197 : T197 := P197 F229
def X197 : Exits := fun i => lookN i [] [(4, [(.ret, xk 27 [(4, .bool false)] []), (.exit 0, xk 27 [] [])])]
abbrev s197 : List (Bool × List CK) := [(false, [.sl 7 true]), (false, [.sl 7 true])]
def G197 (F : T197) (β : Type) (e : argsT s197) (k : V → Option β) : Option β := F β e.1.1 e.2.1.1 (fun y1 => k (.bool y1))
abbrev W197 (F : T197) : WT := wrap s197 (G197 F)
theorem k197 (F229 : T229) : KO [(229, W229 F229)] X197 197 Tryz.f197 s197 (G197 (P197 F229)) := fun _ _ _ => by kernel_rfl
theorem ok197 : FnOk D 197 (W197 F197) := oW Tryz.func197 (tc ok229 tn) (k197 F229 )
abbrev T159 : Type 1 := (β : Type) → LU → LsV → LU → LsV → (Bool → Option β) → Option β
def P159 (F197 : T197) : T159 := fun β a b c d k =>
 br (!(a == c)) (
 k false) (
 F197 _ b d fun b1 =>
 br (!b1) (
 k false) (
 k true))
def F159 : T159 := P159 F197
abbrev s159 : List (Bool × List CK) := [(true, [.str, .sl 7 true]), (true, [.str, .sl 7 true])]
def G159 (F : T159) (β : Type) (e : argsT s159) (k : V → Option β) : Option β := F β e.1.1 e.1.2.1 e.2.1.1 e.2.1.2.1 (fun y1 => k (.bool y1))
abbrev W159 (F : T159) : WT := wrap s159 (G159 F)
theorem k159 (F197 : T197) : KO [(197, W197 F197)] noX 159 Tryz.f159 s159 (G159 (P159 F197)) := fun _ _ _ => by kernel_rfl
theorem ok159 : FnOk D 159 (W159 F159) := oW Tryz.func159 (tc ok197 tn) (k159 F197 )
abbrev T94 : Type 1 := T70
def P94 (F159 : T159) : T94 := fun β a b k =>
 br ((a.length : Int) != (b.length : Int)) (
 k false) (
 whileK (fun s1 =>
 br (decide ((lI s1 2) < ((lL s1 0).length : Int))) (
 chk (0 ≤ (lI s1 2)) <|
 idx true [.str, .sl 7 true] (lL s1 0) ((lI s1 2).toNat) fun (e2 : r9_) =>
 chk (0 ≤ (lI s1 2)) <|
 idx true [.str, .sl 7 true] (lL s1 1) ((lI s1 2).toNat) fun (e3 : r9_) =>
 F159 _ e2.1 e2.2.1 e3.1 e3.2.1 fun b4 =>
 br (!b4) (
 some (.inr (0, [.b false]))) (
 some (.inl [.l (lL s1 0), .l (lL s1 1), .i (IntKind.wrap .i64 ((lI s1 2) + 1))]))) (
 some (.inr (1, [])))) [.l a, .l b, .i 0] fun r5 =>
 if r5.1 = 0 then
 k (lB r5.2 0)
 else
 k true)
def F94 : T94 := P94 F159
def X94 : Exits := fun i => lookN i [] [(4, [(.ret, xk 27 [(4, .bool false)] []), (.exit 0, xk 27 [] [])])]
abbrev s94 : List (Bool × List CK) := [(false, [.sl 2 false]), (false, [.sl 2 false])]
def G94 (F : T94) (β : Type) (e : argsT s94) (k : V → Option β) : Option β := F β e.1.1 e.2.1.1 (fun y1 => k (.bool y1))
abbrev W94 (F : T94) : WT := wrap s94 (G94 F)
theorem k94 (F159 : T159) : KO [(159, W159 F159)] X94 94 Tryz.f94 s94 (G94 (P94 F159)) := fun _ _ _ => by kernel_rfl
theorem ok94 : FnOk D 94 (W94 F94) := oW Tryz.func94 (tc ok159 tn) (k94 F159 )
abbrev T25 : Type 1 := (β : Type) → Bool → LU → LU → Bool → LsV → LsV → LsV → LU → LU → LsV → Bool → LsV → LsV → LsV → LsV → LsV → Int → Int → Int → Int → LsV → LsV → Bool → LsV → LsV → Int → Bool → LU → LU → Bool → LsV → LsV → LsV → LU → LU → LsV → Bool → LsV → LsV → LsV → LsV → LsV → Int → Int → Int → Int → LsV → LsV → Bool → LsV → LsV → Int → (Bool → Option β) → Option β
def P25 (F14 : T14) (F93 : T93) (F94 : T94) : T25 := fun β a b c d f g h i j l m n o p q r s t u v w x y z a1 c1 d1 f1 g1 h1 i1 j1 l1 m1 n1 o1 p1 q1 r1 s1 t1 u1 v1 w1 x1 y1 z1 a2 c2 d2 f2 g2 k =>
 br (!(a == d1)) (
 k false) (
 F14 _ b c d f g h i j l m n o p q r s t u v w x y f1 g1 h1 i1 j1 l1 m1 n1 o1 p1 q1 r1 s1 t1 u1 v1 w1 x1 y1 z1 a2 c2 fun b1 =>
 br (!b1) (
 k false) (
 F93 _ z d2 fun b2 =>
 br (!b2) (
 k false) (
 F94 _ a1 f2 fun b3 =>
 br (!b3) (
 k false) (
 br (c1 != g2) (
 k false) (
 k true)))))
def F25 : T25 := P25 F14 F93 F94
abbrev s25 : List (Bool × List CK) := [(true, q1), (true, q1)]
def G25 (F : T25) (β : Type) (e : argsT s25) (k : V → Option β) : Option β := let a:=e.1;let b:=a.2;let c:=b.2;let d:=c.2;let f:=d.2;let g:=f.2;let h:=g.2;let i:=h.2;let j:=i.2;let l:=j.2;let m:=l.2;let n:=m.2;let o:=n.2;let p:=o.2;let q:=p.2;let r:=q.2;let s:=r.2;let t:=s.2;let u:=t.2;let v:=u.2;let w:=v.2;let x:=w.2;let y:=x.2;let z:=y.2;let a1:=z.2;let b1:=a1.2;let c1:=e.2.1;let d1:=c1.2;let f1:=d1.2;let g1:=f1.2;let h1:=g1.2;let i1:=h1.2;let j1:=i1.2;let l1:=j1.2;let m1:=l1.2;let n1:=m1.2;let o1:=n1.2;let p1:=o1.2;let q1:=p1.2;let r1:=q1.2;let s1:=r1.2;let t1:=s1.2;let u1:=t1.2;let v1:=u1.2;let w1:=v1.2;let x1:=w1.2;let y1:=x1.2;let z1:=y1.2;let a2:=z1.2;let b2:=a2.2;let c2:=b2.2;let d2:=c2.2;F β a.1 b.1 c.1 d.1 f.1 g.1 h.1 i.1 j.1 l.1 m.1 n.1 o.1 p.1 q.1 r.1 s.1 t.1 u.1 v.1 w.1 x.1 y.1 z.1 a1.1 b1.1 c1.1 d1.1 f1.1 g1.1 h1.1 i1.1 j1.1 l1.1 m1.1 n1.1 o1.1 p1.1 q1.1 r1.1 s1.1 t1.1 u1.1 v1.1 w1.1 x1.1 y1.1 z1.1 a2.1 b2.1 c2.1 d2.1 (fun y1 => k (.bool y1))
abbrev W25 (F : T25) : WT := wrap s25 (G25 F)
theorem k25 (F14 : T14) (F93 : T93) (F94 : T94) : KO [(14, W14 F14), (93, W93 F93), (94, W94 F94)] noX 25 Tryz.f25 s25 (G25 (P25 F14 F93 F94)) := fun _ _ _ => by kernel_rfl
theorem ok25 : FnOk D 25 (W25 F25) := oW Tryz.func25 (tc ok14 (tc ok93 (tc ok94 tn))) (k25 F14 F93 F94 )
abbrev T143 : Type 1 := (β : Type) → LU → LU → Bool → LsV → LsV → LsV → LU → LU → LsV → Bool → LsV → LsV → LsV → LsV → LsV → Int → Int → Int → Int → LsV → LsV → Bool → (LsV → Option β) → Option β
def P143 : T143 := fun β a c d f g h j m n o p q r t u v w x y z a1 b1 k =>
 whileK (fun s1 =>
 br (decide ((lI s1 1) < ((lL s1 14).length : Int))) (
 chk (0 ≤ (lI s1 1)) <|
 idx true q2 (lL s1 14) ((lI s1 1).toNat) fun (e2 : r0_) =>
 br (!e2.2.2.2.2.2.1) (
 chk (((lL s1 0).length + ([.int .i64 (lI s1 1)] : LsV).length) * 8 ≤ 140737488355328 ∧ (lL s1 0).length + ([.int .i64 (lI s1 1)] : LsV).length ≤ 140737488355328) <|
 some (.inl [.l ((lL s1 0) ++ ([.int .i64 (lI s1 1)] : LsV)), .i (IntKind.wrap .i64 ((lI s1 1) + 1)), .s (lS s1 2), .s (lS s1 3), .b (lB s1 4), .l (lL s1 5), .l (lL s1 6), .l (lL s1 7), .s (lS s1 8), .s (lS s1 9), .l (lL s1 10), .b (lB s1 11), .l (lL s1 12), .l (lL s1 13), .l (lL s1 14), .l (lL s1 15), .l (lL s1 16), .i (lI s1 17), .i (lI s1 18), .i (lI s1 19), .i (lI s1 20), .l (lL s1 21), .l (lL s1 22), .b (lB s1 23)])) (
 some (.inl [.l (lL s1 0), .i (IntKind.wrap .i64 ((lI s1 1) + 1)), .s (lS s1 2), .s (lS s1 3), .b (lB s1 4), .l (lL s1 5), .l (lL s1 6), .l (lL s1 7), .s (lS s1 8), .s (lS s1 9), .l (lL s1 10), .b (lB s1 11), .l (lL s1 12), .l (lL s1 13), .l (lL s1 14), .l (lL s1 15), .l (lL s1 16), .i (lI s1 17), .i (lI s1 18), .i (lI s1 19), .i (lI s1 20), .l (lL s1 21), .l (lL s1 22), .b (lB s1 23)]))) (
 some (.inr (0, [.l (lL s1 0)])))) [.l [], .i 0, .s a, .s c, .b d, .l f, .l g, .l h, .s j, .s m, .l n, .b o, .l p, .l q, .l r, .l t, .l u, .i v, .i w, .i x, .i y, .l z, .l a1, .b b1] fun r3 =>
 k (lL r3.2 0)
def F143 : T143 := P143
def X143 : Exits := fun i => lookN i [] [(3, [(.exit 0, xk 25 [(3, .own 1000000 1 .flat [])] [])])]
abbrev s143 : List (Bool × List CK) := s11
def G143 (F : T143) (β : Type) (e : argsT s143) (k : V → Option β) : Option β := let a:=e.1;let b:=a.2;let c:=b.2;let d:=c.2;let f:=d.2;let g:=f.2;let h:=g.2;let i:=h.2;let j:=i.2;let l:=j.2;let m:=l.2;let n:=m.2;let o:=n.2;let p:=o.2;let q:=p.2;let r:=q.2;let s:=r.2;let t:=s.2;let u:=t.2;let v:=u.2;let w:=v.2;let x:=w.2;F β a.1 b.1 c.1 d.1 f.1 g.1 h.1 i.1 j.1 l.1 m.1 n.1 o.1 p.1 q.1 r.1 s.1 t.1 u.1 v.1 w.1 x.1 (fun y1 => k (.own 0 1 .flat y1))
abbrev W143 (F : T143) : WT := wrap s143 (G143 F)
theorem k143 : KO [] X143 143 Tryz.f143 s143 (G143 (P143)) := fun _ _ _ => by kernel_rfl
theorem ok143 : FnOk D 143 (W143 F143) := oW Tryz.func143 (tn) (k143 )
abbrev T47 : Type 1 := (β : Type) → Int → Int → Int → (Bool → Option β) → Option β
def P47 : T47 := fun β x least most k =>
 br (decide (x ≥ least)) (
 k (decide (x ≤ most))) (
 k false)
def F47 : T47 := P47
abbrev s47 : List (Bool × List CK) := [(false, [.int .i64]), (false, [.int .i64]), (false, [.int .i64])]
def G47 (F : T47) (β : Type) (e : argsT s47) (k : V → Option β) : Option β := F β e.1.1 e.2.1.1 e.2.2.1.1 (fun y1 => k (.bool y1))
abbrev W47 (F : T47) : WT := wrap s47 (G47 F)
theorem k47 : KO [] noX 47 Tryz.f47 s47 (G47 (P47)) := fun _ _ _ => by kernel_rfl
theorem ok47 : FnOk D 47 (W47 F47) := oW Tryz.func47 (tn) (k47 )
abbrev T189 : Type 1 := (β : Type) → Int → (Int → Option β) → Option β
def P189 : T189 := fun β mode k =>
 br (mode == 1) (
 k 4) (
 br (mode == 2) (
 k 3) (
 br (mode == 3) (
 k 2) (
 br (mode == 4) (
 k 2) (
 k 0))))
def F189 : T189 := P189
abbrev s189 : List (Bool × List CK) := [(false, [.int .i64])]
def G189 (F : T189) (β : Type) (e : argsT s189) (k : V → Option β) : Option β := F β e.1.1 (fun y1 => k (.int .i64 y1))
abbrev W189 (F : T189) : WT := wrap s189 (G189 F)
theorem k189 : KO [] noX 189 Tryz.f189 s189 (G189 (P189)) := fun _ _ _ => by kernel_rfl
theorem ok189 : FnOk D 189 (W189 F189) := oW Tryz.func189 (tn) (k189 )
abbrev T144 : Type 1 := (β : Type) → LU → LU → Bool → LsV → LsV → LsV → LU → LU → LsV → Bool → LsV → LsV → LsV → LsV → LsV → Int → Int → Int → Int → LsV → LsV → Bool → Int → (Int → LU → LU → LU → LU → Option β) → Option β
def P144 (F47 : T47) (F189 : T189) : T144 := fun β b c d f g h i j l m n o a p q r s t u v w x xk k =>
 F47 _ xk 0 (IntKind.wrap .i64 ((a.length : Int) - 1)) fun b1 =>
 br (!b1) (
 k 0 [] [] [] []) (
 chk (0 ≤ xk) <|
 idx true q2 a xk.toNat fun (e2 : r0_) =>
 F189 _ e2.1 fun n3 =>
 k n3 e2.2.1 e2.2.2.1 b e2.2.2.2.1)
def F144 : T144 := P144 F47 F189
abbrev s144 : List (Bool × List CK) := s8
def G144 (F : T144) (β : Type) (e : argsT s144) (k : V → Option β) : Option β := let a:=e.1;let b:=a.2;let c:=b.2;let d:=c.2;let f:=d.2;let g:=f.2;let h:=g.2;let i:=h.2;let j:=i.2;let l:=j.2;let m:=l.2;let n:=m.2;let o:=n.2;let p:=o.2;let q:=p.2;let r:=q.2;let s:=r.2;let t:=s.2;let u:=t.2;let v:=u.2;let w:=v.2;let x:=w.2;F β a.1 b.1 c.1 d.1 f.1 g.1 h.1 i.1 j.1 l.1 m.1 n.1 o.1 p.1 q.1 r.1 s.1 t.1 u.1 v.1 w.1 x.1 e.2.1.1 (fun y1 y2 y3 y4 y5 => k (.agg [.int .i64 y1, .str y2, .str y3, .str y4, .str y5]))
abbrev W144 (F : T144) : WT := wrap s144 (G144 F)
theorem k144 (F47 : T47) (F189 : T189) : KO [(47, W47 F47), (189, W189 F189)] noX 144 Tryz.f144 s144 (G144 (P144 F47 F189)) := fun _ _ _ => by kernel_rfl
theorem ok144 : FnOk D 144 (W144 F144) := oW Tryz.func144 (tc ok47 (tc ok189 tn)) (k144 F47 F189 )
abbrev T145 : Type 1 := T143
def P145 : T145 := fun β a c d f g h j m n o p q r t u v w x y z a1 b1 k =>
 whileK (fun s1 =>
 br (decide ((lI s1 1) < ((lL s1 15).length : Int))) (
 chk (0 ≤ (lI s1 1)) <|
 idx true q5 (lL s1 15) ((lI s1 1).toNat) fun (e2 : r5_) =>
 br (!e2.2.2.1) (
 chk (((lL s1 0).length + ([.int .i64 (lI s1 1)] : LsV).length) * 8 ≤ 140737488355328 ∧ (lL s1 0).length + ([.int .i64 (lI s1 1)] : LsV).length ≤ 140737488355328) <|
 some (.inl [.l ((lL s1 0) ++ ([.int .i64 (lI s1 1)] : LsV)), .i (IntKind.wrap .i64 ((lI s1 1) + 1)), .s (lS s1 2), .s (lS s1 3), .b (lB s1 4), .l (lL s1 5), .l (lL s1 6), .l (lL s1 7), .s (lS s1 8), .s (lS s1 9), .l (lL s1 10), .b (lB s1 11), .l (lL s1 12), .l (lL s1 13), .l (lL s1 14), .l (lL s1 15), .l (lL s1 16), .i (lI s1 17), .i (lI s1 18), .i (lI s1 19), .i (lI s1 20), .l (lL s1 21), .l (lL s1 22), .b (lB s1 23)])) (
 some (.inl [.l (lL s1 0), .i (IntKind.wrap .i64 ((lI s1 1) + 1)), .s (lS s1 2), .s (lS s1 3), .b (lB s1 4), .l (lL s1 5), .l (lL s1 6), .l (lL s1 7), .s (lS s1 8), .s (lS s1 9), .l (lL s1 10), .b (lB s1 11), .l (lL s1 12), .l (lL s1 13), .l (lL s1 14), .l (lL s1 15), .l (lL s1 16), .i (lI s1 17), .i (lI s1 18), .i (lI s1 19), .i (lI s1 20), .l (lL s1 21), .l (lL s1 22), .b (lB s1 23)]))) (
 some (.inr (0, [.l (lL s1 0)])))) [.l [], .i 0, .s a, .s c, .b d, .l f, .l g, .l h, .s j, .s m, .l n, .b o, .l p, .l q, .l r, .l t, .l u, .i v, .i w, .i x, .i y, .l z, .l a1, .b b1] fun r3 =>
 k (lL r3.2 0)
def F145 : T145 := P145
def X145 : Exits := fun i => lookN i [] [(3, [(.exit 0, xk 25 [(3, .own 1000000 1 .flat [])] [])])]
abbrev s145 : List (Bool × List CK) := s11
abbrev G145 := G143
abbrev W145 (F : T145) : WT := wrap s145 (G145 F)
theorem k145 : KO [] X145 145 Tryz.f145 s145 (G145 (P145)) := fun _ _ _ => by kernel_rfl
theorem ok145 : FnOk D 145 (W145 F145) := oW Tryz.func145 (tn) (k145 )
abbrev T146 : Type 1 := T144
def P146 (F47 : T47) : T146 := fun β b c d f g h i j l m n o p a q r s t u v w x xk k =>
 F47 _ xk 0 (IntKind.wrap .i64 ((a.length : Int) - 1)) fun b1 =>
 br (!b1) (
 k 0 [] [] [] []) (
 chk (0 ≤ xk) <|
 idx true q5 a xk.toNat fun (e2 : r5_) =>
 k 5 e2.1 e2.2.1 b [])
def F146 : T146 := P146 F47
abbrev s146 : List (Bool × List CK) := s8
abbrev G146 := G144
abbrev W146 (F : T146) : WT := wrap s146 (G146 F)
theorem k146 (F47 : T47) : KO [(47, W47 F47)] noX 146 Tryz.f146 s146 (G146 (P146 F47)) := fun _ _ _ => by kernel_rfl
theorem ok146 : FnOk D 146 (W146 F146) := oW Tryz.func146 (tc ok47 tn) (k146 F47 )
abbrev T87 : Type 1 := T143
def P87 (F143 : T143) (F144 : T144) (F145 : T145) (F146 : T146) : T87 := fun β a c d f g h j m n o p q r t u v w x y z a1 b1 k =>
 F143 _ a c d f g h j m n o p q r t u v w x y z a1 b1 fun l1 =>
 whileK (fun s2 =>
 br (decide ((lI s2 2) < ((lL s2 1).length : Int))) (
 chk (0 ≤ (lI s2 2) ∧ (lI s2 2).toNat < (lL s2 1).length) <|
 idxAt [.int .i64] (lL s2 1) ((lI s2 2).toNat) 0 fun (e3 : Int × Unit) =>
 F144 _ (lS s2 3) (lS s2 4) (lB s2 5) (lL s2 6) (lL s2 7) (lL s2 8) (lS s2 9) (lS s2 10) (lL s2 11) (lB s2 12) (lL s2 13) (lL s2 14) (lL s2 15) (lL s2 16) (lL s2 17) (lI s2 18) (lI s2 19) (lI s2 20) (lI s2 21) (lL s2 22) (lL s2 23) (lB s2 24) e3.1 fun n4 t5 t6 t7 t8 =>
 chk (((lL s2 0).length + ([.agg [.int .i64 n4, .str t5, .str t6, .str t7, .str t8]] : LsV).length) * 72 ≤ 140737488355328 ∧ (lL s2 0).length + ([.agg [.int .i64 n4, .str t5, .str t6, .str t7, .str t8]] : LsV).length ≤ 140737488355328) <|
 some (.inl [.l ((lL s2 0) ++ ([.agg [.int .i64 n4, .str t5, .str t6, .str t7, .str t8]] : LsV)), .l (lL s2 1), .i (IntKind.wrap .i64 ((lI s2 2) + 1)), .s (lS s2 3), .s (lS s2 4), .b (lB s2 5), .l (lL s2 6), .l (lL s2 7), .l (lL s2 8), .s (lS s2 9), .s (lS s2 10), .l (lL s2 11), .b (lB s2 12), .l (lL s2 13), .l (lL s2 14), .l (lL s2 15), .l (lL s2 16), .l (lL s2 17), .i (lI s2 18), .i (lI s2 19), .i (lI s2 20), .i (lI s2 21), .l (lL s2 22), .l (lL s2 23), .b (lB s2 24)])) (
 some (.inr (0, [.l (lL s2 0), .s (lS s2 3), .s (lS s2 4), .b (lB s2 5), .l (lL s2 6), .l (lL s2 7), .l (lL s2 8), .s (lS s2 9), .s (lS s2 10), .l (lL s2 11), .b (lB s2 12), .l (lL s2 13), .l (lL s2 14), .l (lL s2 15), .l (lL s2 16), .l (lL s2 17), .i (lI s2 18), .i (lI s2 19), .i (lI s2 20), .i (lI s2 21), .l (lL s2 22), .l (lL s2 23), .b (lB s2 24)])))) [.l [], .l l1, .i 0, .s a, .s c, .b d, .l f, .l g, .l h, .s j, .s m, .l n, .b o, .l p, .l q, .l r, .l t, .l u, .i v, .i w, .i x, .i y, .l z, .l a1, .b b1] fun r9 =>
 F145 _ (lS r9.2 1) (lS r9.2 2) (lB r9.2 3) (lL r9.2 4) (lL r9.2 5) (lL r9.2 6) (lS r9.2 7) (lS r9.2 8) (lL r9.2 9) (lB r9.2 10) (lL r9.2 11) (lL r9.2 12) (lL r9.2 13) (lL r9.2 14) (lL r9.2 15) (lI r9.2 16) (lI r9.2 17) (lI r9.2 18) (lI r9.2 19) (lL r9.2 20) (lL r9.2 21) (lB r9.2 22) fun l10 =>
 whileK (fun s11 =>
 br (decide ((lI s11 2) < ((lL s11 1).length : Int))) (
 chk (0 ≤ (lI s11 2) ∧ (lI s11 2).toNat < (lL s11 1).length) <|
 idxAt [.int .i64] (lL s11 1) ((lI s11 2).toNat) 0 fun (e12 : Int × Unit) =>
 F146 _ (lS s11 3) (lS s11 4) (lB s11 5) (lL s11 6) (lL s11 7) (lL s11 8) (lS s11 9) (lS s11 10) (lL s11 11) (lB s11 12) (lL s11 13) (lL s11 14) (lL s11 15) (lL s11 16) (lL s11 17) (lI s11 18) (lI s11 19) (lI s11 20) (lI s11 21) (lL s11 22) (lL s11 23) (lB s11 24) e12.1 fun n13 t14 t15 t16 t17 =>
 chk (((lL s11 0).length + ([.agg [.int .i64 n13, .str t14, .str t15, .str t16, .str t17]] : LsV).length) * 72 ≤ 140737488355328 ∧ (lL s11 0).length + ([.agg [.int .i64 n13, .str t14, .str t15, .str t16, .str t17]] : LsV).length ≤ 140737488355328) <|
 some (.inl [.l ((lL s11 0) ++ ([.agg [.int .i64 n13, .str t14, .str t15, .str t16, .str t17]] : LsV)), .l (lL s11 1), .i (IntKind.wrap .i64 ((lI s11 2) + 1)), .s (lS s11 3), .s (lS s11 4), .b (lB s11 5), .l (lL s11 6), .l (lL s11 7), .l (lL s11 8), .s (lS s11 9), .s (lS s11 10), .l (lL s11 11), .b (lB s11 12), .l (lL s11 13), .l (lL s11 14), .l (lL s11 15), .l (lL s11 16), .l (lL s11 17), .i (lI s11 18), .i (lI s11 19), .i (lI s11 20), .i (lI s11 21), .l (lL s11 22), .l (lL s11 23), .b (lB s11 24)])) (
 some (.inr (0, [.l (lL s11 0)])))) [.l (lL r9.2 0), .l l10, .i 0, .s (lS r9.2 1), .s (lS r9.2 2), .b (lB r9.2 3), .l (lL r9.2 4), .l (lL r9.2 5), .l (lL r9.2 6), .s (lS r9.2 7), .s (lS r9.2 8), .l (lL r9.2 9), .b (lB r9.2 10), .l (lL r9.2 11), .l (lL r9.2 12), .l (lL r9.2 13), .l (lL r9.2 14), .l (lL r9.2 15), .i (lI r9.2 16), .i (lI r9.2 17), .i (lI r9.2 18), .i (lI r9.2 19), .l (lL r9.2 20), .l (lL r9.2 21), .b (lB r9.2 22)] fun r18 =>
 k (lL r18.2 0)
def F87 : T87 := P87 F143 F144 F145 F146
def X87 : Exits := fun i => lookN i [] [(4, [(.exit 0, xk 44 [(1, .ptr 1 0), (3, .own 1000000 5 .flat [])] [(1, .agg [.str [], .str [], .bool false, .sl 1 true [], .sl 1 true [], .sl 1 true [], .str [], .str [], .sl 4 false [], .bool false, .sl 4 false [], .sl 1 true [], .sl 8 true [], .sl 5 true [], .sl 2 true [], .int .i64 0, .int .i64 0, .int .i64 0, .int .i64 0, .sl 2 true [], .sl 1 true [], .bool false])])]), (9, [(.exit 2, xk 44 [(3, .own 1000000 5 .flat [])] [])])]
abbrev s87 : List (Bool × List CK) := s11
def G87 (F : T87) (β : Type) (e : argsT s87) (k : V → Option β) : Option β := let a:=e.1;let b:=a.2;let c:=b.2;let d:=c.2;let f:=d.2;let g:=f.2;let h:=g.2;let i:=h.2;let j:=i.2;let l:=j.2;let m:=l.2;let n:=m.2;let o:=n.2;let p:=o.2;let q:=p.2;let r:=q.2;let s:=r.2;let t:=s.2;let u:=t.2;let v:=u.2;let w:=v.2;let x:=w.2;F β a.1 b.1 c.1 d.1 f.1 g.1 h.1 i.1 j.1 l.1 m.1 n.1 o.1 p.1 q.1 r.1 s.1 t.1 u.1 v.1 w.1 x.1 (fun y1 => k (.own 0 5 .flat y1))
abbrev W87 (F : T87) : WT := wrap s87 (G87 F)
theorem k87 (F143 : T143) (F144 : T144) (F145 : T145) (F146 : T146) : KO [(143, W143 F143), (144, W144 F144), (145, W145 F145), (146, W146 F146)] X87 87 Tryz.f87 s87 (G87 (P87 F143 F144 F145 F146)) := fun _ _ _ => by kernel_rfl
theorem ok87 : FnOk D 87 (W87 F87) := oW Tryz.func87 (tc ok143 (tc ok144 (tc ok145 (tc ok146 tn)))) (k87 F143 F144 F145 F146 )
abbrev T147 : Type 1 := (β : Type) → LsV → LU → LU → (Bool → Option β) → Option β
def P147 : T147 := fun β l a c k =>
 whileK (fun s1 =>
 br (decide ((lI s1 1) < ((lL s1 0).length : Int))) (
 chk (0 ≤ (lI s1 1)) <|
 idx true [.str, .str] (lL s1 0) ((lI s1 1).toNat) fun (e2 : r8_) =>
 br ((e2.1 == (lS s1 2)) && ((e2.2.1 == (lS s1 3)) && true)) (
 some (.inr (0, [.b true]))) (
 some (.inl [.l (lL s1 0), .i (IntKind.wrap .i64 ((lI s1 1) + 1)), .s (lS s1 2), .s (lS s1 3)]))) (
 some (.inr (1, [])))) [.l l, .i 0, .s a, .s c] fun r3 =>
 if r3.1 = 0 then
 k (lB r3.2 0)
 else
 k false
def F147 : T147 := P147
def X147 : Exits := fun i => lookN i [] [(2, [(.ret, xk 18 [(4, .bool false)] []), (.exit 0, xk 18 [] [])])]
abbrev s147 : List (Bool × List CK) := [(false, [.sl 2 true]), (true, [.str, .str])]
def G147 (F : T147) (β : Type) (e : argsT s147) (k : V → Option β) : Option β := F β e.1.1 e.2.1.1 e.2.1.2.1 (fun y1 => k (.bool y1))
abbrev W147 (F : T147) : WT := wrap s147 (G147 F)
theorem k147 : KO [] X147 147 Tryz.f147 s147 (G147 (P147)) := fun _ _ _ => by kernel_rfl
theorem ok147 : FnOk D 147 (W147 F147) := oW Tryz.func147 (tn) (k147 )
abbrev T148 : Type 1 := (β : Type) → LU → LU → LU → LU → (Int → Option β) → Option β
def P148 : T148 := fun β a c b d k =>
 br ((a == b) && ((c == d) && true)) (
 k 0) (
 br (less a b) (
 k (-1)) (
 br (a == b) (
 br (less c d) (
 k (-1)) (
 k 1)) (
 k 1)))
def F148 : T148 := P148
abbrev s148 : List (Bool × List CK) := s63
def G148 (F : T148) (β : Type) (e : argsT s148) (k : V → Option β) : Option β := F β e.1.1 e.1.2.1 e.2.1.1 e.2.1.2.1 (fun y1 => k (.int .i64 y1))
abbrev W148 (F : T148) : WT := wrap s148 (G148 F)
theorem k148 : KO [] noX 148 Tryz.f148 s148 (G148 (P148)) := fun _ _ _ => by kernel_rfl
theorem ok148 : FnOk D 148 (W148 F148) := oW Tryz.func148 (tn) (k148 )
abbrev T88 : Type 1 := T58
def P88 (F147 : T147) (F148 : T148) : T88 := fun β l k =>
 whileK (fun s1 =>
 br (decide ((lI s1 2) < ((lL s1 0).length : Int))) (
 chk (0 ≤ (lI s1 2)) <|
 idx true [.str, .str] (lL s1 0) ((lI s1 2).toNat) fun (e2 : r8_) =>
 F147 _ (lL s1 1) e2.1 e2.2.1 fun b3 =>
 br b3 (
 some (.inl [.l (lL s1 0), .l (lL s1 1), .i (IntKind.wrap .i64 ((lI s1 2) + 1))])) (
 whileK (fun s4 =>
 br (decide ((lI s4 3) > 0)) (
 chk (0 ≤ (lI s4 2)) <|
 idx true [.str, .str] (lL s4 0) ((lI s4 2).toNat) fun (e5 : r8_) =>
 chk (0 ≤ IntKind.wrap .i64 ((lI s4 3) - 1) ∧ (IntKind.wrap .i64 ((lI s4 3) - 1)).toNat < (lL s4 1).length) <|
 idxAt [.str, .str] (lL s4 1) ((IntKind.wrap .i64 ((lI s4 3) - 1)).toNat) 0 fun (e6 : r8_) =>
 F148 _ e5.1 e5.2.1 e6.1 e6.2.1 fun n7 =>
 br (decide (n7 < 0)) (
 some (.inl [.l (lL s4 0), .l (lL s4 1), .i (lI s4 2), .i (IntKind.wrap .i64 ((lI s4 3) - 1))])) (
 some (.inr (0, [.l (lL s4 0), .l (lL s4 1), .i (lI s4 2), .i (lI s4 3)])))) (
 some (.inr (0, [.l (lL s4 0), .l (lL s4 1), .i (lI s4 2), .i (lI s4 3)])))) [.l (lL s1 0), .l (lL s1 1), .i (lI s1 2), .i ((lL s1 1).length : Int)] fun r8 =>
 chk (0 ≤ (0 : Int) ∧ (0 : Int) ≤ (lI r8.2 3) ∧ (lI r8.2 3) ≤ ((lL r8.2 1).length : Int)) <|
 chk ((([] : LsV).length + (((lL r8.2 1).take ((lI r8.2 3).toNat)).drop 0).length) * 32 ≤ 140737488355328 ∧ ([] : LsV).length + (((lL r8.2 1).take ((lI r8.2 3).toNat)).drop 0).length ≤ 140737488355328) <|
 chk (0 ≤ (lI r8.2 2)) <|
 idx true [.str, .str] (lL r8.2 0) ((lI r8.2 2).toNat) fun (e9 : r8_) =>
 chk (((([] : LsV) ++ (((lL r8.2 1).take ((lI r8.2 3).toNat)).drop 0)).length + ([.agg [.str e9.1, .str e9.2.1]] : LsV).length) * 32 ≤ 140737488355328 ∧ (([] : LsV) ++ (((lL r8.2 1).take ((lI r8.2 3).toNat)).drop 0)).length + ([.agg [.str e9.1, .str e9.2.1]] : LsV).length ≤ 140737488355328) <|
 chk (0 ≤ (lI r8.2 3) ∧ (lI r8.2 3) ≤ ((lL r8.2 1).length : Int) ∧ ((lL r8.2 1).length : Int) ≤ ((lL r8.2 1).length : Int)) <|
 chk ((((([] : LsV) ++ (((lL r8.2 1).take ((lI r8.2 3).toNat)).drop 0)) ++ ([.agg [.str e9.1, .str e9.2.1]] : LsV)).length + (((lL r8.2 1).take (((lL r8.2 1).length : Int).toNat)).drop ((lI r8.2 3).toNat)).length) * 32 ≤ 140737488355328 ∧ ((([] : LsV) ++ (((lL r8.2 1).take ((lI r8.2 3).toNat)).drop 0)) ++ ([.agg [.str e9.1, .str e9.2.1]] : LsV)).length + (((lL r8.2 1).take (((lL r8.2 1).length : Int).toNat)).drop ((lI r8.2 3).toNat)).length ≤ 140737488355328) <|
 some (.inl [.l (lL r8.2 0), .l (((([] : LsV) ++ (((lL r8.2 1).take ((lI r8.2 3).toNat)).drop 0)) ++ ([.agg [.str e9.1, .str e9.2.1]] : LsV)) ++ (((lL r8.2 1).take (((lL r8.2 1).length : Int).toNat)).drop ((lI r8.2 3).toNat))), .i (IntKind.wrap .i64 ((lI r8.2 2) + 1))]))) (
 some (.inr (0, [.l (lL s1 1)])))) [.l l, .l [], .i 0] fun r10 =>
 k (lL r10.2 0)
def F88 : T88 := P88 F147 F148
def X88 : Exits := fun i => lookN i [] [(3, [(.exit 0, xk 57 [(3, .own 1000000 2 .flat [])] [])]), (7, [(.exit 2, xk 57 [(0, .sl 2 true []), (3, .own 1000000 2 .flat []), (4, .int .i64 0), (5, .int .i64 0)] [])])]
abbrev s88 : List (Bool × List CK) := s181
abbrev G88 := G181
abbrev W88 (F : T88) : WT := wrap s88 (G88 F)
theorem k88 (F147 : T147) (F148 : T148) : KO [(147, W147 F147), (148, W148 F148)] X88 88 Tryz.f88 s88 (G88 (P88 F147 F148)) := fun _ _ _ => by kernel_rfl
theorem ok88 : FnOk D 88 (W88 F88) := oW Tryz.func88 (tc ok147 (tc ok148 tn)) (k88 F147 F148 )
abbrev T21 : Type 1 := (β : Type) → Bool → LU → LU → Bool → LsV → LsV → LsV → LU → LU → LsV → Bool → LsV → LsV → LsV → LsV → LsV → Int → Int → Int → Int → LsV → LsV → Bool → LsV → LsV → Int → (LsV → Option β) → Option β
def P21 (F87 : T87) (F88 : T88) : T21 := fun β c1 a c d f g h j m n o p q r t u v w x y z a1 b1 d1 f1 g1 k =>
 F87 _ a c d f g h j m n o p q r t u v w x y z a1 b1 fun l1 =>
 whileK (fun s2 =>
 br (decide ((lI s2 2) < ((lL s2 1).length : Int))) (
 br (lB s2 3) (
 chk (0 ≤ (lI s2 2) ∧ (lI s2 2).toNat < (lL s2 1).length) <|
 idxAt [.str, .str] (lL s2 1) ((lI s2 2).toNat) 1 fun (e3 : r8_) =>
 chk (((lL s2 0).length + ([.agg [.str e3.1, .str e3.2.1]] : LsV).length) * 32 ≤ 140737488355328 ∧ (lL s2 0).length + ([.agg [.str e3.1, .str e3.2.1]] : LsV).length ≤ 140737488355328) <|
 some (.inl [.l ((lL s2 0) ++ ([.agg [.str e3.1, .str e3.2.1]] : LsV)), .l (lL s2 1), .i (IntKind.wrap .i64 ((lI s2 2) + 1)), .b (lB s2 3), .s (lS s2 4), .s (lS s2 5), .b (lB s2 6), .l (lL s2 7), .l (lL s2 8), .l (lL s2 9), .s (lS s2 10), .s (lS s2 11), .l (lL s2 12), .b (lB s2 13), .l (lL s2 14), .l (lL s2 15), .l (lL s2 16), .l (lL s2 17), .l (lL s2 18), .i (lI s2 19), .i (lI s2 20), .i (lI s2 21), .i (lI s2 22), .l (lL s2 23), .l (lL s2 24), .b (lB s2 25), .l (lL s2 26), .l (lL s2 27), .i (lI s2 28)])) (
 some (.inr (0, [.l (lL s2 0)])))) (
 some (.inr (0, [.l (lL s2 0)])))) [.l [], .l l1, .i 0, .b c1, .s a, .s c, .b d, .l f, .l g, .l h, .s j, .s m, .l n, .b o, .l p, .l q, .l r, .l t, .l u, .i v, .i w, .i x, .i y, .l z, .l a1, .b b1, .l d1, .l f1, .i g1] fun r4 =>
 F88 _ (lL r4.2 0) fun l5 =>
 k l5
def F21 : T21 := P21 F87 F88
def X21 : Exits := fun i => lookN i [] [(4, [(.exit 0, xk 30 [(3, .own 1000000 2 .flat [])] [])])]
abbrev s21 : List (Bool × List CK) := s22
def G21 (F : T21) (β : Type) (e : argsT s21) (k : V → Option β) : Option β := let a:=e.1;let b:=a.2;let c:=b.2;let d:=c.2;let f:=d.2;let g:=f.2;let h:=g.2;let i:=h.2;let j:=i.2;let l:=j.2;let m:=l.2;let n:=m.2;let o:=n.2;let p:=o.2;let q:=p.2;let r:=q.2;let s:=r.2;let t:=s.2;let u:=t.2;let v:=u.2;let w:=v.2;let x:=w.2;let y:=x.2;let z:=y.2;let a1:=z.2;let b1:=a1.2;F β a.1 b.1 c.1 d.1 f.1 g.1 h.1 i.1 j.1 l.1 m.1 n.1 o.1 p.1 q.1 r.1 s.1 t.1 u.1 v.1 w.1 x.1 y.1 z.1 a1.1 b1.1 (fun y1 => k (.own 0 2 .flat y1))
abbrev W21 (F : T21) : WT := wrap s21 (G21 F)
theorem k21 (F87 : T87) (F88 : T88) : KO [(87, W87 F87), (88, W88 F88)] X21 21 Tryz.f21 s21 (G21 (P21 F87 F88)) := fun _ _ _ => by kernel_rfl
theorem ok21 : FnOk D 21 (W21 F21) := oW Tryz.func21 (tc ok87 (tc ok88 tn)) (k21 F87 F88 )
abbrev T151 : Type 1 := T143
def P151 : T151 := fun β b c d f g h j m n o p q a r s t u v w x y z k =>
 whileK (fun s1 =>
 br (decide ((lI s1 3) < (lI s1 2))) (
 chk (0 ≤ (lI s1 3)) <|
 idx true q2 (lL s1 1) ((lI s1 3).toNat) fun (e2 : r0_) =>
 br (!e2.2.2.2.2.2.1) (
 chk (((lL s1 0).length + ([.int .i64 (lI s1 3)] : LsV).length) * 8 ≤ 140737488355328 ∧ (lL s1 0).length + ([.int .i64 (lI s1 3)] : LsV).length ≤ 140737488355328) <|
 some (.inl [.l ((lL s1 0) ++ ([.int .i64 (lI s1 3)] : LsV)), .l (lL s1 1), .i (lI s1 2), .i (IntKind.wrap .i64 ((lI s1 3) + 1))])) (
 some (.inl [.l (lL s1 0), .l (lL s1 1), .i (lI s1 2), .i (IntKind.wrap .i64 ((lI s1 3) + 1))]))) (
 some (.inr (0, [.l (lL s1 0)])))) [.l [], .l a, .i (a.length : Int), .i 0] fun r3 =>
 k (lL r3.2 0)
def F151 : T151 := P151
def X151 : Exits := fun i => lookN i [] [(3, [(.exit 0, xk 24 [(3, .own 1000000 1 .flat [])] [])])]
abbrev s151 : List (Bool × List CK) := s11
abbrev G151 := G143
abbrev W151 (F : T151) : WT := wrap s151 (G151 F)
theorem k151 : KO [] X151 151 Tryz.f151 s151 (G151 (P151)) := fun _ _ _ => by kernel_rfl
theorem ok151 : FnOk D 151 (W151 F151) := oW Tryz.func151 (tn) (k151 )
abbrev T192 : Type 1 := T189
def P192 : T192 := fun β mode k =>
 br (mode == 1) (
 k 4) (
 br (mode == 2) (
 k 3) (
 br (mode == 3) (
 k 2) (
 br (mode == 4) (
 k 2) (
 k 0))))
def F192 : T192 := P192
abbrev s192 : List (Bool × List CK) := s189
abbrev G192 := G189
abbrev W192 (F : T192) : WT := wrap s192 (G192 F)
theorem k192 : KO [] noX 192 Tryz.f192 s192 (G192 (P192)) := fun _ _ _ => by kernel_rfl
theorem ok192 : FnOk D 192 (W192 F192) := oW Tryz.func192 (tn) (k192 )
abbrev T152 : Type 1 := T144
def P152 (F192 : T192) : T152 := fun β b c d f g h i j l m n o a p q r s t u v w x xk k =>
 br (decide (xk < 0)) (
 k 0 [] [] [] []) (
 br (decide (xk ≥ (a.length : Int))) (
 k 0 [] [] [] []) (
 chk (0 ≤ xk) <|
 idx true q2 a xk.toNat fun (e1 : r0_) =>
 F192 _ e1.1 fun n2 =>
 k n2 e1.2.1 e1.2.2.1 b e1.2.2.2.1))
def F152 : T152 := P152 F192
abbrev s152 : List (Bool × List CK) := s8
abbrev G152 := G144
abbrev W152 (F : T152) : WT := wrap s152 (G152 F)
theorem k152 (F192 : T192) : KO [(192, W192 F192)] noX 152 Tryz.f152 s152 (G152 (P152 F192)) := fun _ _ _ => by kernel_rfl
theorem ok152 : FnOk D 152 (W152 F152) := oW Tryz.func152 (tc ok192 tn) (k152 F192 )
abbrev T153 : Type 1 := T143
def P153 : T153 := fun β b c d f g h j m n o p q r a s t u v w x y z k =>
 whileK (fun s1 =>
 br (decide ((lI s1 3) < (lI s1 2))) (
 chk (0 ≤ (lI s1 3)) <|
 idx true q5 (lL s1 1) ((lI s1 3).toNat) fun (e2 : r5_) =>
 br (!e2.2.2.1) (
 chk (((lL s1 0).length + ([.int .i64 (lI s1 3)] : LsV).length) * 8 ≤ 140737488355328 ∧ (lL s1 0).length + ([.int .i64 (lI s1 3)] : LsV).length ≤ 140737488355328) <|
 some (.inl [.l ((lL s1 0) ++ ([.int .i64 (lI s1 3)] : LsV)), .l (lL s1 1), .i (lI s1 2), .i (IntKind.wrap .i64 ((lI s1 3) + 1))])) (
 some (.inl [.l (lL s1 0), .l (lL s1 1), .i (lI s1 2), .i (IntKind.wrap .i64 ((lI s1 3) + 1))]))) (
 some (.inr (0, [.l (lL s1 0)])))) [.l [], .l a, .i (a.length : Int), .i 0] fun r3 =>
 k (lL r3.2 0)
def F153 : T153 := P153
def X153 : Exits := fun i => lookN i [] [(3, [(.exit 0, xk 24 [(3, .own 1000000 1 .flat [])] [])])]
abbrev s153 : List (Bool × List CK) := s11
abbrev G153 := G143
abbrev W153 (F : T153) : WT := wrap s153 (G153 F)
theorem k153 : KO [] X153 153 Tryz.f153 s153 (G153 (P153)) := fun _ _ _ => by kernel_rfl
theorem ok153 : FnOk D 153 (W153 F153) := oW Tryz.func153 (tn) (k153 )
abbrev T154 : Type 1 := T144
def P154 : T154 := fun β b c d f g h i j l m n o p a q r s t u v w x xk k =>
 br (decide (xk < 0)) (
 k 0 [] [] [] []) (
 br (decide (xk ≥ (a.length : Int))) (
 k 0 [] [] [] []) (
 chk (0 ≤ xk) <|
 idx true q5 a xk.toNat fun (e1 : r5_) =>
 k 5 e1.1 e1.2.1 b []))
def F154 : T154 := P154
abbrev s154 : List (Bool × List CK) := s8
abbrev G154 := G144
abbrev W154 (F : T154) : WT := wrap s154 (G154 F)
theorem k154 : KO [] noX 154 Tryz.f154 s154 (G154 (P154)) := fun _ _ _ => by kernel_rfl
theorem ok154 : FnOk D 154 (W154 F154) := oW Tryz.func154 (tn) (k154 )
abbrev T91 : Type 1 := T143
def P91 (F151 : T151) (F152 : T152) (F153 : T153) (F154 : T154) : T91 := fun β a c d f g h j m n o p q r t u v w x y z a1 b1 k =>
 F151 _ a c d f g h j m n o p q r t u v w x y z a1 b1 fun l1 =>
 whileK (fun s2 =>
 br (decide ((lI s2 3) < (lI s2 2))) (
 chk (0 ≤ (lI s2 3) ∧ (lI s2 3).toNat < (lL s2 1).length) <|
 idxAt [.int .i64] (lL s2 1) ((lI s2 3).toNat) 0 fun (e3 : Int × Unit) =>
 F152 _ (lS s2 4) (lS s2 5) (lB s2 6) (lL s2 7) (lL s2 8) (lL s2 9) (lS s2 10) (lS s2 11) (lL s2 12) (lB s2 13) (lL s2 14) (lL s2 15) (lL s2 16) (lL s2 17) (lL s2 18) (lI s2 19) (lI s2 20) (lI s2 21) (lI s2 22) (lL s2 23) (lL s2 24) (lB s2 25) e3.1 fun n4 t5 t6 t7 t8 =>
 chk (((lL s2 0).length + ([.agg [.int .i64 n4, .str t5, .str t6, .str t7, .str t8]] : LsV).length) * 72 ≤ 140737488355328 ∧ (lL s2 0).length + ([.agg [.int .i64 n4, .str t5, .str t6, .str t7, .str t8]] : LsV).length ≤ 140737488355328) <|
 some (.inl [.l ((lL s2 0) ++ ([.agg [.int .i64 n4, .str t5, .str t6, .str t7, .str t8]] : LsV)), .l (lL s2 1), .i (lI s2 2), .i (IntKind.wrap .i64 ((lI s2 3) + 1)), .s (lS s2 4), .s (lS s2 5), .b (lB s2 6), .l (lL s2 7), .l (lL s2 8), .l (lL s2 9), .s (lS s2 10), .s (lS s2 11), .l (lL s2 12), .b (lB s2 13), .l (lL s2 14), .l (lL s2 15), .l (lL s2 16), .l (lL s2 17), .l (lL s2 18), .i (lI s2 19), .i (lI s2 20), .i (lI s2 21), .i (lI s2 22), .l (lL s2 23), .l (lL s2 24), .b (lB s2 25)])) (
 some (.inr (0, [.l (lL s2 0), .s (lS s2 4), .s (lS s2 5), .b (lB s2 6), .l (lL s2 7), .l (lL s2 8), .l (lL s2 9), .s (lS s2 10), .s (lS s2 11), .l (lL s2 12), .b (lB s2 13), .l (lL s2 14), .l (lL s2 15), .l (lL s2 16), .l (lL s2 17), .l (lL s2 18), .i (lI s2 19), .i (lI s2 20), .i (lI s2 21), .i (lI s2 22), .l (lL s2 23), .l (lL s2 24), .b (lB s2 25)])))) [.l [], .l l1, .i (l1.length : Int), .i 0, .s a, .s c, .b d, .l f, .l g, .l h, .s j, .s m, .l n, .b o, .l p, .l q, .l r, .l t, .l u, .i v, .i w, .i x, .i y, .l z, .l a1, .b b1] fun r9 =>
 F153 _ (lS r9.2 1) (lS r9.2 2) (lB r9.2 3) (lL r9.2 4) (lL r9.2 5) (lL r9.2 6) (lS r9.2 7) (lS r9.2 8) (lL r9.2 9) (lB r9.2 10) (lL r9.2 11) (lL r9.2 12) (lL r9.2 13) (lL r9.2 14) (lL r9.2 15) (lI r9.2 16) (lI r9.2 17) (lI r9.2 18) (lI r9.2 19) (lL r9.2 20) (lL r9.2 21) (lB r9.2 22) fun l10 =>
 whileK (fun s11 =>
 br (decide ((lI s11 3) < (lI s11 2))) (
 chk (0 ≤ (lI s11 3) ∧ (lI s11 3).toNat < (lL s11 1).length) <|
 idxAt [.int .i64] (lL s11 1) ((lI s11 3).toNat) 0 fun (e12 : Int × Unit) =>
 F154 _ (lS s11 4) (lS s11 5) (lB s11 6) (lL s11 7) (lL s11 8) (lL s11 9) (lS s11 10) (lS s11 11) (lL s11 12) (lB s11 13) (lL s11 14) (lL s11 15) (lL s11 16) (lL s11 17) (lL s11 18) (lI s11 19) (lI s11 20) (lI s11 21) (lI s11 22) (lL s11 23) (lL s11 24) (lB s11 25) e12.1 fun n13 t14 t15 t16 t17 =>
 chk (((lL s11 0).length + ([.agg [.int .i64 n13, .str t14, .str t15, .str t16, .str t17]] : LsV).length) * 72 ≤ 140737488355328 ∧ (lL s11 0).length + ([.agg [.int .i64 n13, .str t14, .str t15, .str t16, .str t17]] : LsV).length ≤ 140737488355328) <|
 some (.inl [.l ((lL s11 0) ++ ([.agg [.int .i64 n13, .str t14, .str t15, .str t16, .str t17]] : LsV)), .l (lL s11 1), .i (lI s11 2), .i (IntKind.wrap .i64 ((lI s11 3) + 1)), .s (lS s11 4), .s (lS s11 5), .b (lB s11 6), .l (lL s11 7), .l (lL s11 8), .l (lL s11 9), .s (lS s11 10), .s (lS s11 11), .l (lL s11 12), .b (lB s11 13), .l (lL s11 14), .l (lL s11 15), .l (lL s11 16), .l (lL s11 17), .l (lL s11 18), .i (lI s11 19), .i (lI s11 20), .i (lI s11 21), .i (lI s11 22), .l (lL s11 23), .l (lL s11 24), .b (lB s11 25)])) (
 some (.inr (0, [.l (lL s11 0)])))) [.l (lL r9.2 0), .l l10, .i (l10.length : Int), .i 0, .s (lS r9.2 1), .s (lS r9.2 2), .b (lB r9.2 3), .l (lL r9.2 4), .l (lL r9.2 5), .l (lL r9.2 6), .s (lS r9.2 7), .s (lS r9.2 8), .l (lL r9.2 9), .b (lB r9.2 10), .l (lL r9.2 11), .l (lL r9.2 12), .l (lL r9.2 13), .l (lL r9.2 14), .l (lL r9.2 15), .i (lI r9.2 16), .i (lI r9.2 17), .i (lI r9.2 18), .i (lI r9.2 19), .l (lL r9.2 20), .l (lL r9.2 21), .b (lB r9.2 22)] fun r18 =>
 k (lL r18.2 0)
def F91 : T91 := P91 F151 F152 F153 F154
def X91 : Exits := fun i => lookN i [] [(3, [(.exit 0, xk 38 [(1, .ptr 1 0), (3, .own 1000000 5 .flat [])] [(1, .agg [.str [], .str [], .bool false, .sl 1 true [], .sl 1 true [], .sl 1 true [], .str [], .str [], .sl 4 false [], .bool false, .sl 4 false [], .sl 1 true [], .sl 8 true [], .sl 5 true [], .sl 2 true [], .int .i64 0, .int .i64 0, .int .i64 0, .int .i64 0, .sl 2 true [], .sl 1 true [], .bool false])])]), (8, [(.exit 2, xk 38 [(3, .own 1000000 5 .flat [])] [])])]
abbrev s91 : List (Bool × List CK) := s11
abbrev G91 := G87
abbrev W91 (F : T91) : WT := wrap s91 (G91 F)
theorem k91 (F151 : T151) (F152 : T152) (F153 : T153) (F154 : T154) : KO [(151, W151 F151), (152, W152 F152), (153, W153 F153), (154, W154 F154)] X91 91 Tryz.f91 s91 (G91 (P91 F151 F152 F153 F154)) := fun _ _ _ => by kernel_rfl
theorem ok91 : FnOk D 91 (W91 F91) := oW Tryz.func91 (tc ok151 (tc ok152 (tc ok153 (tc ok154 tn)))) (k91 F151 F152 F153 F154 )
abbrev T92 : Type 1 := T58
def F92 : T92 := sortPrK
abbrev s92 : List (Bool × List CK) := s181
abbrev G92 := G181
abbrev W92 (F : T92) : WT := wrap s92 (G92 F)
theorem ok92 : FnOk D 92 (W92 F92) := ok_sortPr (fun _ => rfl)
abbrev T23 : Type 1 := T21
def P23 (F91 : T91) (F92 : T92) : T23 := fun β c1 a c d f g h j m n o p q r t u v w x y z a1 b1 d1 f1 g1 k =>
 F91 _ a c d f g h j m n o p q r t u v w x y z a1 b1 fun l1 =>
 whileK (fun s2 =>
 br (decide ((lI s2 3) < (lI s2 2))) (
 chk (0 ≤ (lI s2 3) ∧ (lI s2 3).toNat < (lL s2 1).length) <|
 idxAt [.int .i64, .str, .str, .str, .str] (lL s2 1) ((lI s2 3).toNat) 0 fun (e3 : Int × LU × LU × LU × LU × Unit) =>
 br (lB s2 4) (
 chk (((lL s2 0).length + ([.agg [.str e3.2.1, .str e3.2.2.1]] : LsV).length) * 32 ≤ 140737488355328 ∧ (lL s2 0).length + ([.agg [.str e3.2.1, .str e3.2.2.1]] : LsV).length ≤ 140737488355328) <|
 some (.inl [.l ((lL s2 0) ++ ([.agg [.str e3.2.1, .str e3.2.2.1]] : LsV)), .l (lL s2 1), .i (lI s2 2), .i (IntKind.wrap .i64 ((lI s2 3) + 1)), .b (lB s2 4), .s (lS s2 5), .s (lS s2 6), .b (lB s2 7), .l (lL s2 8), .l (lL s2 9), .l (lL s2 10), .s (lS s2 11), .s (lS s2 12), .l (lL s2 13), .b (lB s2 14), .l (lL s2 15), .l (lL s2 16), .l (lL s2 17), .l (lL s2 18), .l (lL s2 19), .i (lI s2 20), .i (lI s2 21), .i (lI s2 22), .i (lI s2 23), .l (lL s2 24), .l (lL s2 25), .b (lB s2 26), .l (lL s2 27), .l (lL s2 28), .i (lI s2 29)])) (
 some (.inl [.l (lL s2 0), .l (lL s2 1), .i (lI s2 2), .i (IntKind.wrap .i64 ((lI s2 3) + 1)), .b (lB s2 4), .s (lS s2 5), .s (lS s2 6), .b (lB s2 7), .l (lL s2 8), .l (lL s2 9), .l (lL s2 10), .s (lS s2 11), .s (lS s2 12), .l (lL s2 13), .b (lB s2 14), .l (lL s2 15), .l (lL s2 16), .l (lL s2 17), .l (lL s2 18), .l (lL s2 19), .i (lI s2 20), .i (lI s2 21), .i (lI s2 22), .i (lI s2 23), .l (lL s2 24), .l (lL s2 25), .b (lB s2 26), .l (lL s2 27), .l (lL s2 28), .i (lI s2 29)]))) (
 some (.inr (0, [.l (lL s2 0)])))) [.l [], .l l1, .i (l1.length : Int), .i 0, .b c1, .s a, .s c, .b d, .l f, .l g, .l h, .s j, .s m, .l n, .b o, .l p, .l q, .l r, .l t, .l u, .i v, .i w, .i x, .i y, .l z, .l a1, .b b1, .l d1, .l f1, .i g1] fun r4 =>
 F92 _ (lL r4.2 0) fun l5 =>
 k l5
def F23 : T23 := P23 F91 F92
def X23 : Exits := fun i => lookN i [] [(3, [(.exit 0, xk 25 [(3, .own 1000000 2 .flat [])] [])])]
abbrev s23 : List (Bool × List CK) := s22
abbrev G23 := G21
abbrev W23 (F : T23) : WT := wrap s23 (G23 F)
theorem k23 (F91 : T91) (F92 : T92) : KO [(91, W91 F91), (92, W92 F92)] X23 23 Tryz.f23 s23 (G23 (P23 F91 F92)) := fun _ _ _ => by kernel_rfl
theorem ok23 : FnOk D 23 (W23 F23) := oW Tryz.func23 (tc ok91 (tc ok92 tn)) (k23 F91 F92 )
abbrev T97 : Type 1 := (β : Type) → Int → (LU → Option β) → Option β
def P97 : T97 := fun β xk k =>
 br (decide (xk ≤ 0)) (
 k [109, 48]) (
 whileK (fun s1 =>
 br (decide ((lI s1 0) > 0)) (
 strO [.int .u8 (IntKind.wrap .u8 (IntKind.wrap .i64 (48 + (Int.tmod (lI s1 0) 10))))] fun t2 =>
 chk (t2.length + (lS s1 1).length ≤ 9223372036854775807) <|
 some (.inl [.i (IntKind.wrap .i64 (Int.tdiv (lI s1 0) 10)), .s (t2 ++ (lS s1 1))])) (
 some (.inr (0, [.s (lS s1 1)])))) [.i xk, .s []] fun r3 =>
 chk (([109] : LU).length + (lS r3.2 0).length ≤ 9223372036854775807) <|
 k ([109] ++ (lS r3.2 0)))
def F97 : T97 := P97
def X97 : Exits := fun i => lookN i [] [(4, [(.exit 0, xk 20 [(3, .str [])] [])])]
abbrev s97 : List (Bool × List CK) := s189
def G97 (F : T97) (β : Type) (e : argsT s97) (k : V → Option β) : Option β := F β e.1.1 (fun y1 => k (.str y1))
abbrev W97 (F : T97) : WT := wrap s97 (G97 F)
theorem k97 : KO [] X97 97 Tryz.f97 s97 (G97 (P97)) := fun _ _ _ => by kernel_rfl
theorem ok97 : FnOk D 97 (W97 F97) := oW Tryz.func97 (tn) (k97 )
end
end Go.Am

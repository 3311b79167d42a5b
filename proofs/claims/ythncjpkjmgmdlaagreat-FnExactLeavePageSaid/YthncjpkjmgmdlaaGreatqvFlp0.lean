/-
  Functions of the program, extracted by program (sym.py) out of their code: what each computes, and, by the kernel's reckoning, that the machine's looking form computes just that; so what the machine answers.
-/
import Derived.Test.YthncjpkjmgmdlaaGreatqvAmCfg
import Derived.Test.YthncjpkjmgmdlaaGreatqvAmEvOk2
import Derived.KernelRfl
set_option maxRecDepth 10000
set_option linter.unusedVariables false
namespace Go.Am
open Go Go.Proofs
noncomputable section
abbrev WT : Type 1 := (β : Type) → List V → (V → Option β) → Option β
abbrev T37 : Type 1 := (β : Type) → List UInt8 → List UInt8 → Int → (Int → Option β) → Option β
def P37 : T37 := fun β a_Host a_Path left k =>
 br (decide (IntKind.wrap .i64 (left - (a_Host.length : Int)) < 0)) (
 k (-1)) (
 br (decide (IntKind.wrap .i64 ((IntKind.wrap .i64 (left - (a_Host.length : Int))) - (a_Path.length : Int)) < 0)) (
 k (-1)) (
 k (IntKind.wrap .i64 ((IntKind.wrap .i64 (left - (a_Host.length : Int))) - (a_Path.length : Int)))))
def F37 : T37 := P37
abbrev s37 : List (Bool × List CK) := [(true, [.str, .str]), (false, [.int .i64])]
def G37 (F : T37) (β : Type) (e : (List UInt8 × List UInt8 × Unit) × (Int × Unit) × Unit) (k : V → Option β) : Option β := F β e.1.1 e.1.2.1 e.2.1.1 (fun y1 => k (.int .i64 y1))
abbrev W37 (F : T37) : WT := wrap s37 (G37 F)
theorem k37 (β : Type) (e : argsT s37) (k : V → Option β) : fnK cfg (tabL []) noX 37 Tryz.f37 β (argsEnc s37 e) k = G37 (P37 ) β e k := by kernel_rfl
theorem ok37 : FnOk D 37 (W37 F37) := fn_okW [] noX (fun _ => rfl) Tryz.func37 rfl (tabL_nil) (k37 )
abbrev T45 : Type 1 := (β : Type) → List V → Int → (Int → Option β) → Option β
def P45 : T45 := fun β a left k =>
 br (decide (IntKind.wrap .i64 (left - (a.length : Int)) < 0)) (
 k (-1)) (
 whileK (fun s1 =>
 br (decide ((lI s1 2) < ((lL s1 0).length : Int))) (
 chk (0 ≤ (lI s1 2)) <|
 idx false [.str] (lL s1 0) ((lI s1 2).toNat) fun (e2 : List UInt8 × Unit) =>
 br (decide (IntKind.wrap .i64 ((lI s1 1) - (e2.1.length : Int)) < 0)) (
 some (.inr (0, [.i (IntKind.wrap .i64 ((lI s1 1) - (e2.1.length : Int))), .i (-1)]))) (
 some (.inl [.l (lL s1 0), .i (IntKind.wrap .i64 ((lI s1 1) - (e2.1.length : Int))), .i (IntKind.wrap .i64 ((lI s1 2) + 1))]))) (
 some (.inr (1, [.i (lI s1 1)])))) [.l a, .i (IntKind.wrap .i64 (left - (a.length : Int))), .i 0] fun (r3 : Nat × List Leaf) =>
 if r3.1 = 0 then
 k (lI r3.2 1)
 else
 k (lI r3.2 0))
def F45 : T45 := P45
def X45 : Exits := fun i => lookN i [] [(5, [(.ret, xk 28 [(1, .int .i64 0), (4, .int .i64 0)] []), (.exit 0, xk 28 [(1, .int .i64 0)] [])])]
abbrev s45 : List (Bool × List CK) := [(false, [.sl 1 true]), (false, [.int .i64])]
def G45 (F : T45) (β : Type) (e : (List V × Unit) × (Int × Unit) × Unit) (k : V → Option β) : Option β := F β e.1.1 e.2.1.1 (fun y1 => k (.int .i64 y1))
abbrev W45 (F : T45) : WT := wrap s45 (G45 F)
theorem k45 (β : Type) (e : argsT s45) (k : V → Option β) : fnK cfg (tabL []) X45 45 Tryz.f45 β (argsEnc s45 e) k = G45 (P45 ) β e k := by kernel_rfl
theorem ok45 : FnOk D 45 (W45 F45) := fn_okW [] X45 (fun _ => rfl) Tryz.func45 rfl (tabL_nil) (k45 )
abbrev T38 : Type 1 := (β : Type) → Bool → List V → List V → List V → List UInt8 → Int → (Int → Option β) → Option β
def P38 (F45 : T45) : T38 := fun β a_Set a_Scripts a_Styles a_Images a_Nonce left k =>
 F45 _ a_Scripts left fun n1 =>
 br (decide (n1 < 0)) (
 k (-1)) (
 F45 _ a_Styles n1 fun n2 =>
 br (decide (n2 < 0)) (
 k (-1)) (
 F45 _ a_Images n2 fun n3 =>
 br (decide (n3 < 0)) (
 k (-1)) (
 br (decide (IntKind.wrap .i64 (n3 - (a_Nonce.length : Int)) < 0)) (
 k (-1)) (
 k (IntKind.wrap .i64 (n3 - (a_Nonce.length : Int)))))))
def F38 : T38 := P38 F45
abbrev s38 : List (Bool × List CK) := [(true, [.bool, .sl 1 true, .sl 1 true, .sl 1 true, .str]), (false, [.int .i64])]
def G38 (F : T38) (β : Type) (e : (Bool × List V × List V × List V × List UInt8 × Unit) × (Int × Unit) × Unit) (k : V → Option β) : Option β := let a0_0 := e.1; let a0_1 := a0_0.2; let a0_2 := a0_1.2; let a0_3 := a0_2.2; let a0_4 := a0_3.2; F β a0_0.1 a0_1.1 a0_2.1 a0_3.1 a0_4.1 e.2.1.1 (fun y1 => k (.int .i64 y1))
abbrev W38 (F : T38) : WT := wrap s38 (G38 F)
theorem k38 (F45 : T45) (β : Type) (e : argsT s38) (k : V → Option β) : fnK cfg (tabL [(45, W45 F45)]) noX 38 Tryz.f38 β (argsEnc s38 e) k = G38 (P38 F45 ) β e k := by kernel_rfl
theorem ok38 : FnOk D 38 (W38 F38) := fn_okW [(45, W45 F45)] noX (fun _ => rfl) Tryz.func38 rfl (tabL_cons ok45 tabL_nil) (k38 F45 )
abbrev T39 : Type 1 := (β : Type) → List UInt8 → Int → (Int → Option β) → Option β
def P39 : T39 := fun β a_Rest left k =>
 br (decide (IntKind.wrap .i64 (left - (a_Rest.length : Int)) < 0)) (
 k (-1)) (
 k (IntKind.wrap .i64 (left - (a_Rest.length : Int))))
def F39 : T39 := P39
abbrev s39 : List (Bool × List CK) := [(true, [.str]), (false, [.int .i64])]
def G39 (F : T39) (β : Type) (e : (List UInt8 × Unit) × (Int × Unit) × Unit) (k : V → Option β) : Option β := F β e.1.1 e.2.1.1 (fun y1 => k (.int .i64 y1))
abbrev W39 (F : T39) : WT := wrap s39 (G39 F)
theorem k39 (β : Type) (e : argsT s39) (k : V → Option β) : fnK cfg (tabL []) noX 39 Tryz.f39 β (argsEnc s39 e) k = G39 (P39 ) β e k := by kernel_rfl
theorem ok39 : FnOk D 39 (W39 F39) := fn_okW [] noX (fun _ => rfl) Tryz.func39 rfl (tabL_nil) (k39 )
abbrev T213 : Type 1 := (β : Type) → List UInt8 → List UInt8 → Int → (Int → Option β) → Option β
def P213 : T213 := fun β a_Name a_Value left k =>
 br (decide (IntKind.wrap .i64 (left - (a_Name.length : Int)) < 0)) (
 k (-1)) (
 br (decide (IntKind.wrap .i64 ((IntKind.wrap .i64 (left - (a_Name.length : Int))) - (a_Value.length : Int)) < 0)) (
 k (-1)) (
 k (IntKind.wrap .i64 ((IntKind.wrap .i64 (left - (a_Name.length : Int))) - (a_Value.length : Int)))))
def F213 : T213 := P213
abbrev s213 : List (Bool × List CK) := [(true, [.str, .str]), (false, [.int .i64])]
def G213 (F : T213) (β : Type) (e : (List UInt8 × List UInt8 × Unit) × (Int × Unit) × Unit) (k : V → Option β) : Option β := F β e.1.1 e.1.2.1 e.2.1.1 (fun y1 => k (.int .i64 y1))
abbrev W213 (F : T213) : WT := wrap s213 (G213 F)
theorem k213 (β : Type) (e : argsT s213) (k : V → Option β) : fnK cfg (tabL []) noX 213 Tryz.f213 β (argsEnc s213 e) k = G213 (P213 ) β e k := by kernel_rfl
theorem ok213 : FnOk D 213 (W213 F213) := fn_okW [] noX (fun _ => rfl) Tryz.func213 rfl (tabL_nil) (k213 )
abbrev T178 : Type 1 := (β : Type) → List V → Int → (Int → Option β) → Option β
def P178 (F213 : T213) : T178 := fun β a left k =>
 br (decide (IntKind.wrap .i64 (left - (a.length : Int)) < 0)) (
 k (-1)) (
 whileK (fun s1 =>
 br (decide ((lI s1 2) < ((lL s1 0).length : Int))) (
 chk (0 ≤ (lI s1 2)) <|
 idx true [.str, .str] (lL s1 0) ((lI s1 2).toNat) fun (e2 : List UInt8 × List UInt8 × Unit) =>
 F213 _ e2.1 e2.2.1 (lI s1 1) fun n3 =>
 br (decide (n3 < 0)) (
 some (.inr (0, [.i n3, .i (-1)]))) (
 some (.inl [.l (lL s1 0), .i n3, .i (IntKind.wrap .i64 ((lI s1 2) + 1))]))) (
 some (.inr (1, [.i (lI s1 1)])))) [.l a, .i (IntKind.wrap .i64 (left - (a.length : Int))), .i 0] fun (r4 : Nat × List Leaf) =>
 if r4.1 = 0 then
 k (lI r4.2 1)
 else
 k (lI r4.2 0))
def F178 : T178 := P178 F213
def X178 : Exits := fun i => lookN i [] [(5, [(.ret, xk 27 [(1, .int .i64 0), (4, .int .i64 0)] []), (.exit 0, xk 27 [(1, .int .i64 0)] [])])]
abbrev s178 : List (Bool × List CK) := [(false, [.sl 2 true]), (false, [.int .i64])]
def G178 (F : T178) (β : Type) (e : (List V × Unit) × (Int × Unit) × Unit) (k : V → Option β) : Option β := F β e.1.1 e.2.1.1 (fun y1 => k (.int .i64 y1))
abbrev W178 (F : T178) : WT := wrap s178 (G178 F)
theorem k178 (F213 : T213) (β : Type) (e : argsT s178) (k : V → Option β) : fnK cfg (tabL [(213, W213 F213)]) X178 178 Tryz.f178 β (argsEnc s178 e) k = G178 (P178 F213 ) β e k := by kernel_rfl
theorem ok178 : FnOk D 178 (W178 F178) := fn_okW [(213, W213 F213)] X178 (fun _ => rfl) Tryz.func178 rfl (tabL_cons ok213 tabL_nil) (k178 F213 )
abbrev T107 : Type 1 := (β : Type) → Int → List UInt8 → List V → List UInt8 → Int → (Int → Option β) → Option β
def P107 (F178 : T178) : T107 := fun β a_Kind a_Name a_Attrs a_Text left k =>
 br (decide (IntKind.wrap .i64 (left - (a_Name.length : Int)) < 0)) (
 k (-1)) (
 F178 _ a_Attrs (IntKind.wrap .i64 (left - (a_Name.length : Int))) fun n1 =>
 br (decide (n1 < 0)) (
 k (-1)) (
 br (decide (IntKind.wrap .i64 (n1 - (a_Text.length : Int)) < 0)) (
 k (-1)) (
 k (IntKind.wrap .i64 (n1 - (a_Text.length : Int))))))
def F107 : T107 := P107 F178
abbrev s107 : List (Bool × List CK) := [(true, [.int .i64, .str, .sl 2 true, .str]), (false, [.int .i64])]
def G107 (F : T107) (β : Type) (e : (Int × List UInt8 × List V × List UInt8 × Unit) × (Int × Unit) × Unit) (k : V → Option β) : Option β := F β e.1.1 e.1.2.1 e.1.2.2.1 e.1.2.2.2.1 e.2.1.1 (fun y1 => k (.int .i64 y1))
abbrev W107 (F : T107) : WT := wrap s107 (G107 F)
theorem k107 (F178 : T178) (β : Type) (e : argsT s107) (k : V → Option β) : fnK cfg (tabL [(178, W178 F178)]) noX 107 Tryz.f107 β (argsEnc s107 e) k = G107 (P107 F178 ) β e k := by kernel_rfl
theorem ok107 : FnOk D 107 (W107 F107) := fn_okW [(178, W178 F178)] noX (fun _ => rfl) Tryz.func107 rfl (tabL_cons ok178 tabL_nil) (k107 F178 )
abbrev T40 : Type 1 := (β : Type) → List V → Int → (Int → Option β) → Option β
def P40 (F107 : T107) : T40 := fun β a left k =>
 br (decide (IntKind.wrap .i64 (left - (a.length : Int)) < 0)) (
 k (-1)) (
 whileK (fun s1 =>
 br (decide ((lI s1 2) < ((lL s1 0).length : Int))) (
 chk (0 ≤ (lI s1 2)) <|
 idx true [.int .i64, .str, .sl 2 true, .str] (lL s1 0) ((lI s1 2).toNat) fun (e2 : Int × List UInt8 × List V × List UInt8 × Unit) =>
 F107 _ e2.1 e2.2.1 e2.2.2.1 e2.2.2.2.1 (lI s1 1) fun n3 =>
 br (decide (n3 < 0)) (
 some (.inr (0, [.i n3, .i (-1)]))) (
 some (.inl [.l (lL s1 0), .i n3, .i (IntKind.wrap .i64 ((lI s1 2) + 1))]))) (
 some (.inr (1, [.i (lI s1 1)])))) [.l a, .i (IntKind.wrap .i64 (left - (a.length : Int))), .i 0] fun (r4 : Nat × List Leaf) =>
 if r4.1 = 0 then
 k (lI r4.2 1)
 else
 k (lI r4.2 0))
def F40 : T40 := P40 F107
def X40 : Exits := fun i => lookN i [] [(5, [(.ret, xk 27 [(1, .int .i64 0), (4, .int .i64 0)] []), (.exit 0, xk 27 [(1, .int .i64 0)] [])])]
abbrev s40 : List (Bool × List CK) := [(false, [.sl 4 false]), (false, [.int .i64])]
def G40 (F : T40) (β : Type) (e : (List V × Unit) × (Int × Unit) × Unit) (k : V → Option β) : Option β := F β e.1.1 e.2.1.1 (fun y1 => k (.int .i64 y1))
abbrev W40 (F : T40) : WT := wrap s40 (G40 F)
theorem k40 (F107 : T107) (β : Type) (e : argsT s40) (k : V → Option β) : fnK cfg (tabL [(107, W107 F107)]) X40 40 Tryz.f40 β (argsEnc s40 e) k = G40 (P40 F107 ) β e k := by kernel_rfl
theorem ok40 : FnOk D 40 (W40 F40) := fn_okW [(107, W107 F107)] X40 (fun _ => rfl) Tryz.func40 rfl (tabL_cons ok107 tabL_nil) (k40 F107 )
abbrev T179 : Type 1 := (β : Type) → List UInt8 → List UInt8 → Int → List V → Int → (Int → Option β) → Option β
def P179 (F178 : T178) : T179 := fun β a_Name a_Text a_Parent a_Attrs left k =>
 br (decide (IntKind.wrap .i64 (left - (a_Name.length : Int)) < 0)) (
 k (-1)) (
 br (decide (IntKind.wrap .i64 ((IntKind.wrap .i64 (left - (a_Name.length : Int))) - (a_Text.length : Int)) < 0)) (
 k (-1)) (
 F178 _ a_Attrs (IntKind.wrap .i64 ((IntKind.wrap .i64 (left - (a_Name.length : Int))) - (a_Text.length : Int))) fun n1 =>
 br (decide (n1 < 0)) (
 k (-1)) (
 k n1)))
def F179 : T179 := P179 F178
abbrev s179 : List (Bool × List CK) := [(true, [.str, .str, .int .i64, .sl 2 true]), (false, [.int .i64])]
def G179 (F : T179) (β : Type) (e : (List UInt8 × List UInt8 × Int × List V × Unit) × (Int × Unit) × Unit) (k : V → Option β) : Option β := F β e.1.1 e.1.2.1 e.1.2.2.1 e.1.2.2.2.1 e.2.1.1 (fun y1 => k (.int .i64 y1))
abbrev W179 (F : T179) : WT := wrap s179 (G179 F)
theorem k179 (F178 : T178) (β : Type) (e : argsT s179) (k : V → Option β) : fnK cfg (tabL [(178, W178 F178)]) noX 179 Tryz.f179 β (argsEnc s179 e) k = G179 (P179 F178 ) β e k := by kernel_rfl
theorem ok179 : FnOk D 179 (W179 F179) := fn_okW [(178, W178 F178)] noX (fun _ => rfl) Tryz.func179 rfl (tabL_cons ok178 tabL_nil) (k179 F178 )
abbrev T108 : Type 1 := (β : Type) → List V → Int → (Int → Option β) → Option β
def P108 (F179 : T179) : T108 := fun β a left k =>
 br (decide (IntKind.wrap .i64 (left - (a.length : Int)) < 0)) (
 k (-1)) (
 whileK (fun s1 =>
 br (decide ((lI s1 2) < ((lL s1 0).length : Int))) (
 chk (0 ≤ (lI s1 2)) <|
 idx true [.str, .str, .int .i64, .sl 2 true] (lL s1 0) ((lI s1 2).toNat) fun (e2 : List UInt8 × List UInt8 × Int × List V × Unit) =>
 F179 _ e2.1 e2.2.1 e2.2.2.1 e2.2.2.2.1 (lI s1 1) fun n3 =>
 br (decide (n3 < 0)) (
 some (.inr (0, [.i n3, .i (-1)]))) (
 some (.inl [.l (lL s1 0), .i n3, .i (IntKind.wrap .i64 ((lI s1 2) + 1))]))) (
 some (.inr (1, [.i (lI s1 1)])))) [.l a, .i (IntKind.wrap .i64 (left - (a.length : Int))), .i 0] fun (r4 : Nat × List Leaf) =>
 if r4.1 = 0 then
 k (lI r4.2 1)
 else
 k (lI r4.2 0))
def F108 : T108 := P108 F179
def X108 : Exits := fun i => lookN i [] [(5, [(.ret, xk 27 [(1, .int .i64 0), (4, .int .i64 0)] []), (.exit 0, xk 27 [(1, .int .i64 0)] [])])]
abbrev s108 : List (Bool × List CK) := [(false, [.sl 4 false]), (false, [.int .i64])]
def G108 (F : T108) (β : Type) (e : (List V × Unit) × (Int × Unit) × Unit) (k : V → Option β) : Option β := F β e.1.1 e.2.1.1 (fun y1 => k (.int .i64 y1))
abbrev W108 (F : T108) : WT := wrap s108 (G108 F)
theorem k108 (F179 : T179) (β : Type) (e : argsT s108) (k : V → Option β) : fnK cfg (tabL [(179, W179 F179)]) X108 108 Tryz.f108 β (argsEnc s108 e) k = G108 (P108 F179 ) β e k := by kernel_rfl
theorem ok108 : FnOk D 108 (W108 F108) := fn_okW [(179, W179 F179)] X108 (fun _ => rfl) Tryz.func108 rfl (tabL_cons ok179 tabL_nil) (k108 F179 )
abbrev T109 : Type 1 := (β : Type) → List V → Int → (Int → Option β) → Option β
def P109 : T109 := fun β a left k =>
 br (decide (IntKind.wrap .i64 (left - (a.length : Int)) < 0)) (
 k (-1)) (
 k (IntKind.wrap .i64 (left - (a.length : Int))))
def F109 : T109 := P109
abbrev s109 : List (Bool × List CK) := [(false, [.sl 1 true]), (false, [.int .i64])]
def G109 (F : T109) (β : Type) (e : (List V × Unit) × (Int × Unit) × Unit) (k : V → Option β) : Option β := F β e.1.1 e.2.1.1 (fun y1 => k (.int .i64 y1))
abbrev W109 (F : T109) : WT := wrap s109 (G109 F)
theorem k109 (β : Type) (e : argsT s109) (k : V → Option β) : fnK cfg (tabL []) noX 109 Tryz.f109 β (argsEnc s109 e) k = G109 (P109 ) β e k := by kernel_rfl
theorem ok109 : FnOk D 109 (W109 F109) := fn_okW [] noX (fun _ => rfl) Tryz.func109 rfl (tabL_nil) (k109 )
abbrev T41 : Type 1 := (β : Type) → List V → List V → Int → (Int → Option β) → Option β
def P41 (F108 : T108) (F109 : T109) : T41 := fun β a_Nodes a_Open left k =>
 F108 _ a_Nodes left fun n1 =>
 br (decide (n1 < 0)) (
 k (-1)) (
 F109 _ a_Open n1 fun n2 =>
 br (decide (n2 < 0)) (
 k (-1)) (
 k n2))
def F41 : T41 := P41 F108 F109
abbrev s41 : List (Bool × List CK) := [(true, [.sl 4 false, .sl 1 true]), (false, [.int .i64])]
def G41 (F : T41) (β : Type) (e : (List V × List V × Unit) × (Int × Unit) × Unit) (k : V → Option β) : Option β := F β e.1.1 e.1.2.1 e.2.1.1 (fun y1 => k (.int .i64 y1))
abbrev W41 (F : T41) : WT := wrap s41 (G41 F)
theorem k41 (F108 : T108) (F109 : T109) (β : Type) (e : argsT s41) (k : V → Option β) : fnK cfg (tabL [(108, W108 F108), (109, W109 F109)]) noX 41 Tryz.f41 β (argsEnc s41 e) k = G41 (P41 F108 F109 ) β e k := by kernel_rfl
theorem ok41 : FnOk D 41 (W41 F41) := fn_okW [(108, W108 F108), (109, W109 F109)] noX (fun _ => rfl) Tryz.func41 rfl (tabL_cons ok108 (tabL_cons ok109 tabL_nil)) (k41 F108 F109 )
abbrev T110 : Type 1 := (β : Type) → Int → List UInt8 → List UInt8 → List UInt8 → Int → Bool → Int → List UInt8 → Int → (Int → Option β) → Option β
def P110 (F37 : T37) : T110 := fun β a_Mode a_To_Host a_To_Path a_Digest a_Node a_Done a_Code a_Body left k =>
 F37 _ a_To_Host a_To_Path left fun n1 =>
 br (decide (n1 < 0)) (
 k (-1)) (
 br (decide (IntKind.wrap .i64 (n1 - (a_Digest.length : Int)) < 0)) (
 k (-1)) (
 br (decide (IntKind.wrap .i64 ((IntKind.wrap .i64 (n1 - (a_Digest.length : Int))) - (a_Body.length : Int)) < 0)) (
 k (-1)) (
 k (IntKind.wrap .i64 ((IntKind.wrap .i64 (n1 - (a_Digest.length : Int))) - (a_Body.length : Int))))))
def F110 : T110 := P110 F37
abbrev s110 : List (Bool × List CK) := [(true, [.int .i64, .str, .str, .str, .int .i64, .bool, .int .i64, .str]), (false, [.int .i64])]
def G110 (F : T110) (β : Type) (e : (Int × List UInt8 × List UInt8 × List UInt8 × Int × Bool × Int × List UInt8 × Unit) × (Int × Unit) × Unit) (k : V → Option β) : Option β := let a0_0 := e.1; let a0_1 := a0_0.2; let a0_2 := a0_1.2; let a0_3 := a0_2.2; let a0_4 := a0_3.2; let a0_5 := a0_4.2; let a0_6 := a0_5.2; let a0_7 := a0_6.2; F β a0_0.1 a0_1.1 a0_2.1 a0_3.1 a0_4.1 a0_5.1 a0_6.1 a0_7.1 e.2.1.1 (fun y1 => k (.int .i64 y1))
abbrev W110 (F : T110) : WT := wrap s110 (G110 F)
theorem k110 (F37 : T37) (β : Type) (e : argsT s110) (k : V → Option β) : fnK cfg (tabL [(37, W37 F37)]) noX 110 Tryz.f110 β (argsEnc s110 e) k = G110 (P110 F37 ) β e k := by kernel_rfl
theorem ok110 : FnOk D 110 (W110 F110) := fn_okW [(37, W37 F37)] noX (fun _ => rfl) Tryz.func110 rfl (tabL_cons ok37 tabL_nil) (k110 F37 )
abbrev T42 : Type 1 := (β : Type) → List V → Int → (Int → Option β) → Option β
def P42 (F110 : T110) : T42 := fun β a left k =>
 br (decide (IntKind.wrap .i64 (left - (a.length : Int)) < 0)) (
 k (-1)) (
 whileK (fun s1 =>
 br (decide ((lI s1 2) < ((lL s1 0).length : Int))) (
 chk (0 ≤ (lI s1 2)) <|
 idx true [.int .i64, .str, .str, .str, .int .i64, .bool, .int .i64, .str] (lL s1 0) ((lI s1 2).toNat) fun (e2 : Int × List UInt8 × List UInt8 × List UInt8 × Int × Bool × Int × List UInt8 × Unit) =>
 F110 _ e2.1 e2.2.1 e2.2.2.1 e2.2.2.2.1 e2.2.2.2.2.1 e2.2.2.2.2.2.1 e2.2.2.2.2.2.2.1 e2.2.2.2.2.2.2.2.1 (lI s1 1) fun n3 =>
 br (decide (n3 < 0)) (
 some (.inr (0, [.i n3, .i (-1)]))) (
 some (.inl [.l (lL s1 0), .i n3, .i (IntKind.wrap .i64 ((lI s1 2) + 1))]))) (
 some (.inr (1, [.i (lI s1 1)])))) [.l a, .i (IntKind.wrap .i64 (left - (a.length : Int))), .i 0] fun (r4 : Nat × List Leaf) =>
 if r4.1 = 0 then
 k (lI r4.2 1)
 else
 k (lI r4.2 0))
def F42 : T42 := P42 F110
def X42 : Exits := fun i => lookN i [] [(5, [(.ret, xk 27 [(1, .int .i64 0), (4, .int .i64 0)] []), (.exit 0, xk 27 [(1, .int .i64 0)] [])])]
abbrev s42 : List (Bool × List CK) := [(false, [.sl 8 true]), (false, [.int .i64])]
def G42 (F : T42) (β : Type) (e : (List V × Unit) × (Int × Unit) × Unit) (k : V → Option β) : Option β := F β e.1.1 e.2.1.1 (fun y1 => k (.int .i64 y1))
abbrev W42 (F : T42) : WT := wrap s42 (G42 F)
theorem k42 (F110 : T110) (β : Type) (e : argsT s42) (k : V → Option β) : fnK cfg (tabL [(110, W110 F110)]) X42 42 Tryz.f42 β (argsEnc s42 e) k = G42 (P42 F110 ) β e k := by kernel_rfl
theorem ok42 : FnOk D 42 (W42 F42) := fn_okW [(110, W110 F110)] X42 (fun _ => rfl) Tryz.func42 rfl (tabL_cons ok110 tabL_nil) (k42 F110 )
abbrev T111 : Type 1 := (β : Type) → List UInt8 → List UInt8 → Bool → Int → List UInt8 → Int → (Int → Option β) → Option β
def P111 (F37 : T37) : T111 := fun β a_To_Host a_To_Path a_Done a_Code a_Body left k =>
 F37 _ a_To_Host a_To_Path left fun n1 =>
 br (decide (n1 < 0)) (
 k (-1)) (
 br (decide (IntKind.wrap .i64 (n1 - (a_Body.length : Int)) < 0)) (
 k (-1)) (
 k (IntKind.wrap .i64 (n1 - (a_Body.length : Int)))))
def F111 : T111 := P111 F37
abbrev s111 : List (Bool × List CK) := [(true, [.str, .str, .bool, .int .i64, .str]), (false, [.int .i64])]
def G111 (F : T111) (β : Type) (e : (List UInt8 × List UInt8 × Bool × Int × List UInt8 × Unit) × (Int × Unit) × Unit) (k : V → Option β) : Option β := let a0_0 := e.1; let a0_1 := a0_0.2; let a0_2 := a0_1.2; let a0_3 := a0_2.2; let a0_4 := a0_3.2; F β a0_0.1 a0_1.1 a0_2.1 a0_3.1 a0_4.1 e.2.1.1 (fun y1 => k (.int .i64 y1))
abbrev W111 (F : T111) : WT := wrap s111 (G111 F)
theorem k111 (F37 : T37) (β : Type) (e : argsT s111) (k : V → Option β) : fnK cfg (tabL [(37, W37 F37)]) noX 111 Tryz.f111 β (argsEnc s111 e) k = G111 (P111 F37 ) β e k := by kernel_rfl
theorem ok111 : FnOk D 111 (W111 F111) := fn_okW [(37, W37 F37)] noX (fun _ => rfl) Tryz.func111 rfl (tabL_cons ok37 tabL_nil) (k111 F37 )
abbrev T43 : Type 1 := (β : Type) → List V → Int → (Int → Option β) → Option β
def P43 (F111 : T111) : T43 := fun β a left k =>
 br (decide (IntKind.wrap .i64 (left - (a.length : Int)) < 0)) (
 k (-1)) (
 whileK (fun s1 =>
 br (decide ((lI s1 2) < ((lL s1 0).length : Int))) (
 chk (0 ≤ (lI s1 2)) <|
 idx true [.str, .str, .bool, .int .i64, .str] (lL s1 0) ((lI s1 2).toNat) fun (e2 : List UInt8 × List UInt8 × Bool × Int × List UInt8 × Unit) =>
 F111 _ e2.1 e2.2.1 e2.2.2.1 e2.2.2.2.1 e2.2.2.2.2.1 (lI s1 1) fun n3 =>
 br (decide (n3 < 0)) (
 some (.inr (0, [.i n3, .i (-1)]))) (
 some (.inl [.l (lL s1 0), .i n3, .i (IntKind.wrap .i64 ((lI s1 2) + 1))]))) (
 some (.inr (1, [.i (lI s1 1)])))) [.l a, .i (IntKind.wrap .i64 (left - (a.length : Int))), .i 0] fun (r4 : Nat × List Leaf) =>
 if r4.1 = 0 then
 k (lI r4.2 1)
 else
 k (lI r4.2 0))
def F43 : T43 := P43 F111
def X43 : Exits := fun i => lookN i [] [(5, [(.ret, xk 27 [(1, .int .i64 0), (4, .int .i64 0)] []), (.exit 0, xk 27 [(1, .int .i64 0)] [])])]
abbrev s43 : List (Bool × List CK) := [(false, [.sl 5 true]), (false, [.int .i64])]
def G43 (F : T43) (β : Type) (e : (List V × Unit) × (Int × Unit) × Unit) (k : V → Option β) : Option β := F β e.1.1 e.2.1.1 (fun y1 => k (.int .i64 y1))
abbrev W43 (F : T43) : WT := wrap s43 (G43 F)
theorem k43 (F111 : T111) (β : Type) (e : argsT s43) (k : V → Option β) : fnK cfg (tabL [(111, W111 F111)]) X43 43 Tryz.f43 β (argsEnc s43 e) k = G43 (P43 F111 ) β e k := by kernel_rfl
theorem ok43 : FnOk D 43 (W43 F43) := fn_okW [(111, W111 F111)] X43 (fun _ => rfl) Tryz.func43 rfl (tabL_cons ok111 tabL_nil) (k43 F111 )
abbrev T44 : Type 1 := (β : Type) → List V → Int → (Int → Option β) → Option β
def P44 (F37 : T37) : T44 := fun β a left k =>
 br (decide (IntKind.wrap .i64 (left - (a.length : Int)) < 0)) (
 k (-1)) (
 whileK (fun s1 =>
 br (decide ((lI s1 2) < ((lL s1 0).length : Int))) (
 chk (0 ≤ (lI s1 2)) <|
 idx true [.str, .str] (lL s1 0) ((lI s1 2).toNat) fun (e2 : List UInt8 × List UInt8 × Unit) =>
 F37 _ e2.1 e2.2.1 (lI s1 1) fun n3 =>
 br (decide (n3 < 0)) (
 some (.inr (0, [.i n3, .i (-1)]))) (
 some (.inl [.l (lL s1 0), .i n3, .i (IntKind.wrap .i64 ((lI s1 2) + 1))]))) (
 some (.inr (1, [.i (lI s1 1)])))) [.l a, .i (IntKind.wrap .i64 (left - (a.length : Int))), .i 0] fun (r4 : Nat × List Leaf) =>
 if r4.1 = 0 then
 k (lI r4.2 1)
 else
 k (lI r4.2 0))
def F44 : T44 := P44 F37
def X44 : Exits := fun i => lookN i [] [(5, [(.ret, xk 27 [(1, .int .i64 0), (4, .int .i64 0)] []), (.exit 0, xk 27 [(1, .int .i64 0)] [])])]
abbrev s44 : List (Bool × List CK) := [(false, [.sl 2 true]), (false, [.int .i64])]
def G44 (F : T44) (β : Type) (e : (List V × Unit) × (Int × Unit) × Unit) (k : V → Option β) : Option β := F β e.1.1 e.2.1.1 (fun y1 => k (.int .i64 y1))
abbrev W44 (F : T44) : WT := wrap s44 (G44 F)
theorem k44 (F37 : T37) (β : Type) (e : argsT s44) (k : V → Option β) : fnK cfg (tabL [(37, W37 F37)]) X44 44 Tryz.f44 β (argsEnc s44 e) k = G44 (P44 F37 ) β e k := by kernel_rfl
theorem ok44 : FnOk D 44 (W44 F44) := fn_okW [(37, W37 F37)] X44 (fun _ => rfl) Tryz.func44 rfl (tabL_cons ok37 tabL_nil) (k44 F37 )
abbrev T8 : Type 1 := (β : Type) → List UInt8 → List UInt8 → Bool → List V → List V → List V → List UInt8 → List UInt8 → List V → Bool → List V → List V → List V → List V → List V → Int → Int → Int → Int → List V → List V → Bool → Int → (Int → Option β) → Option β
def P8 (F37 : T37) (F38 : T38) (F39 : T39) (F40 : T40) (F41 : T41) (F42 : T42) (F43 : T43) (F44 : T44) (F45 : T45) : T8 := fun β a_Addr_Host a_Addr_Path a_Policy_Set a_Policy_Scripts a_Policy_Styles a_Policy_Images a_Policy_Nonce a_Tok_Rest a_Queue a_Ended a_Builder_Nodes a_Builder_Open a_Slots a_Mods a_Entries a_Block a_Inline a_Deferred a_Entered a_Ran a_Log a_Loaded left k =>
 F37 _ a_Addr_Host a_Addr_Path left fun n1 =>
 br (decide (n1 < 0)) (
 k (-1)) (
 F38 _ a_Policy_Set a_Policy_Scripts a_Policy_Styles a_Policy_Images a_Policy_Nonce n1 fun n2 =>
 br (decide (n2 < 0)) (
 k (-1)) (
 F39 _ a_Tok_Rest n2 fun n3 =>
 br (decide (n3 < 0)) (
 k (-1)) (
 F40 _ a_Queue n3 fun n4 =>
 br (decide (n4 < 0)) (
 k (-1)) (
 F41 _ a_Builder_Nodes a_Builder_Open n4 fun n5 =>
 br (decide (n5 < 0)) (
 k (-1)) (
 F42 _ a_Slots n5 fun n6 =>
 br (decide (n6 < 0)) (
 k (-1)) (
 F43 _ a_Mods n6 fun n7 =>
 br (decide (n7 < 0)) (
 k (-1)) (
 F44 _ a_Entries n7 fun n8 =>
 br (decide (n8 < 0)) (
 k (-1)) (
 F44 _ a_Ran n8 fun n9 =>
 br (decide (n9 < 0)) (
 k (-1)) (
 F45 _ a_Log n9 fun n10 =>
 br (decide (n10 < 0)) (
 k (-1)) (
 k n10))))))))))
def F8 : T8 := P8 F37 F38 F39 F40 F41 F42 F43 F44 F45
abbrev s8 : List (Bool × List CK) := [(true, [.str, .str, .bool, .sl 1 true, .sl 1 true, .sl 1 true, .str, .str, .sl 4 false, .bool, .sl 4 false, .sl 1 true, .sl 8 true, .sl 5 true, .sl 2 true, .int .i64, .int .i64, .int .i64, .int .i64, .sl 2 true, .sl 1 true, .bool]), (false, [.int .i64])]
def G8 (F : T8) (β : Type) (e : (List UInt8 × List UInt8 × Bool × List V × List V × List V × List UInt8 × List UInt8 × List V × Bool × List V × List V × List V × List V × List V × Int × Int × Int × Int × List V × List V × Bool × Unit) × (Int × Unit) × Unit) (k : V → Option β) : Option β := let a0_0 := e.1; let a0_1 := a0_0.2; let a0_2 := a0_1.2; let a0_3 := a0_2.2; let a0_4 := a0_3.2; let a0_5 := a0_4.2; let a0_6 := a0_5.2; let a0_7 := a0_6.2; let a0_8 := a0_7.2; let a0_9 := a0_8.2; let a0_10 := a0_9.2; let a0_11 := a0_10.2; let a0_12 := a0_11.2; let a0_13 := a0_12.2; let a0_14 := a0_13.2; let a0_15 := a0_14.2; let a0_16 := a0_15.2; let a0_17 := a0_16.2; let a0_18 := a0_17.2; let a0_19 := a0_18.2; let a0_20 := a0_19.2; let a0_21 := a0_20.2; F β a0_0.1 a0_1.1 a0_2.1 a0_3.1 a0_4.1 a0_5.1 a0_6.1 a0_7.1 a0_8.1 a0_9.1 a0_10.1 a0_11.1 a0_12.1 a0_13.1 a0_14.1 a0_15.1 a0_16.1 a0_17.1 a0_18.1 a0_19.1 a0_20.1 a0_21.1 e.2.1.1 (fun y1 => k (.int .i64 y1))
abbrev W8 (F : T8) : WT := wrap s8 (G8 F)
theorem k8 (F37 : T37) (F38 : T38) (F39 : T39) (F40 : T40) (F41 : T41) (F42 : T42) (F43 : T43) (F44 : T44) (F45 : T45) (β : Type) (e : argsT s8) (k : V → Option β) : fnK cfg (tabL [(37, W37 F37), (38, W38 F38), (39, W39 F39), (40, W40 F40), (41, W41 F41), (42, W42 F42), (43, W43 F43), (44, W44 F44), (45, W45 F45)]) noX 8 Tryz.f8 β (argsEnc s8 e) k = G8 (P8 F37 F38 F39 F40 F41 F42 F43 F44 F45 ) β e k := by kernel_rfl
theorem ok8 : FnOk D 8 (W8 F8) := fn_okW [(37, W37 F37), (38, W38 F38), (39, W39 F39), (40, W40 F40), (41, W41 F41), (42, W42 F42), (43, W43 F43), (44, W44 F44), (45, W45 F45)] noX (fun _ => rfl) Tryz.func8 rfl (tabL_cons ok37 (tabL_cons ok38 (tabL_cons ok39 (tabL_cons ok40 (tabL_cons ok41 (tabL_cons ok42 (tabL_cons ok43 (tabL_cons ok44 (tabL_cons ok45 tabL_nil))))))))) (k8 F37 F38 F39 F40 F41 F42 F43 F44 F45 )
abbrev T106 : Type 1 := (β : Type) → List UInt8 → List UInt8 → List UInt8 → List UInt8 → Bool → List V → List V → List V → List UInt8 → List UInt8 → List V → Bool → List V → List V → List V → List V → List V → Int → Int → Int → Int → List V → List V → Bool → Bool → Int → (Int → Option β) → Option β
def P106 (F37 : T37) (F8 : T8) : T106 := fun β a_Addr_Host a_Addr_Path a_Page_Addr_Host a_Page_Addr_Path a_Page_Policy_Set a_Page_Policy_Scripts a_Page_Policy_Styles a_Page_Policy_Images a_Page_Policy_Nonce a_Page_Tok_Rest a_Page_Queue a_Page_Ended a_Page_Builder_Nodes a_Page_Builder_Open a_Page_Slots a_Page_Mods a_Page_Entries a_Page_Block a_Page_Inline a_Page_Deferred a_Page_Entered a_Page_Ran a_Page_Log a_Page_Loaded a_Kept left k =>
 F37 _ a_Addr_Host a_Addr_Path left fun n1 =>
 br (decide (n1 < 0)) (
 k (-1)) (
 F8 _ a_Page_Addr_Host a_Page_Addr_Path a_Page_Policy_Set a_Page_Policy_Scripts a_Page_Policy_Styles a_Page_Policy_Images a_Page_Policy_Nonce a_Page_Tok_Rest a_Page_Queue a_Page_Ended a_Page_Builder_Nodes a_Page_Builder_Open a_Page_Slots a_Page_Mods a_Page_Entries a_Page_Block a_Page_Inline a_Page_Deferred a_Page_Entered a_Page_Ran a_Page_Log a_Page_Loaded n1 fun n2 =>
 br (decide (n2 < 0)) (
 k (-1)) (
 k n2))
def F106 : T106 := P106 F37 F8
abbrev s106 : List (Bool × List CK) := [(true, [.str, .str, .str, .str, .bool, .sl 1 true, .sl 1 true, .sl 1 true, .str, .str, .sl 4 false, .bool, .sl 4 false, .sl 1 true, .sl 8 true, .sl 5 true, .sl 2 true, .int .i64, .int .i64, .int .i64, .int .i64, .sl 2 true, .sl 1 true, .bool, .bool]), (false, [.int .i64])]
def G106 (F : T106) (β : Type) (e : (List UInt8 × List UInt8 × List UInt8 × List UInt8 × Bool × List V × List V × List V × List UInt8 × List UInt8 × List V × Bool × List V × List V × List V × List V × List V × Int × Int × Int × Int × List V × List V × Bool × Bool × Unit) × (Int × Unit) × Unit) (k : V → Option β) : Option β := let a0_0 := e.1; let a0_1 := a0_0.2; let a0_2 := a0_1.2; let a0_3 := a0_2.2; let a0_4 := a0_3.2; let a0_5 := a0_4.2; let a0_6 := a0_5.2; let a0_7 := a0_6.2; let a0_8 := a0_7.2; let a0_9 := a0_8.2; let a0_10 := a0_9.2; let a0_11 := a0_10.2; let a0_12 := a0_11.2; let a0_13 := a0_12.2; let a0_14 := a0_13.2; let a0_15 := a0_14.2; let a0_16 := a0_15.2; let a0_17 := a0_16.2; let a0_18 := a0_17.2; let a0_19 := a0_18.2; let a0_20 := a0_19.2; let a0_21 := a0_20.2; let a0_22 := a0_21.2; let a0_23 := a0_22.2; let a0_24 := a0_23.2; F β a0_0.1 a0_1.1 a0_2.1 a0_3.1 a0_4.1 a0_5.1 a0_6.1 a0_7.1 a0_8.1 a0_9.1 a0_10.1 a0_11.1 a0_12.1 a0_13.1 a0_14.1 a0_15.1 a0_16.1 a0_17.1 a0_18.1 a0_19.1 a0_20.1 a0_21.1 a0_22.1 a0_23.1 a0_24.1 e.2.1.1 (fun y1 => k (.int .i64 y1))
abbrev W106 (F : T106) : WT := wrap s106 (G106 F)
theorem k106 (F37 : T37) (F8 : T8) (β : Type) (e : argsT s106) (k : V → Option β) : fnK cfg (tabL [(37, W37 F37), (8, W8 F8)]) noX 106 Tryz.f106 β (argsEnc s106 e) k = G106 (P106 F37 F8 ) β e k := by kernel_rfl
theorem ok106 : FnOk D 106 (W106 F106) := fn_okW [(37, W37 F37), (8, W8 F8)] noX (fun _ => rfl) Tryz.func106 rfl (tabL_cons ok37 (tabL_cons ok8 tabL_nil)) (k106 F37 F8 )
abbrev T36 : Type 1 := (β : Type) → List V → Int → (Int → Option β) → Option β
def P36 (F106 : T106) : T36 := fun β a left k =>
 br (decide (IntKind.wrap .i64 (left - (a.length : Int)) < 0)) (
 k (-1)) (
 whileK (fun s1 =>
 br (decide ((lI s1 2) < ((lL s1 0).length : Int))) (
 chk (0 ≤ (lI s1 2)) <|
 idx true [.str, .str, .str, .str, .bool, .sl 1 true, .sl 1 true, .sl 1 true, .str, .str, .sl 4 false, .bool, .sl 4 false, .sl 1 true, .sl 8 true, .sl 5 true, .sl 2 true, .int .i64, .int .i64, .int .i64, .int .i64, .sl 2 true, .sl 1 true, .bool, .bool] (lL s1 0) ((lI s1 2).toNat) fun (e2 : List UInt8 × List UInt8 × List UInt8 × List UInt8 × Bool × List V × List V × List V × List UInt8 × List UInt8 × List V × Bool × List V × List V × List V × List V × List V × Int × Int × Int × Int × List V × List V × Bool × Bool × Unit) =>
 F106 _ e2.1 e2.2.1 e2.2.2.1 e2.2.2.2.1 e2.2.2.2.2.1 e2.2.2.2.2.2.1 e2.2.2.2.2.2.2.1 e2.2.2.2.2.2.2.2.1 e2.2.2.2.2.2.2.2.2.1 e2.2.2.2.2.2.2.2.2.2.1 e2.2.2.2.2.2.2.2.2.2.2.1 e2.2.2.2.2.2.2.2.2.2.2.2.1 e2.2.2.2.2.2.2.2.2.2.2.2.2.1 e2.2.2.2.2.2.2.2.2.2.2.2.2.2.1 e2.2.2.2.2.2.2.2.2.2.2.2.2.2.2.1 e2.2.2.2.2.2.2.2.2.2.2.2.2.2.2.2.1 e2.2.2.2.2.2.2.2.2.2.2.2.2.2.2.2.2.1 e2.2.2.2.2.2.2.2.2.2.2.2.2.2.2.2.2.2.1 e2.2.2.2.2.2.2.2.2.2.2.2.2.2.2.2.2.2.2.1 e2.2.2.2.2.2.2.2.2.2.2.2.2.2.2.2.2.2.2.2.1 e2.2.2.2.2.2.2.2.2.2.2.2.2.2.2.2.2.2.2.2.2.1 e2.2.2.2.2.2.2.2.2.2.2.2.2.2.2.2.2.2.2.2.2.2.1 e2.2.2.2.2.2.2.2.2.2.2.2.2.2.2.2.2.2.2.2.2.2.2.1 e2.2.2.2.2.2.2.2.2.2.2.2.2.2.2.2.2.2.2.2.2.2.2.2.1 e2.2.2.2.2.2.2.2.2.2.2.2.2.2.2.2.2.2.2.2.2.2.2.2.2.1 (lI s1 1) fun n3 =>
 br (decide (n3 < 0)) (
 some (.inr (0, [.i n3, .i (-1)]))) (
 some (.inl [.l (lL s1 0), .i n3, .i (IntKind.wrap .i64 ((lI s1 2) + 1))]))) (
 some (.inr (1, [.i (lI s1 1)])))) [.l a, .i (IntKind.wrap .i64 (left - (a.length : Int))), .i 0] fun (r4 : Nat × List Leaf) =>
 if r4.1 = 0 then
 k (lI r4.2 1)
 else
 k (lI r4.2 0))
def F36 : T36 := P36 F106
def X36 : Exits := fun i => lookN i [] [(5, [(.ret, xk 27 [(1, .int .i64 0), (4, .int .i64 0)] []), (.exit 0, xk 27 [(1, .int .i64 0)] [])])]
abbrev s36 : List (Bool × List CK) := [(false, [.sl 25 false]), (false, [.int .i64])]
def G36 (F : T36) (β : Type) (e : (List V × Unit) × (Int × Unit) × Unit) (k : V → Option β) : Option β := F β e.1.1 e.2.1.1 (fun y1 => k (.int .i64 y1))
abbrev W36 (F : T36) : WT := wrap s36 (G36 F)
theorem k36 (F106 : T106) (β : Type) (e : argsT s36) (k : V → Option β) : fnK cfg (tabL [(106, W106 F106)]) X36 36 Tryz.f36 β (argsEnc s36 e) k = G36 (P36 F106 ) β e k := by kernel_rfl
theorem ok36 : FnOk D 36 (W36 F36) := fn_okW [(106, W106 F106)] X36 (fun _ => rfl) Tryz.func36 rfl (tabL_cons ok106 tabL_nil) (k36 F106 )
abbrev T7 : Type 1 := (β : Type) → List V → Int → Int → (Int → Option β) → Option β
def P7 (F36 : T36) : T7 := fun β a_Visits a_At left k =>
 F36 _ a_Visits left fun n1 =>
 br (decide (n1 < 0)) (
 k (-1)) (
 k n1)
def F7 : T7 := P7 F36
abbrev s7 : List (Bool × List CK) := [(true, [.sl 25 false, .int .i64]), (false, [.int .i64])]
def G7 (F : T7) (β : Type) (e : (List V × Int × Unit) × (Int × Unit) × Unit) (k : V → Option β) : Option β := F β e.1.1 e.1.2.1 e.2.1.1 (fun y1 => k (.int .i64 y1))
abbrev W7 (F : T7) : WT := wrap s7 (G7 F)
theorem k7 (F36 : T36) (β : Type) (e : argsT s7) (k : V → Option β) : fnK cfg (tabL [(36, W36 F36)]) noX 7 Tryz.f7 β (argsEnc s7 e) k = G7 (P7 F36 ) β e k := by kernel_rfl
theorem ok7 : FnOk D 7 (W7 F7) := fn_okW [(36, W36 F36)] noX (fun _ => rfl) Tryz.func7 rfl (tabL_cons ok36 tabL_nil) (k7 F36 )
abbrev T50 : Type 1 := (β : Type) → List UInt8 → List UInt8 → (List UInt8 → List UInt8 → Option β) → Option β
def P50 : T50 := fun β a_Host a_Path k =>
 k a_Host a_Path
def F50 : T50 := P50
abbrev s50 : List (Bool × List CK) := [(true, [.str, .str])]
def G50 (F : T50) (β : Type) (e : (List UInt8 × List UInt8 × Unit) × Unit) (k : V → Option β) : Option β := F β e.1.1 e.1.2.1 (fun y1 y2 => k (.agg [.str y1, .str y2]))
abbrev W50 (F : T50) : WT := wrap s50 (G50 F)
theorem k50 (β : Type) (e : argsT s50) (k : V → Option β) : fnK cfg (tabL []) noX 50 Tryz.f50 β (argsEnc s50 e) k = G50 (P50 ) β e k := by kernel_rfl
theorem ok50 : FnOk D 50 (W50 F50) := fn_okW [] noX (fun _ => rfl) Tryz.func50 rfl (tabL_nil) (k50 )
abbrev T58 : Type 1 := (β : Type) → List V → (List V → Option β) → Option β
def P58 : T58 := fun β a k =>
 chk (0 ≤ (a.length : Int) ∧ (a.length : Int) ≤ (a.length : Int) ∧ (a.length : Int) * 16 ≤ 140737488355328 ∧ (a.length : Int) ≤ 140737488355328) <|
 whileK (fun s1 =>
 br (decide ((lI s1 2) < ((lL s1 0).length : Int))) (
 chk (0 ≤ (lI s1 2)) <|
 idx false [.str] (lL s1 0) ((lI s1 2).toNat) fun (e2 : List UInt8 × Unit) =>
 chk (0 ≤ (lI s1 2) ∧ (lI s1 2).toNat < (lL s1 1).length) <|
 storeO (lL s1 1) ((lI s1 2).toNat) 0 [.str e2.1] fun l3 =>
 some (.inl [.l (lL s1 0), .l l3, .i (IntKind.wrap .i64 ((lI s1 2) + 1))])) (
 some (.inr (0, [.l (lL s1 1)])))) [.l a, .l (List.replicate ((a.length : Int).toNat) (.str [])), .i 0] fun (r4 : Nat × List Leaf) =>
 k (lL r4.2 0)
def F58 : T58 := P58
def X58 : Exits := fun i => lookN i [] [(3, [(.exit 0, xk 22 [(3, .own 1000000 1 .flat [])] [])])]
abbrev s58 : List (Bool × List CK) := [(false, [.sl 1 true])]
def G58 (F : T58) (β : Type) (e : (List V × Unit) × Unit) (k : V → Option β) : Option β := F β e.1.1 (fun y1 => k (.own 0 1 .flat y1))
abbrev W58 (F : T58) : WT := wrap s58 (G58 F)
theorem k58 (β : Type) (e : argsT s58) (k : V → Option β) : fnK cfg (tabL []) X58 58 Tryz.f58 β (argsEnc s58 e) k = G58 (P58 ) β e k := by kernel_rfl
theorem ok58 : FnOk D 58 (W58 F58) := fn_okW [] X58 (fun _ => rfl) Tryz.func58 rfl (tabL_nil) (k58 )
abbrev T51 : Type 1 := (β : Type) → Bool → List V → List V → List V → List UInt8 → (Bool → List V → List V → List V → List UInt8 → Option β) → Option β
def P51 (F58 : T58) : T51 := fun β a_Set a_Scripts a_Styles a_Images a_Nonce k =>
 F58 _ a_Scripts fun l1 =>
 F58 _ a_Styles fun l2 =>
 F58 _ a_Images fun l3 =>
 k a_Set l1 l2 l3 a_Nonce
def F51 : T51 := P51 F58
abbrev s51 : List (Bool × List CK) := [(true, [.bool, .sl 1 true, .sl 1 true, .sl 1 true, .str])]
def G51 (F : T51) (β : Type) (e : (Bool × List V × List V × List V × List UInt8 × Unit) × Unit) (k : V → Option β) : Option β := let a0_0 := e.1; let a0_1 := a0_0.2; let a0_2 := a0_1.2; let a0_3 := a0_2.2; let a0_4 := a0_3.2; F β a0_0.1 a0_1.1 a0_2.1 a0_3.1 a0_4.1 (fun y1 y2 y3 y4 y5 => k (.agg [.bool y1, .own 1 1 .flat y2, .own 2 1 .flat y3, .own 3 1 .flat y4, .str y5]))
abbrev W51 (F : T51) : WT := wrap s51 (G51 F)
theorem k51 (F58 : T58) (β : Type) (e : argsT s51) (k : V → Option β) : fnK cfg (tabL [(58, W58 F58)]) noX 51 Tryz.f51 β (argsEnc s51 e) k = G51 (P51 F58 ) β e k := by kernel_rfl
theorem ok51 : FnOk D 51 (W51 F51) := fn_okW [(58, W58 F58)] noX (fun _ => rfl) Tryz.func51 rfl (tabL_cons ok58 tabL_nil) (k51 F58 )
abbrev T52 : Type 1 := (β : Type) → List UInt8 → (List UInt8 → Option β) → Option β
def P52 : T52 := fun β a_Rest k =>
 k a_Rest
def F52 : T52 := P52
abbrev s52 : List (Bool × List CK) := [(true, [.str])]
def G52 (F : T52) (β : Type) (e : (List UInt8 × Unit) × Unit) (k : V → Option β) : Option β := F β e.1.1 (fun y1 => k (.agg [.str y1]))
abbrev W52 (F : T52) : WT := wrap s52 (G52 F)
theorem k52 (β : Type) (e : argsT s52) (k : V → Option β) : fnK cfg (tabL []) noX 52 Tryz.f52 β (argsEnc s52 e) k = G52 (P52 ) β e k := by kernel_rfl
theorem ok52 : FnOk D 52 (W52 F52) := fn_okW [] noX (fun _ => rfl) Tryz.func52 rfl (tabL_nil) (k52 )
abbrev T214 : Type 1 := (β : Type) → List UInt8 → List UInt8 → (List UInt8 → List UInt8 → Option β) → Option β
def P214 : T214 := fun β a_Name a_Value k =>
 k a_Name a_Value
def F214 : T214 := P214
abbrev s214 : List (Bool × List CK) := [(true, [.str, .str])]
def G214 (F : T214) (β : Type) (e : (List UInt8 × List UInt8 × Unit) × Unit) (k : V → Option β) : Option β := F β e.1.1 e.1.2.1 (fun y1 y2 => k (.agg [.str y1, .str y2]))
abbrev W214 (F : T214) : WT := wrap s214 (G214 F)
theorem k214 (β : Type) (e : argsT s214) (k : V → Option β) : fnK cfg (tabL []) noX 214 Tryz.f214 β (argsEnc s214 e) k = G214 (P214 ) β e k := by kernel_rfl
theorem ok214 : FnOk D 214 (W214 F214) := fn_okW [] noX (fun _ => rfl) Tryz.func214 rfl (tabL_nil) (k214 )
abbrev T181 : Type 1 := (β : Type) → List V → (List V → Option β) → Option β
def P181 (F214 : T214) : T181 := fun β a k =>
 chk (0 ≤ (a.length : Int) ∧ (a.length : Int) ≤ (a.length : Int) ∧ (a.length : Int) * 32 ≤ 140737488355328 ∧ (a.length : Int) ≤ 140737488355328) <|
 whileK (fun s1 =>
 br (decide ((lI s1 2) < ((lL s1 0).length : Int))) (
 chk (0 ≤ (lI s1 2)) <|
 idx true [.str, .str] (lL s1 0) ((lI s1 2).toNat) fun (e2 : List UInt8 × List UInt8 × Unit) =>
 F214 _ e2.1 e2.2.1 fun t3 t4 =>
 chk (0 ≤ (lI s1 2) ∧ (lI s1 2).toNat < (lL s1 1).length) <|
 storeO (lL s1 1) ((lI s1 2).toNat) 0 [.str t3, .str t4] fun l5 =>
 some (.inl [.l (lL s1 0), .l l5, .i (IntKind.wrap .i64 ((lI s1 2) + 1))])) (
 some (.inr (0, [.l (lL s1 1)])))) [.l a, .l (List.replicate ((a.length : Int).toNat) (.agg [.str [], .str []])), .i 0] fun (r6 : Nat × List Leaf) =>
 k (lL r6.2 0)
def F181 : T181 := P181 F214
def X181 : Exits := fun i => lookN i [] [(3, [(.exit 0, xk 23 [(3, .own 1000000 2 .flat [])] [])])]
abbrev s181 : List (Bool × List CK) := [(false, [.sl 2 true])]
def G181 (F : T181) (β : Type) (e : (List V × Unit) × Unit) (k : V → Option β) : Option β := F β e.1.1 (fun y1 => k (.own 0 2 .flat y1))
abbrev W181 (F : T181) : WT := wrap s181 (G181 F)
theorem k181 (F214 : T214) (β : Type) (e : argsT s181) (k : V → Option β) : fnK cfg (tabL [(214, W214 F214)]) X181 181 Tryz.f181 β (argsEnc s181 e) k = G181 (P181 F214 ) β e k := by kernel_rfl
theorem ok181 : FnOk D 181 (W181 F181) := fn_okW [(214, W214 F214)] X181 (fun _ => rfl) Tryz.func181 rfl (tabL_cons ok214 tabL_nil) (k181 F214 )
abbrev T116 : Type 1 := (β : Type) → Int → List UInt8 → List V → List UInt8 → (Int → List UInt8 → List V → List UInt8 → Option β) → Option β
def P116 (F181 : T181) : T116 := fun β a_Kind a_Name a_Attrs a_Text k =>
 F181 _ a_Attrs fun l1 =>
 k a_Kind a_Name l1 a_Text
def F116 : T116 := P116 F181
abbrev s116 : List (Bool × List CK) := [(true, [.int .i64, .str, .sl 2 true, .str])]
def G116 (F : T116) (β : Type) (e : (Int × List UInt8 × List V × List UInt8 × Unit) × Unit) (k : V → Option β) : Option β := F β e.1.1 e.1.2.1 e.1.2.2.1 e.1.2.2.2.1 (fun y1 y2 y3 y4 => k (.agg [.int .i64 y1, .str y2, .own 2 2 .flat y3, .str y4]))
abbrev W116 (F : T116) : WT := wrap s116 (G116 F)
theorem k116 (F181 : T181) (β : Type) (e : argsT s116) (k : V → Option β) : fnK cfg (tabL [(181, W181 F181)]) noX 116 Tryz.f116 β (argsEnc s116 e) k = G116 (P116 F181 ) β e k := by kernel_rfl
theorem ok116 : FnOk D 116 (W116 F116) := fn_okW [(181, W181 F181)] noX (fun _ => rfl) Tryz.func116 rfl (tabL_cons ok181 tabL_nil) (k116 F181 )
abbrev T53 : Type 1 := (β : Type) → List V → (List V → Option β) → Option β
def P53 (F116 : T116) : T53 := fun β a k =>
 chk (0 ≤ (a.length : Int) ∧ (a.length : Int) ≤ (a.length : Int) ∧ (a.length : Int) * 64 ≤ 140737488355328 ∧ (a.length : Int) ≤ 140737488355328) <|
 whileK (fun s1 =>
 br (decide ((lI s1 2) < ((lL s1 0).length : Int))) (
 chk (0 ≤ (lI s1 2)) <|
 idx true [.int .i64, .str, .sl 2 true, .str] (lL s1 0) ((lI s1 2).toNat) fun (e2 : Int × List UInt8 × List V × List UInt8 × Unit) =>
 F116 _ e2.1 e2.2.1 e2.2.2.1 e2.2.2.2.1 fun n3 t4 l5 t6 =>
 chk (0 ≤ (lI s1 2) ∧ (lI s1 2).toNat < (lL s1 1).length) <|
 storeO (lL s1 1) ((lI s1 2).toNat) 0 [.int .i64 n3, .str t4, .sl 2 true l5, .str t6] fun l7 =>
 some (.inl [.l (lL s1 0), .l l7, .i (IntKind.wrap .i64 ((lI s1 2) + 1))])) (
 some (.inr (0, [.l (lL s1 1)])))) [.l a, .l (List.replicate ((a.length : Int).toNat) (.agg [.int .i64 0, .str [], .sl 2 true [], .str []])), .i 0] fun (r8 : Nat × List Leaf) =>
 k (lL r8.2 0)
def F53 : T53 := P53 F116
def X53 : Exits := fun i => lookN i [] [(3, [(.exit 0, xk 23 [(3, .own 1000000 4 .clean [])] [])])]
abbrev s53 : List (Bool × List CK) := [(false, [.sl 4 false])]
def G53 (F : T53) (β : Type) (e : (List V × Unit) × Unit) (k : V → Option β) : Option β := F β e.1.1 (fun y1 => k (.own 0 4 .clean y1))
abbrev W53 (F : T53) : WT := wrap s53 (G53 F)
theorem k53 (F116 : T116) (β : Type) (e : argsT s53) (k : V → Option β) : fnK cfg (tabL [(116, W116 F116)]) X53 53 Tryz.f53 β (argsEnc s53 e) k = G53 (P53 F116 ) β e k := by kernel_rfl
theorem ok53 : FnOk D 53 (W53 F53) := fn_okW [(116, W116 F116)] X53 (fun _ => rfl) Tryz.func53 rfl (tabL_cons ok116 tabL_nil) (k53 F116 )
abbrev T182 : Type 1 := (β : Type) → List UInt8 → List UInt8 → Int → List V → (List UInt8 → List UInt8 → Int → List V → Option β) → Option β
def P182 (F181 : T181) : T182 := fun β a_Name a_Text a_Parent a_Attrs k =>
 F181 _ a_Attrs fun l1 =>
 k a_Name a_Text a_Parent l1
def F182 : T182 := P182 F181
abbrev s182 : List (Bool × List CK) := [(true, [.str, .str, .int .i64, .sl 2 true])]
def G182 (F : T182) (β : Type) (e : (List UInt8 × List UInt8 × Int × List V × Unit) × Unit) (k : V → Option β) : Option β := F β e.1.1 e.1.2.1 e.1.2.2.1 e.1.2.2.2.1 (fun y1 y2 y3 y4 => k (.agg [.str y1, .str y2, .int .i64 y3, .own 3 2 .flat y4]))
abbrev W182 (F : T182) : WT := wrap s182 (G182 F)
theorem k182 (F181 : T181) (β : Type) (e : argsT s182) (k : V → Option β) : fnK cfg (tabL [(181, W181 F181)]) noX 182 Tryz.f182 β (argsEnc s182 e) k = G182 (P182 F181 ) β e k := by kernel_rfl
theorem ok182 : FnOk D 182 (W182 F182) := fn_okW [(181, W181 F181)] noX (fun _ => rfl) Tryz.func182 rfl (tabL_cons ok181 tabL_nil) (k182 F181 )
abbrev T117 : Type 1 := (β : Type) → List V → (List V → Option β) → Option β
def P117 (F182 : T182) : T117 := fun β a k =>
 chk (0 ≤ (a.length : Int) ∧ (a.length : Int) ≤ (a.length : Int) ∧ (a.length : Int) * 64 ≤ 140737488355328 ∧ (a.length : Int) ≤ 140737488355328) <|
 whileK (fun s1 =>
 br (decide ((lI s1 2) < ((lL s1 0).length : Int))) (
 chk (0 ≤ (lI s1 2)) <|
 idx true [.str, .str, .int .i64, .sl 2 true] (lL s1 0) ((lI s1 2).toNat) fun (e2 : List UInt8 × List UInt8 × Int × List V × Unit) =>
 F182 _ e2.1 e2.2.1 e2.2.2.1 e2.2.2.2.1 fun t3 t4 n5 l6 =>
 chk (0 ≤ (lI s1 2) ∧ (lI s1 2).toNat < (lL s1 1).length) <|
 storeO (lL s1 1) ((lI s1 2).toNat) 0 [.str t3, .str t4, .int .i64 n5, .sl 2 true l6] fun l7 =>
 some (.inl [.l (lL s1 0), .l l7, .i (IntKind.wrap .i64 ((lI s1 2) + 1))])) (
 some (.inr (0, [.l (lL s1 1)])))) [.l a, .l (List.replicate ((a.length : Int).toNat) (.agg [.str [], .str [], .int .i64 0, .sl 2 true []])), .i 0] fun (r8 : Nat × List Leaf) =>
 k (lL r8.2 0)
def F117 : T117 := P117 F182
def X117 : Exits := fun i => lookN i [] [(3, [(.exit 0, xk 23 [(3, .own 1000000 4 .clean [])] [])])]
abbrev s117 : List (Bool × List CK) := [(false, [.sl 4 false])]
def G117 (F : T117) (β : Type) (e : (List V × Unit) × Unit) (k : V → Option β) : Option β := F β e.1.1 (fun y1 => k (.own 0 4 .clean y1))
abbrev W117 (F : T117) : WT := wrap s117 (G117 F)
theorem k117 (F182 : T182) (β : Type) (e : argsT s117) (k : V → Option β) : fnK cfg (tabL [(182, W182 F182)]) X117 117 Tryz.f117 β (argsEnc s117 e) k = G117 (P117 F182 ) β e k := by kernel_rfl
theorem ok117 : FnOk D 117 (W117 F117) := fn_okW [(182, W182 F182)] X117 (fun _ => rfl) Tryz.func117 rfl (tabL_cons ok182 tabL_nil) (k117 F182 )
abbrev T118 : Type 1 := (β : Type) → List V → (List V → Option β) → Option β
def P118 : T118 := fun β a k =>
 chk (0 ≤ (a.length : Int) ∧ (a.length : Int) ≤ (a.length : Int) ∧ (a.length : Int) * 8 ≤ 140737488355328 ∧ (a.length : Int) ≤ 140737488355328) <|
 whileK (fun s1 =>
 br (decide ((lI s1 2) < ((lL s1 0).length : Int))) (
 chk (0 ≤ (lI s1 2)) <|
 idx false [.int .i64] (lL s1 0) ((lI s1 2).toNat) fun (e2 : Int × Unit) =>
 chk (0 ≤ (lI s1 2) ∧ (lI s1 2).toNat < (lL s1 1).length) <|
 storeO (lL s1 1) ((lI s1 2).toNat) 0 [.int .i64 e2.1] fun l3 =>
 some (.inl [.l (lL s1 0), .l l3, .i (IntKind.wrap .i64 ((lI s1 2) + 1))])) (
 some (.inr (0, [.l (lL s1 1)])))) [.l a, .l (List.replicate ((a.length : Int).toNat) (.int .i64 0)), .i 0] fun (r4 : Nat × List Leaf) =>
 k (lL r4.2 0)
def F118 : T118 := P118
def X118 : Exits := fun i => lookN i [] [(3, [(.exit 0, xk 22 [(3, .own 1000000 1 .flat [])] [])])]
abbrev s118 : List (Bool × List CK) := [(false, [.sl 1 true])]
def G118 (F : T118) (β : Type) (e : (List V × Unit) × Unit) (k : V → Option β) : Option β := F β e.1.1 (fun y1 => k (.own 0 1 .flat y1))
abbrev W118 (F : T118) : WT := wrap s118 (G118 F)
theorem k118 (β : Type) (e : argsT s118) (k : V → Option β) : fnK cfg (tabL []) X118 118 Tryz.f118 β (argsEnc s118 e) k = G118 (P118 ) β e k := by kernel_rfl
theorem ok118 : FnOk D 118 (W118 F118) := fn_okW [] X118 (fun _ => rfl) Tryz.func118 rfl (tabL_nil) (k118 )
abbrev T54 : Type 1 := (β : Type) → List V → List V → (List V → List V → Option β) → Option β
def P54 (F117 : T117) (F118 : T118) : T54 := fun β a_Nodes a_Open k =>
 F117 _ a_Nodes fun l1 =>
 F118 _ a_Open fun l2 =>
 k l1 l2
def F54 : T54 := P54 F117 F118
abbrev s54 : List (Bool × List CK) := [(true, [.sl 4 false, .sl 1 true])]
def G54 (F : T54) (β : Type) (e : (List V × List V × Unit) × Unit) (k : V → Option β) : Option β := F β e.1.1 e.1.2.1 (fun y1 y2 => k (.agg [.own 0 4 .clean y1, .own 1 1 .flat y2]))
abbrev W54 (F : T54) : WT := wrap s54 (G54 F)
theorem k54 (F117 : T117) (F118 : T118) (β : Type) (e : argsT s54) (k : V → Option β) : fnK cfg (tabL [(117, W117 F117), (118, W118 F118)]) noX 54 Tryz.f54 β (argsEnc s54 e) k = G54 (P54 F117 F118 ) β e k := by kernel_rfl
theorem ok54 : FnOk D 54 (W54 F54) := fn_okW [(117, W117 F117), (118, W118 F118)] noX (fun _ => rfl) Tryz.func54 rfl (tabL_cons ok117 (tabL_cons ok118 tabL_nil)) (k54 F117 F118 )
abbrev T119 : Type 1 := (β : Type) → Int → List UInt8 → List UInt8 → List UInt8 → Int → Bool → Int → List UInt8 → (Int → List UInt8 → List UInt8 → List UInt8 → Int → Bool → Int → List UInt8 → Option β) → Option β
def P119 (F50 : T50) : T119 := fun β a_Mode a_To_Host a_To_Path a_Digest a_Node a_Done a_Code a_Body k =>
 F50 _ a_To_Host a_To_Path fun t1 t2 =>
 k a_Mode t1 t2 a_Digest a_Node a_Done a_Code a_Body
def F119 : T119 := P119 F50
abbrev s119 : List (Bool × List CK) := [(true, [.int .i64, .str, .str, .str, .int .i64, .bool, .int .i64, .str])]
def G119 (F : T119) (β : Type) (e : (Int × List UInt8 × List UInt8 × List UInt8 × Int × Bool × Int × List UInt8 × Unit) × Unit) (k : V → Option β) : Option β := let a0_0 := e.1; let a0_1 := a0_0.2; let a0_2 := a0_1.2; let a0_3 := a0_2.2; let a0_4 := a0_3.2; let a0_5 := a0_4.2; let a0_6 := a0_5.2; let a0_7 := a0_6.2; F β a0_0.1 a0_1.1 a0_2.1 a0_3.1 a0_4.1 a0_5.1 a0_6.1 a0_7.1 (fun y1 y2 y3 y4 y5 y6 y7 y8 => k (.agg [.int .i64 y1, .str y2, .str y3, .str y4, .int .i64 y5, .bool y6, .int .i64 y7, .str y8]))
abbrev W119 (F : T119) : WT := wrap s119 (G119 F)
theorem k119 (F50 : T50) (β : Type) (e : argsT s119) (k : V → Option β) : fnK cfg (tabL [(50, W50 F50)]) noX 119 Tryz.f119 β (argsEnc s119 e) k = G119 (P119 F50 ) β e k := by kernel_rfl
theorem ok119 : FnOk D 119 (W119 F119) := fn_okW [(50, W50 F50)] noX (fun _ => rfl) Tryz.func119 rfl (tabL_cons ok50 tabL_nil) (k119 F50 )
abbrev T55 : Type 1 := (β : Type) → List V → (List V → Option β) → Option β
def P55 (F119 : T119) : T55 := fun β a k =>
 chk (0 ≤ (a.length : Int) ∧ (a.length : Int) ≤ (a.length : Int) ∧ (a.length : Int) * 96 ≤ 140737488355328 ∧ (a.length : Int) ≤ 140737488355328) <|
 whileK (fun s1 =>
 br (decide ((lI s1 2) < ((lL s1 0).length : Int))) (
 chk (0 ≤ (lI s1 2)) <|
 idx true [.int .i64, .str, .str, .str, .int .i64, .bool, .int .i64, .str] (lL s1 0) ((lI s1 2).toNat) fun (e2 : Int × List UInt8 × List UInt8 × List UInt8 × Int × Bool × Int × List UInt8 × Unit) =>
 F119 _ e2.1 e2.2.1 e2.2.2.1 e2.2.2.2.1 e2.2.2.2.2.1 e2.2.2.2.2.2.1 e2.2.2.2.2.2.2.1 e2.2.2.2.2.2.2.2.1 fun n3 t4 t5 t6 n7 b8 n9 t10 =>
 chk (0 ≤ (lI s1 2) ∧ (lI s1 2).toNat < (lL s1 1).length) <|
 storeO (lL s1 1) ((lI s1 2).toNat) 0 [.int .i64 n3, .str t4, .str t5, .str t6, .int .i64 n7, .bool b8, .int .i64 n9, .str t10] fun l11 =>
 some (.inl [.l (lL s1 0), .l l11, .i (IntKind.wrap .i64 ((lI s1 2) + 1))])) (
 some (.inr (0, [.l (lL s1 1)])))) [.l a, .l (List.replicate ((a.length : Int).toNat) (.agg [.int .i64 0, .str [], .str [], .str [], .int .i64 0, .bool false, .int .i64 0, .str []])), .i 0] fun (r12 : Nat × List Leaf) =>
 k (lL r12.2 0)
def F55 : T55 := P55 F119
def X55 : Exits := fun i => lookN i [] [(3, [(.exit 0, xk 23 [(3, .own 1000000 8 .flat [])] [])])]
abbrev s55 : List (Bool × List CK) := [(false, [.sl 8 true])]
def G55 (F : T55) (β : Type) (e : (List V × Unit) × Unit) (k : V → Option β) : Option β := F β e.1.1 (fun y1 => k (.own 0 8 .flat y1))
abbrev W55 (F : T55) : WT := wrap s55 (G55 F)
theorem k55 (F119 : T119) (β : Type) (e : argsT s55) (k : V → Option β) : fnK cfg (tabL [(119, W119 F119)]) X55 55 Tryz.f55 β (argsEnc s55 e) k = G55 (P55 F119 ) β e k := by kernel_rfl
theorem ok55 : FnOk D 55 (W55 F55) := fn_okW [(119, W119 F119)] X55 (fun _ => rfl) Tryz.func55 rfl (tabL_cons ok119 tabL_nil) (k55 F119 )
abbrev T120 : Type 1 := (β : Type) → List UInt8 → List UInt8 → Bool → Int → List UInt8 → (List UInt8 → List UInt8 → Bool → Int → List UInt8 → Option β) → Option β
def P120 (F50 : T50) : T120 := fun β a_To_Host a_To_Path a_Done a_Code a_Body k =>
 F50 _ a_To_Host a_To_Path fun t1 t2 =>
 k t1 t2 a_Done a_Code a_Body
def F120 : T120 := P120 F50
abbrev s120 : List (Bool × List CK) := [(true, [.str, .str, .bool, .int .i64, .str])]
def G120 (F : T120) (β : Type) (e : (List UInt8 × List UInt8 × Bool × Int × List UInt8 × Unit) × Unit) (k : V → Option β) : Option β := let a0_0 := e.1; let a0_1 := a0_0.2; let a0_2 := a0_1.2; let a0_3 := a0_2.2; let a0_4 := a0_3.2; F β a0_0.1 a0_1.1 a0_2.1 a0_3.1 a0_4.1 (fun y1 y2 y3 y4 y5 => k (.agg [.str y1, .str y2, .bool y3, .int .i64 y4, .str y5]))
abbrev W120 (F : T120) : WT := wrap s120 (G120 F)
theorem k120 (F50 : T50) (β : Type) (e : argsT s120) (k : V → Option β) : fnK cfg (tabL [(50, W50 F50)]) noX 120 Tryz.f120 β (argsEnc s120 e) k = G120 (P120 F50 ) β e k := by kernel_rfl
theorem ok120 : FnOk D 120 (W120 F120) := fn_okW [(50, W50 F50)] noX (fun _ => rfl) Tryz.func120 rfl (tabL_cons ok50 tabL_nil) (k120 F50 )
abbrev T56 : Type 1 := (β : Type) → List V → (List V → Option β) → Option β
def P56 (F120 : T120) : T56 := fun β a k =>
 chk (0 ≤ (a.length : Int) ∧ (a.length : Int) ≤ (a.length : Int) ∧ (a.length : Int) * 64 ≤ 140737488355328 ∧ (a.length : Int) ≤ 140737488355328) <|
 whileK (fun s1 =>
 br (decide ((lI s1 2) < ((lL s1 0).length : Int))) (
 chk (0 ≤ (lI s1 2)) <|
 idx true [.str, .str, .bool, .int .i64, .str] (lL s1 0) ((lI s1 2).toNat) fun (e2 : List UInt8 × List UInt8 × Bool × Int × List UInt8 × Unit) =>
 F120 _ e2.1 e2.2.1 e2.2.2.1 e2.2.2.2.1 e2.2.2.2.2.1 fun t3 t4 b5 n6 t7 =>
 chk (0 ≤ (lI s1 2) ∧ (lI s1 2).toNat < (lL s1 1).length) <|
 storeO (lL s1 1) ((lI s1 2).toNat) 0 [.str t3, .str t4, .bool b5, .int .i64 n6, .str t7] fun l8 =>
 some (.inl [.l (lL s1 0), .l l8, .i (IntKind.wrap .i64 ((lI s1 2) + 1))])) (
 some (.inr (0, [.l (lL s1 1)])))) [.l a, .l (List.replicate ((a.length : Int).toNat) (.agg [.str [], .str [], .bool false, .int .i64 0, .str []])), .i 0] fun (r9 : Nat × List Leaf) =>
 k (lL r9.2 0)
def F56 : T56 := P56 F120
def X56 : Exits := fun i => lookN i [] [(3, [(.exit 0, xk 23 [(3, .own 1000000 5 .flat [])] [])])]
abbrev s56 : List (Bool × List CK) := [(false, [.sl 5 true])]
def G56 (F : T56) (β : Type) (e : (List V × Unit) × Unit) (k : V → Option β) : Option β := F β e.1.1 (fun y1 => k (.own 0 5 .flat y1))
abbrev W56 (F : T56) : WT := wrap s56 (G56 F)
theorem k56 (F120 : T120) (β : Type) (e : argsT s56) (k : V → Option β) : fnK cfg (tabL [(120, W120 F120)]) X56 56 Tryz.f56 β (argsEnc s56 e) k = G56 (P56 F120 ) β e k := by kernel_rfl
theorem ok56 : FnOk D 56 (W56 F56) := fn_okW [(120, W120 F120)] X56 (fun _ => rfl) Tryz.func56 rfl (tabL_cons ok120 tabL_nil) (k56 F120 )
abbrev T57 : Type 1 := (β : Type) → List V → (List V → Option β) → Option β
def P57 (F50 : T50) : T57 := fun β a k =>
 chk (0 ≤ (a.length : Int) ∧ (a.length : Int) ≤ (a.length : Int) ∧ (a.length : Int) * 32 ≤ 140737488355328 ∧ (a.length : Int) ≤ 140737488355328) <|
 whileK (fun s1 =>
 br (decide ((lI s1 2) < ((lL s1 0).length : Int))) (
 chk (0 ≤ (lI s1 2)) <|
 idx true [.str, .str] (lL s1 0) ((lI s1 2).toNat) fun (e2 : List UInt8 × List UInt8 × Unit) =>
 F50 _ e2.1 e2.2.1 fun t3 t4 =>
 chk (0 ≤ (lI s1 2) ∧ (lI s1 2).toNat < (lL s1 1).length) <|
 storeO (lL s1 1) ((lI s1 2).toNat) 0 [.str t3, .str t4] fun l5 =>
 some (.inl [.l (lL s1 0), .l l5, .i (IntKind.wrap .i64 ((lI s1 2) + 1))])) (
 some (.inr (0, [.l (lL s1 1)])))) [.l a, .l (List.replicate ((a.length : Int).toNat) (.agg [.str [], .str []])), .i 0] fun (r6 : Nat × List Leaf) =>
 k (lL r6.2 0)
def F57 : T57 := P57 F50
def X57 : Exits := fun i => lookN i [] [(3, [(.exit 0, xk 23 [(3, .own 1000000 2 .flat [])] [])])]
abbrev s57 : List (Bool × List CK) := [(false, [.sl 2 true])]
def G57 (F : T57) (β : Type) (e : (List V × Unit) × Unit) (k : V → Option β) : Option β := F β e.1.1 (fun y1 => k (.own 0 2 .flat y1))
abbrev W57 (F : T57) : WT := wrap s57 (G57 F)
theorem k57 (F50 : T50) (β : Type) (e : argsT s57) (k : V → Option β) : fnK cfg (tabL [(50, W50 F50)]) X57 57 Tryz.f57 β (argsEnc s57 e) k = G57 (P57 F50 ) β e k := by kernel_rfl
theorem ok57 : FnOk D 57 (W57 F57) := fn_okW [(50, W50 F50)] X57 (fun _ => rfl) Tryz.func57 rfl (tabL_cons ok50 tabL_nil) (k57 F50 )
abbrev T11 : Type 1 := (β : Type) → List UInt8 → List UInt8 → Bool → List V → List V → List V → List UInt8 → List UInt8 → List V → Bool → List V → List V → List V → List V → List V → Int → Int → Int → Int → List V → List V → Bool → (List UInt8 → List UInt8 → Bool → List V → List V → List V → List UInt8 → List UInt8 → List V → Bool → List V → List V → List V → List V → List V → Int → Int → Int → Int → List V → List V → Bool → Option β) → Option β
def P11 (F50 : T50) (F51 : T51) (F52 : T52) (F53 : T53) (F54 : T54) (F55 : T55) (F56 : T56) (F57 : T57) (F58 : T58) : T11 := fun β a_Addr_Host a_Addr_Path a_Policy_Set a_Policy_Scripts a_Policy_Styles a_Policy_Images a_Policy_Nonce a_Tok_Rest a_Queue a_Ended a_Builder_Nodes a_Builder_Open a_Slots a_Mods a_Entries a_Block a_Inline a_Deferred a_Entered a_Ran a_Log a_Loaded k =>
 F50 _ a_Addr_Host a_Addr_Path fun t1 t2 =>
 F51 _ a_Policy_Set a_Policy_Scripts a_Policy_Styles a_Policy_Images a_Policy_Nonce fun b3 l4 l5 l6 t7 =>
 F52 _ a_Tok_Rest fun t8 =>
 F53 _ a_Queue fun l9 =>
 F54 _ a_Builder_Nodes a_Builder_Open fun l10 l11 =>
 F55 _ a_Slots fun l12 =>
 F56 _ a_Mods fun l13 =>
 F57 _ a_Entries fun l14 =>
 F57 _ a_Ran fun l15 =>
 F58 _ a_Log fun l16 =>
 k t1 t2 b3 l4 l5 l6 t7 t8 l9 a_Ended l10 l11 l12 l13 l14 a_Block a_Inline a_Deferred a_Entered l15 l16 a_Loaded
def F11 : T11 := P11 F50 F51 F52 F53 F54 F55 F56 F57 F58
abbrev s11 : List (Bool × List CK) := [(true, [.str, .str, .bool, .sl 1 true, .sl 1 true, .sl 1 true, .str, .str, .sl 4 false, .bool, .sl 4 false, .sl 1 true, .sl 8 true, .sl 5 true, .sl 2 true, .int .i64, .int .i64, .int .i64, .int .i64, .sl 2 true, .sl 1 true, .bool])]
def G11 (F : T11) (β : Type) (e : (List UInt8 × List UInt8 × Bool × List V × List V × List V × List UInt8 × List UInt8 × List V × Bool × List V × List V × List V × List V × List V × Int × Int × Int × Int × List V × List V × Bool × Unit) × Unit) (k : V → Option β) : Option β := let a0_0 := e.1; let a0_1 := a0_0.2; let a0_2 := a0_1.2; let a0_3 := a0_2.2; let a0_4 := a0_3.2; let a0_5 := a0_4.2; let a0_6 := a0_5.2; let a0_7 := a0_6.2; let a0_8 := a0_7.2; let a0_9 := a0_8.2; let a0_10 := a0_9.2; let a0_11 := a0_10.2; let a0_12 := a0_11.2; let a0_13 := a0_12.2; let a0_14 := a0_13.2; let a0_15 := a0_14.2; let a0_16 := a0_15.2; let a0_17 := a0_16.2; let a0_18 := a0_17.2; let a0_19 := a0_18.2; let a0_20 := a0_19.2; let a0_21 := a0_20.2; F β a0_0.1 a0_1.1 a0_2.1 a0_3.1 a0_4.1 a0_5.1 a0_6.1 a0_7.1 a0_8.1 a0_9.1 a0_10.1 a0_11.1 a0_12.1 a0_13.1 a0_14.1 a0_15.1 a0_16.1 a0_17.1 a0_18.1 a0_19.1 a0_20.1 a0_21.1 (fun y1 y2 y3 y4 y5 y6 y7 y8 y9 y10 y11 y12 y13 y14 y15 y16 y17 y18 y19 y20 y21 y22 => k (.agg [.str y1, .str y2, .bool y3, .own 3 1 .flat y4, .own 4 1 .flat y5, .own 5 1 .flat y6, .str y7, .str y8, .own 8 4 .clean y9, .bool y10, .own 10 4 .clean y11, .own 11 1 .flat y12, .own 12 8 .flat y13, .own 13 5 .flat y14, .own 14 2 .flat y15, .int .i64 y16, .int .i64 y17, .int .i64 y18, .int .i64 y19, .own 19 2 .flat y20, .own 20 1 .flat y21, .bool y22]))
abbrev W11 (F : T11) : WT := wrap s11 (G11 F)
theorem k11 (F50 : T50) (F51 : T51) (F52 : T52) (F53 : T53) (F54 : T54) (F55 : T55) (F56 : T56) (F57 : T57) (F58 : T58) (β : Type) (e : argsT s11) (k : V → Option β) : fnK cfg (tabL [(50, W50 F50), (51, W51 F51), (52, W52 F52), (53, W53 F53), (54, W54 F54), (55, W55 F55), (56, W56 F56), (57, W57 F57), (58, W58 F58)]) noX 11 Tryz.f11 β (argsEnc s11 e) k = G11 (P11 F50 F51 F52 F53 F54 F55 F56 F57 F58 ) β e k := by kernel_rfl
theorem ok11 : FnOk D 11 (W11 F11) := fn_okW [(50, W50 F50), (51, W51 F51), (52, W52 F52), (53, W53 F53), (54, W54 F54), (55, W55 F55), (56, W56 F56), (57, W57 F57), (58, W58 F58)] noX (fun _ => rfl) Tryz.func11 rfl (tabL_cons ok50 (tabL_cons ok51 (tabL_cons ok52 (tabL_cons ok53 (tabL_cons ok54 (tabL_cons ok55 (tabL_cons ok56 (tabL_cons ok57 (tabL_cons ok58 tabL_nil))))))))) (k11 F50 F51 F52 F53 F54 F55 F56 F57 F58 )
abbrev T115 : Type 1 := (β : Type) → List UInt8 → List UInt8 → List UInt8 → List UInt8 → Bool → List V → List V → List V → List UInt8 → List UInt8 → List V → Bool → List V → List V → List V → List V → List V → Int → Int → Int → Int → List V → List V → Bool → Bool → (List UInt8 → List UInt8 → List UInt8 → List UInt8 → Bool → List V → List V → List V → List UInt8 → List UInt8 → List V → Bool → List V → List V → List V → List V → List V → Int → Int → Int → Int → List V → List V → Bool → Bool → Option β) → Option β
def P115 (F50 : T50) (F11 : T11) : T115 := fun β a_Addr_Host a_Addr_Path a_Page_Addr_Host a_Page_Addr_Path a_Page_Policy_Set a_Page_Policy_Scripts a_Page_Policy_Styles a_Page_Policy_Images a_Page_Policy_Nonce a_Page_Tok_Rest a_Page_Queue a_Page_Ended a_Page_Builder_Nodes a_Page_Builder_Open a_Page_Slots a_Page_Mods a_Page_Entries a_Page_Block a_Page_Inline a_Page_Deferred a_Page_Entered a_Page_Ran a_Page_Log a_Page_Loaded a_Kept k =>
 F50 _ a_Addr_Host a_Addr_Path fun t1 t2 =>
 F11 _ a_Page_Addr_Host a_Page_Addr_Path a_Page_Policy_Set a_Page_Policy_Scripts a_Page_Policy_Styles a_Page_Policy_Images a_Page_Policy_Nonce a_Page_Tok_Rest a_Page_Queue a_Page_Ended a_Page_Builder_Nodes a_Page_Builder_Open a_Page_Slots a_Page_Mods a_Page_Entries a_Page_Block a_Page_Inline a_Page_Deferred a_Page_Entered a_Page_Ran a_Page_Log a_Page_Loaded fun t3 t4 b5 l6 l7 l8 t9 t10 l11 b12 l13 l14 l15 l16 l17 n18 n19 n20 n21 l22 l23 b24 =>
 k t1 t2 t3 t4 b5 l6 l7 l8 t9 t10 l11 b12 l13 l14 l15 l16 l17 n18 n19 n20 n21 l22 l23 b24 a_Kept
def F115 : T115 := P115 F50 F11
abbrev s115 : List (Bool × List CK) := [(true, [.str, .str, .str, .str, .bool, .sl 1 true, .sl 1 true, .sl 1 true, .str, .str, .sl 4 false, .bool, .sl 4 false, .sl 1 true, .sl 8 true, .sl 5 true, .sl 2 true, .int .i64, .int .i64, .int .i64, .int .i64, .sl 2 true, .sl 1 true, .bool, .bool])]
def G115 (F : T115) (β : Type) (e : (List UInt8 × List UInt8 × List UInt8 × List UInt8 × Bool × List V × List V × List V × List UInt8 × List UInt8 × List V × Bool × List V × List V × List V × List V × List V × Int × Int × Int × Int × List V × List V × Bool × Bool × Unit) × Unit) (k : V → Option β) : Option β := let a0_0 := e.1; let a0_1 := a0_0.2; let a0_2 := a0_1.2; let a0_3 := a0_2.2; let a0_4 := a0_3.2; let a0_5 := a0_4.2; let a0_6 := a0_5.2; let a0_7 := a0_6.2; let a0_8 := a0_7.2; let a0_9 := a0_8.2; let a0_10 := a0_9.2; let a0_11 := a0_10.2; let a0_12 := a0_11.2; let a0_13 := a0_12.2; let a0_14 := a0_13.2; let a0_15 := a0_14.2; let a0_16 := a0_15.2; let a0_17 := a0_16.2; let a0_18 := a0_17.2; let a0_19 := a0_18.2; let a0_20 := a0_19.2; let a0_21 := a0_20.2; let a0_22 := a0_21.2; let a0_23 := a0_22.2; let a0_24 := a0_23.2; F β a0_0.1 a0_1.1 a0_2.1 a0_3.1 a0_4.1 a0_5.1 a0_6.1 a0_7.1 a0_8.1 a0_9.1 a0_10.1 a0_11.1 a0_12.1 a0_13.1 a0_14.1 a0_15.1 a0_16.1 a0_17.1 a0_18.1 a0_19.1 a0_20.1 a0_21.1 a0_22.1 a0_23.1 a0_24.1 (fun y1 y2 y3 y4 y5 y6 y7 y8 y9 y10 y11 y12 y13 y14 y15 y16 y17 y18 y19 y20 y21 y22 y23 y24 y25 => k (.agg [.str y1, .str y2, .str y3, .str y4, .bool y5, .own 5 1 .flat y6, .own 6 1 .flat y7, .own 7 1 .flat y8, .str y9, .str y10, .own 10 4 .clean y11, .bool y12, .own 12 4 .clean y13, .own 13 1 .flat y14, .own 14 8 .flat y15, .own 15 5 .flat y16, .own 16 2 .flat y17, .int .i64 y18, .int .i64 y19, .int .i64 y20, .int .i64 y21, .own 21 2 .flat y22, .own 22 1 .flat y23, .bool y24, .bool y25]))
abbrev W115 (F : T115) : WT := wrap s115 (G115 F)
theorem k115 (F50 : T50) (F11 : T11) (β : Type) (e : argsT s115) (k : V → Option β) : fnK cfg (tabL [(50, W50 F50), (11, W11 F11)]) noX 115 Tryz.f115 β (argsEnc s115 e) k = G115 (P115 F50 F11 ) β e k := by kernel_rfl
theorem ok115 : FnOk D 115 (W115 F115) := fn_okW [(50, W50 F50), (11, W11 F11)] noX (fun _ => rfl) Tryz.func115 rfl (tabL_cons ok50 (tabL_cons ok11 tabL_nil)) (k115 F50 F11 )
abbrev T49 : Type 1 := (β : Type) → List V → (List V → Option β) → Option β
def P49 (F115 : T115) : T49 := fun β a k =>
 chk (0 ≤ (a.length : Int) ∧ (a.length : Int) ≤ (a.length : Int) ∧ (a.length : Int) * 424 ≤ 140737488355328 ∧ (a.length : Int) ≤ 140737488355328) <|
 whileK (fun s1 =>
 br (decide ((lI s1 2) < ((lL s1 0).length : Int))) (
 chk (0 ≤ (lI s1 2)) <|
 idx true [.str, .str, .str, .str, .bool, .sl 1 true, .sl 1 true, .sl 1 true, .str, .str, .sl 4 false, .bool, .sl 4 false, .sl 1 true, .sl 8 true, .sl 5 true, .sl 2 true, .int .i64, .int .i64, .int .i64, .int .i64, .sl 2 true, .sl 1 true, .bool, .bool] (lL s1 0) ((lI s1 2).toNat) fun (e2 : List UInt8 × List UInt8 × List UInt8 × List UInt8 × Bool × List V × List V × List V × List UInt8 × List UInt8 × List V × Bool × List V × List V × List V × List V × List V × Int × Int × Int × Int × List V × List V × Bool × Bool × Unit) =>
 F115 _ e2.1 e2.2.1 e2.2.2.1 e2.2.2.2.1 e2.2.2.2.2.1 e2.2.2.2.2.2.1 e2.2.2.2.2.2.2.1 e2.2.2.2.2.2.2.2.1 e2.2.2.2.2.2.2.2.2.1 e2.2.2.2.2.2.2.2.2.2.1 e2.2.2.2.2.2.2.2.2.2.2.1 e2.2.2.2.2.2.2.2.2.2.2.2.1 e2.2.2.2.2.2.2.2.2.2.2.2.2.1 e2.2.2.2.2.2.2.2.2.2.2.2.2.2.1 e2.2.2.2.2.2.2.2.2.2.2.2.2.2.2.1 e2.2.2.2.2.2.2.2.2.2.2.2.2.2.2.2.1 e2.2.2.2.2.2.2.2.2.2.2.2.2.2.2.2.2.1 e2.2.2.2.2.2.2.2.2.2.2.2.2.2.2.2.2.2.1 e2.2.2.2.2.2.2.2.2.2.2.2.2.2.2.2.2.2.2.1 e2.2.2.2.2.2.2.2.2.2.2.2.2.2.2.2.2.2.2.2.1 e2.2.2.2.2.2.2.2.2.2.2.2.2.2.2.2.2.2.2.2.2.1 e2.2.2.2.2.2.2.2.2.2.2.2.2.2.2.2.2.2.2.2.2.2.1 e2.2.2.2.2.2.2.2.2.2.2.2.2.2.2.2.2.2.2.2.2.2.2.1 e2.2.2.2.2.2.2.2.2.2.2.2.2.2.2.2.2.2.2.2.2.2.2.2.1 e2.2.2.2.2.2.2.2.2.2.2.2.2.2.2.2.2.2.2.2.2.2.2.2.2.1 fun t3 t4 t5 t6 b7 l8 l9 l10 t11 t12 l13 b14 l15 l16 l17 l18 l19 n20 n21 n22 n23 l24 l25 b26 b27 =>
 chk (0 ≤ (lI s1 2) ∧ (lI s1 2).toNat < (lL s1 1).length) <|
 storeO (lL s1 1) ((lI s1 2).toNat) 0 [.str t3, .str t4, .str t5, .str t6, .bool b7, .sl 1 true l8, .sl 1 true l9, .sl 1 true l10, .str t11, .str t12, .sl 4 false l13, .bool b14, .sl 4 false l15, .sl 1 true l16, .sl 8 true l17, .sl 5 true l18, .sl 2 true l19, .int .i64 n20, .int .i64 n21, .int .i64 n22, .int .i64 n23, .sl 2 true l24, .sl 1 true l25, .bool b26, .bool b27] fun l28 =>
 some (.inl [.l (lL s1 0), .l l28, .i (IntKind.wrap .i64 ((lI s1 2) + 1))])) (
 some (.inr (0, [.l (lL s1 1)])))) [.l a, .l (List.replicate ((a.length : Int).toNat) (.agg [.str [], .str [], .str [], .str [], .bool false, .sl 1 true [], .sl 1 true [], .sl 1 true [], .str [], .str [], .sl 4 false [], .bool false, .sl 4 false [], .sl 1 true [], .sl 8 true [], .sl 5 true [], .sl 2 true [], .int .i64 0, .int .i64 0, .int .i64 0, .int .i64 0, .sl 2 true [], .sl 1 true [], .bool false, .bool false])), .i 0] fun (r29 : Nat × List Leaf) =>
 k (lL r29.2 0)
def F49 : T49 := P49 F115
def X49 : Exits := fun i => lookN i [] [(3, [(.exit 0, xk 23 [(3, .own 1000000 25 .clean [])] [])])]
abbrev s49 : List (Bool × List CK) := [(false, [.sl 25 false])]
def G49 (F : T49) (β : Type) (e : (List V × Unit) × Unit) (k : V → Option β) : Option β := F β e.1.1 (fun y1 => k (.own 0 25 .clean y1))
abbrev W49 (F : T49) : WT := wrap s49 (G49 F)
theorem k49 (F115 : T115) (β : Type) (e : argsT s49) (k : V → Option β) : fnK cfg (tabL [(115, W115 F115)]) X49 49 Tryz.f49 β (argsEnc s49 e) k = G49 (P49 F115 ) β e k := by kernel_rfl
theorem ok49 : FnOk D 49 (W49 F49) := fn_okW [(115, W115 F115)] X49 (fun _ => rfl) Tryz.func49 rfl (tabL_cons ok115 tabL_nil) (k49 F115 )
abbrev T10 : Type 1 := (β : Type) → List V → Int → (List V → Int → Option β) → Option β
def P10 (F49 : T49) : T10 := fun β a_Visits a_At k =>
 F49 _ a_Visits fun l1 =>
 k l1 a_At
def F10 : T10 := P10 F49
abbrev s10 : List (Bool × List CK) := [(true, [.sl 25 false, .int .i64])]
def G10 (F : T10) (β : Type) (e : (List V × Int × Unit) × Unit) (k : V → Option β) : Option β := F β e.1.1 e.1.2.1 (fun y1 y2 => k (.agg [.own 0 25 .clean y1, .int .i64 y2]))
abbrev W10 (F : T10) : WT := wrap s10 (G10 F)
theorem k10 (F49 : T49) (β : Type) (e : argsT s10) (k : V → Option β) : fnK cfg (tabL [(49, W49 F49)]) noX 10 Tryz.f10 β (argsEnc s10 e) k = G10 (P10 F49 ) β e k := by kernel_rfl
theorem ok10 : FnOk D 10 (W10 F10) := fn_okW [(49, W49 F49)] noX (fun _ => rfl) Tryz.func10 rfl (tabL_cons ok49 tabL_nil) (k10 F49 )
abbrev T63 : Type 1 := (β : Type) → List UInt8 → List UInt8 → List UInt8 → List UInt8 → (Bool → Option β) → Option β
def P63 : T63 := fun β a_Host a_Path b_Host b_Path k =>
 br (!(a_Host == b_Host)) (
 k false) (
 br (!(a_Path == b_Path)) (
 k false) (
 k true))
def F63 : T63 := P63
abbrev s63 : List (Bool × List CK) := [(true, [.str, .str]), (true, [.str, .str])]
def G63 (F : T63) (β : Type) (e : (List UInt8 × List UInt8 × Unit) × (List UInt8 × List UInt8 × Unit) × Unit) (k : V → Option β) : Option β := F β e.1.1 e.1.2.1 e.2.1.1 e.2.1.2.1 (fun y1 => k (.bool y1))
abbrev W63 (F : T63) : WT := wrap s63 (G63 F)
theorem k63 (β : Type) (e : argsT s63) (k : V → Option β) : fnK cfg (tabL []) noX 63 Tryz.f63 β (argsEnc s63 e) k = G63 (P63 ) β e k := by kernel_rfl
theorem ok63 : FnOk D 63 (W63 F63) := fn_okW [] noX (fun _ => rfl) Tryz.func63 rfl (tabL_nil) (k63 )
abbrev T70 : Type 1 := (β : Type) → List V → List V → (Bool → Option β) → Option β
def P70 : T70 := fun β a b k =>
 br ((a.length : Int) != (b.length : Int)) (
 k false) (
 whileK (fun s1 =>
 br (decide ((lI s1 2) < ((lL s1 0).length : Int))) (
 chk (0 ≤ (lI s1 2)) <|
 idx false [.str] (lL s1 0) ((lI s1 2).toNat) fun (e2 : List UInt8 × Unit) =>
 chk (0 ≤ (lI s1 2)) <|
 idx false [.str] (lL s1 1) ((lI s1 2).toNat) fun (e3 : List UInt8 × Unit) =>
 br (!(e2.1 == e3.1)) (
 some (.inr (0, [.b false]))) (
 some (.inl [.l (lL s1 0), .l (lL s1 1), .i (IntKind.wrap .i64 ((lI s1 2) + 1))]))) (
 some (.inr (1, [])))) [.l a, .l b, .i 0] fun (r4 : Nat × List Leaf) =>
 if r4.1 = 0 then
 k (lB r4.2 0)
 else
 k true)
def F70 : T70 := P70
def X70 : Exits := fun i => lookN i [] [(4, [(.ret, xk 26 [(4, .bool false)] []), (.exit 0, xk 26 [] [])])]
abbrev s70 : List (Bool × List CK) := [(false, [.sl 1 true]), (false, [.sl 1 true])]
def G70 (F : T70) (β : Type) (e : (List V × Unit) × (List V × Unit) × Unit) (k : V → Option β) : Option β := F β e.1.1 e.2.1.1 (fun y1 => k (.bool y1))
abbrev W70 (F : T70) : WT := wrap s70 (G70 F)
theorem k70 (β : Type) (e : argsT s70) (k : V → Option β) : fnK cfg (tabL []) X70 70 Tryz.f70 β (argsEnc s70 e) k = G70 (P70 ) β e k := by kernel_rfl
theorem ok70 : FnOk D 70 (W70 F70) := fn_okW [] X70 (fun _ => rfl) Tryz.func70 rfl (tabL_nil) (k70 )
abbrev T64 : Type 1 := (β : Type) → Bool → List V → List V → List V → List UInt8 → Bool → List V → List V → List V → List UInt8 → (Bool → Option β) → Option β
def P64 (F70 : T70) : T64 := fun β a_Set a_Scripts a_Styles a_Images a_Nonce b_Set b_Scripts b_Styles b_Images b_Nonce k =>
 br (!(a_Set == b_Set)) (
 k false) (
 F70 _ a_Scripts b_Scripts fun b1 =>
 br (!b1) (
 k false) (
 F70 _ a_Styles b_Styles fun b2 =>
 br (!b2) (
 k false) (
 F70 _ a_Images b_Images fun b3 =>
 br (!b3) (
 k false) (
 br (!(a_Nonce == b_Nonce)) (
 k false) (
 k true)))))
def F64 : T64 := P64 F70
abbrev s64 : List (Bool × List CK) := [(true, [.bool, .sl 1 true, .sl 1 true, .sl 1 true, .str]), (true, [.bool, .sl 1 true, .sl 1 true, .sl 1 true, .str])]
def G64 (F : T64) (β : Type) (e : (Bool × List V × List V × List V × List UInt8 × Unit) × (Bool × List V × List V × List V × List UInt8 × Unit) × Unit) (k : V → Option β) : Option β := let a0_0 := e.1; let a0_1 := a0_0.2; let a0_2 := a0_1.2; let a0_3 := a0_2.2; let a0_4 := a0_3.2; let a1_0 := e.2.1; let a1_1 := a1_0.2; let a1_2 := a1_1.2; let a1_3 := a1_2.2; let a1_4 := a1_3.2; F β a0_0.1 a0_1.1 a0_2.1 a0_3.1 a0_4.1 a1_0.1 a1_1.1 a1_2.1 a1_3.1 a1_4.1 (fun y1 => k (.bool y1))
abbrev W64 (F : T64) : WT := wrap s64 (G64 F)
theorem k64 (F70 : T70) (β : Type) (e : argsT s64) (k : V → Option β) : fnK cfg (tabL [(70, W70 F70)]) noX 64 Tryz.f64 β (argsEnc s64 e) k = G64 (P64 F70 ) β e k := by kernel_rfl
theorem ok64 : FnOk D 64 (W64 F64) := fn_okW [(70, W70 F70)] noX (fun _ => rfl) Tryz.func64 rfl (tabL_cons ok70 tabL_nil) (k64 F70 )
abbrev T65 : Type 1 := (β : Type) → List UInt8 → List UInt8 → (Bool → Option β) → Option β
def P65 : T65 := fun β a_Rest b_Rest k =>
 br (!(a_Rest == b_Rest)) (
 k false) (
 k true)
def F65 : T65 := P65
abbrev s65 : List (Bool × List CK) := [(true, [.str]), (true, [.str])]
def G65 (F : T65) (β : Type) (e : (List UInt8 × Unit) × (List UInt8 × Unit) × Unit) (k : V → Option β) : Option β := F β e.1.1 e.2.1.1 (fun y1 => k (.bool y1))
abbrev W65 (F : T65) : WT := wrap s65 (G65 F)
theorem k65 (β : Type) (e : argsT s65) (k : V → Option β) : fnK cfg (tabL []) noX 65 Tryz.f65 β (argsEnc s65 e) k = G65 (P65 ) β e k := by kernel_rfl
theorem ok65 : FnOk D 65 (W65 F65) := fn_okW [] noX (fun _ => rfl) Tryz.func65 rfl (tabL_nil) (k65 )
abbrev T215 : Type 1 := (β : Type) → List UInt8 → List UInt8 → List UInt8 → List UInt8 → (Bool → Option β) → Option β
def P215 : T215 := fun β a_Name a_Value b_Name b_Value k =>
 br (!(a_Name == b_Name)) (
 k false) (
 br (!(a_Value == b_Value)) (
 k false) (
 k true))
def F215 : T215 := P215
abbrev s215 : List (Bool × List CK) := [(true, [.str, .str]), (true, [.str, .str])]
def G215 (F : T215) (β : Type) (e : (List UInt8 × List UInt8 × Unit) × (List UInt8 × List UInt8 × Unit) × Unit) (k : V → Option β) : Option β := F β e.1.1 e.1.2.1 e.2.1.1 e.2.1.2.1 (fun y1 => k (.bool y1))
abbrev W215 (F : T215) : WT := wrap s215 (G215 F)
theorem k215 (β : Type) (e : argsT s215) (k : V → Option β) : fnK cfg (tabL []) noX 215 Tryz.f215 β (argsEnc s215 e) k = G215 (P215 ) β e k := by kernel_rfl
theorem ok215 : FnOk D 215 (W215 F215) := fn_okW [] noX (fun _ => rfl) Tryz.func215 rfl (tabL_nil) (k215 )
abbrev T184 : Type 1 := (β : Type) → List V → List V → (Bool → Option β) → Option β
def P184 (F215 : T215) : T184 := fun β a b k =>
 br ((a.length : Int) != (b.length : Int)) (
 k false) (
 whileK (fun s1 =>
 br (decide ((lI s1 2) < ((lL s1 0).length : Int))) (
 chk (0 ≤ (lI s1 2)) <|
 idx true [.str, .str] (lL s1 0) ((lI s1 2).toNat) fun (e2 : List UInt8 × List UInt8 × Unit) =>
 chk (0 ≤ (lI s1 2)) <|
 idx true [.str, .str] (lL s1 1) ((lI s1 2).toNat) fun (e3 : List UInt8 × List UInt8 × Unit) =>
 F215 _ e2.1 e2.2.1 e3.1 e3.2.1 fun b4 =>
 br (!b4) (
 some (.inr (0, [.b false]))) (
 some (.inl [.l (lL s1 0), .l (lL s1 1), .i (IntKind.wrap .i64 ((lI s1 2) + 1))]))) (
 some (.inr (1, [])))) [.l a, .l b, .i 0] fun (r5 : Nat × List Leaf) =>
 if r5.1 = 0 then
 k (lB r5.2 0)
 else
 k true)
def F184 : T184 := P184 F215
def X184 : Exits := fun i => lookN i [] [(4, [(.ret, xk 27 [(4, .bool false)] []), (.exit 0, xk 27 [] [])])]
abbrev s184 : List (Bool × List CK) := [(false, [.sl 2 true]), (false, [.sl 2 true])]
def G184 (F : T184) (β : Type) (e : (List V × Unit) × (List V × Unit) × Unit) (k : V → Option β) : Option β := F β e.1.1 e.2.1.1 (fun y1 => k (.bool y1))
abbrev W184 (F : T184) : WT := wrap s184 (G184 F)
theorem k184 (F215 : T215) (β : Type) (e : argsT s184) (k : V → Option β) : fnK cfg (tabL [(215, W215 F215)]) X184 184 Tryz.f184 β (argsEnc s184 e) k = G184 (P184 F215 ) β e k := by kernel_rfl
theorem ok184 : FnOk D 184 (W184 F184) := fn_okW [(215, W215 F215)] X184 (fun _ => rfl) Tryz.func184 rfl (tabL_cons ok215 tabL_nil) (k184 F215 )
abbrev T125 : Type 1 := (β : Type) → Int → List UInt8 → List V → List UInt8 → Int → List UInt8 → List V → List UInt8 → (Bool → Option β) → Option β
def P125 (F184 : T184) : T125 := fun β a_Kind a_Name a_Attrs a_Text b_Kind b_Name b_Attrs b_Text k =>
 br (a_Kind != b_Kind) (
 k false) (
 br (!(a_Name == b_Name)) (
 k false) (
 F184 _ a_Attrs b_Attrs fun b1 =>
 br (!b1) (
 k false) (
 br (!(a_Text == b_Text)) (
 k false) (
 k true))))
def F125 : T125 := P125 F184
abbrev s125 : List (Bool × List CK) := [(true, [.int .i64, .str, .sl 2 true, .str]), (true, [.int .i64, .str, .sl 2 true, .str])]
def G125 (F : T125) (β : Type) (e : (Int × List UInt8 × List V × List UInt8 × Unit) × (Int × List UInt8 × List V × List UInt8 × Unit) × Unit) (k : V → Option β) : Option β := F β e.1.1 e.1.2.1 e.1.2.2.1 e.1.2.2.2.1 e.2.1.1 e.2.1.2.1 e.2.1.2.2.1 e.2.1.2.2.2.1 (fun y1 => k (.bool y1))
abbrev W125 (F : T125) : WT := wrap s125 (G125 F)
theorem k125 (F184 : T184) (β : Type) (e : argsT s125) (k : V → Option β) : fnK cfg (tabL [(184, W184 F184)]) noX 125 Tryz.f125 β (argsEnc s125 e) k = G125 (P125 F184 ) β e k := by kernel_rfl
theorem ok125 : FnOk D 125 (W125 F125) := fn_okW [(184, W184 F184)] noX (fun _ => rfl) Tryz.func125 rfl (tabL_cons ok184 tabL_nil) (k125 F184 )
abbrev T66 : Type 1 := (β : Type) → List V → List V → (Bool → Option β) → Option β
def P66 (F125 : T125) : T66 := fun β a b k =>
 br ((a.length : Int) != (b.length : Int)) (
 k false) (
 whileK (fun s1 =>
 br (decide ((lI s1 2) < ((lL s1 0).length : Int))) (
 chk (0 ≤ (lI s1 2)) <|
 idx true [.int .i64, .str, .sl 2 true, .str] (lL s1 0) ((lI s1 2).toNat) fun (e2 : Int × List UInt8 × List V × List UInt8 × Unit) =>
 chk (0 ≤ (lI s1 2)) <|
 idx true [.int .i64, .str, .sl 2 true, .str] (lL s1 1) ((lI s1 2).toNat) fun (e3 : Int × List UInt8 × List V × List UInt8 × Unit) =>
 F125 _ e2.1 e2.2.1 e2.2.2.1 e2.2.2.2.1 e3.1 e3.2.1 e3.2.2.1 e3.2.2.2.1 fun b4 =>
 br (!b4) (
 some (.inr (0, [.b false]))) (
 some (.inl [.l (lL s1 0), .l (lL s1 1), .i (IntKind.wrap .i64 ((lI s1 2) + 1))]))) (
 some (.inr (1, [])))) [.l a, .l b, .i 0] fun (r5 : Nat × List Leaf) =>
 if r5.1 = 0 then
 k (lB r5.2 0)
 else
 k true)
def F66 : T66 := P66 F125
def X66 : Exits := fun i => lookN i [] [(4, [(.ret, xk 27 [(4, .bool false)] []), (.exit 0, xk 27 [] [])])]
abbrev s66 : List (Bool × List CK) := [(false, [.sl 4 false]), (false, [.sl 4 false])]
def G66 (F : T66) (β : Type) (e : (List V × Unit) × (List V × Unit) × Unit) (k : V → Option β) : Option β := F β e.1.1 e.2.1.1 (fun y1 => k (.bool y1))
abbrev W66 (F : T66) : WT := wrap s66 (G66 F)
theorem k66 (F125 : T125) (β : Type) (e : argsT s66) (k : V → Option β) : fnK cfg (tabL [(125, W125 F125)]) X66 66 Tryz.f66 β (argsEnc s66 e) k = G66 (P66 F125 ) β e k := by kernel_rfl
theorem ok66 : FnOk D 66 (W66 F66) := fn_okW [(125, W125 F125)] X66 (fun _ => rfl) Tryz.func66 rfl (tabL_cons ok125 tabL_nil) (k66 F125 )
abbrev T185 : Type 1 := (β : Type) → List UInt8 → List UInt8 → Int → List V → List UInt8 → List UInt8 → Int → List V → (Bool → Option β) → Option β
def P185 (F184 : T184) : T185 := fun β a_Name a_Text a_Parent a_Attrs b_Name b_Text b_Parent b_Attrs k =>
 br (!(a_Name == b_Name)) (
 k false) (
 br (!(a_Text == b_Text)) (
 k false) (
 br (a_Parent != b_Parent) (
 k false) (
 F184 _ a_Attrs b_Attrs fun b1 =>
 br (!b1) (
 k false) (
 k true))))
def F185 : T185 := P185 F184
abbrev s185 : List (Bool × List CK) := [(true, [.str, .str, .int .i64, .sl 2 true]), (true, [.str, .str, .int .i64, .sl 2 true])]
def G185 (F : T185) (β : Type) (e : (List UInt8 × List UInt8 × Int × List V × Unit) × (List UInt8 × List UInt8 × Int × List V × Unit) × Unit) (k : V → Option β) : Option β := F β e.1.1 e.1.2.1 e.1.2.2.1 e.1.2.2.2.1 e.2.1.1 e.2.1.2.1 e.2.1.2.2.1 e.2.1.2.2.2.1 (fun y1 => k (.bool y1))
abbrev W185 (F : T185) : WT := wrap s185 (G185 F)
theorem k185 (F184 : T184) (β : Type) (e : argsT s185) (k : V → Option β) : fnK cfg (tabL [(184, W184 F184)]) noX 185 Tryz.f185 β (argsEnc s185 e) k = G185 (P185 F184 ) β e k := by kernel_rfl
theorem ok185 : FnOk D 185 (W185 F185) := fn_okW [(184, W184 F184)] noX (fun _ => rfl) Tryz.func185 rfl (tabL_cons ok184 tabL_nil) (k185 F184 )
abbrev T126 : Type 1 := (β : Type) → List V → List V → (Bool → Option β) → Option β
def P126 (F185 : T185) : T126 := fun β a b k =>
 br ((a.length : Int) != (b.length : Int)) (
 k false) (
 whileK (fun s1 =>
 br (decide ((lI s1 2) < ((lL s1 0).length : Int))) (
 chk (0 ≤ (lI s1 2)) <|
 idx true [.str, .str, .int .i64, .sl 2 true] (lL s1 0) ((lI s1 2).toNat) fun (e2 : List UInt8 × List UInt8 × Int × List V × Unit) =>
 chk (0 ≤ (lI s1 2)) <|
 idx true [.str, .str, .int .i64, .sl 2 true] (lL s1 1) ((lI s1 2).toNat) fun (e3 : List UInt8 × List UInt8 × Int × List V × Unit) =>
 F185 _ e2.1 e2.2.1 e2.2.2.1 e2.2.2.2.1 e3.1 e3.2.1 e3.2.2.1 e3.2.2.2.1 fun b4 =>
 br (!b4) (
 some (.inr (0, [.b false]))) (
 some (.inl [.l (lL s1 0), .l (lL s1 1), .i (IntKind.wrap .i64 ((lI s1 2) + 1))]))) (
 some (.inr (1, [])))) [.l a, .l b, .i 0] fun (r5 : Nat × List Leaf) =>
 if r5.1 = 0 then
 k (lB r5.2 0)
 else
 k true)
def F126 : T126 := P126 F185
def X126 : Exits := fun i => lookN i [] [(4, [(.ret, xk 27 [(4, .bool false)] []), (.exit 0, xk 27 [] [])])]
abbrev s126 : List (Bool × List CK) := [(false, [.sl 4 false]), (false, [.sl 4 false])]
def G126 (F : T126) (β : Type) (e : (List V × Unit) × (List V × Unit) × Unit) (k : V → Option β) : Option β := F β e.1.1 e.2.1.1 (fun y1 => k (.bool y1))
abbrev W126 (F : T126) : WT := wrap s126 (G126 F)
theorem k126 (F185 : T185) (β : Type) (e : argsT s126) (k : V → Option β) : fnK cfg (tabL [(185, W185 F185)]) X126 126 Tryz.f126 β (argsEnc s126 e) k = G126 (P126 F185 ) β e k := by kernel_rfl
theorem ok126 : FnOk D 126 (W126 F126) := fn_okW [(185, W185 F185)] X126 (fun _ => rfl) Tryz.func126 rfl (tabL_cons ok185 tabL_nil) (k126 F185 )
abbrev T127 : Type 1 := (β : Type) → List V → List V → (Bool → Option β) → Option β
def P127 : T127 := fun β a b k =>
 br ((a.length : Int) != (b.length : Int)) (
 k false) (
 whileK (fun s1 =>
 br (decide ((lI s1 2) < ((lL s1 0).length : Int))) (
 chk (0 ≤ (lI s1 2)) <|
 idx false [.int .i64] (lL s1 0) ((lI s1 2).toNat) fun (e2 : Int × Unit) =>
 chk (0 ≤ (lI s1 2)) <|
 idx false [.int .i64] (lL s1 1) ((lI s1 2).toNat) fun (e3 : Int × Unit) =>
 br (e2.1 != e3.1) (
 some (.inr (0, [.b false]))) (
 some (.inl [.l (lL s1 0), .l (lL s1 1), .i (IntKind.wrap .i64 ((lI s1 2) + 1))]))) (
 some (.inr (1, [])))) [.l a, .l b, .i 0] fun (r4 : Nat × List Leaf) =>
 if r4.1 = 0 then
 k (lB r4.2 0)
 else
 k true)
def F127 : T127 := P127
def X127 : Exits := fun i => lookN i [] [(4, [(.ret, xk 26 [(4, .bool false)] []), (.exit 0, xk 26 [] [])])]
abbrev s127 : List (Bool × List CK) := [(false, [.sl 1 true]), (false, [.sl 1 true])]
def G127 (F : T127) (β : Type) (e : (List V × Unit) × (List V × Unit) × Unit) (k : V → Option β) : Option β := F β e.1.1 e.2.1.1 (fun y1 => k (.bool y1))
abbrev W127 (F : T127) : WT := wrap s127 (G127 F)
theorem k127 (β : Type) (e : argsT s127) (k : V → Option β) : fnK cfg (tabL []) X127 127 Tryz.f127 β (argsEnc s127 e) k = G127 (P127 ) β e k := by kernel_rfl
theorem ok127 : FnOk D 127 (W127 F127) := fn_okW [] X127 (fun _ => rfl) Tryz.func127 rfl (tabL_nil) (k127 )
abbrev T67 : Type 1 := (β : Type) → List V → List V → List V → List V → (Bool → Option β) → Option β
def P67 (F126 : T126) (F127 : T127) : T67 := fun β a_Nodes a_Open b_Nodes b_Open k =>
 F126 _ a_Nodes b_Nodes fun b1 =>
 br (!b1) (
 k false) (
 F127 _ a_Open b_Open fun b2 =>
 br (!b2) (
 k false) (
 k true))
def F67 : T67 := P67 F126 F127
abbrev s67 : List (Bool × List CK) := [(true, [.sl 4 false, .sl 1 true]), (true, [.sl 4 false, .sl 1 true])]
def G67 (F : T67) (β : Type) (e : (List V × List V × Unit) × (List V × List V × Unit) × Unit) (k : V → Option β) : Option β := F β e.1.1 e.1.2.1 e.2.1.1 e.2.1.2.1 (fun y1 => k (.bool y1))
abbrev W67 (F : T67) : WT := wrap s67 (G67 F)
theorem k67 (F126 : T126) (F127 : T127) (β : Type) (e : argsT s67) (k : V → Option β) : fnK cfg (tabL [(126, W126 F126), (127, W127 F127)]) noX 67 Tryz.f67 β (argsEnc s67 e) k = G67 (P67 F126 F127 ) β e k := by kernel_rfl
theorem ok67 : FnOk D 67 (W67 F67) := fn_okW [(126, W126 F126), (127, W127 F127)] noX (fun _ => rfl) Tryz.func67 rfl (tabL_cons ok126 (tabL_cons ok127 tabL_nil)) (k67 F126 F127 )
abbrev T128 : Type 1 := (β : Type) → Int → List UInt8 → List UInt8 → List UInt8 → Int → Bool → Int → List UInt8 → Int → List UInt8 → List UInt8 → List UInt8 → Int → Bool → Int → List UInt8 → (Bool → Option β) → Option β
def P128 (F63 : T63) : T128 := fun β a_Mode a_To_Host a_To_Path a_Digest a_Node a_Done a_Code a_Body b_Mode b_To_Host b_To_Path b_Digest b_Node b_Done b_Code b_Body k =>
 br (a_Mode != b_Mode) (
 k false) (
 F63 _ a_To_Host a_To_Path b_To_Host b_To_Path fun b1 =>
 br (!b1) (
 k false) (
 br (!(a_Digest == b_Digest)) (
 k false) (
 br (a_Node != b_Node) (
 k false) (
 br (!(a_Done == b_Done)) (
 k false) (
 br (a_Code != b_Code) (
 k false) (
 br (!(a_Body == b_Body)) (
 k false) (
 k true)))))))
def F128 : T128 := P128 F63
abbrev s128 : List (Bool × List CK) := [(true, [.int .i64, .str, .str, .str, .int .i64, .bool, .int .i64, .str]), (true, [.int .i64, .str, .str, .str, .int .i64, .bool, .int .i64, .str])]
def G128 (F : T128) (β : Type) (e : (Int × List UInt8 × List UInt8 × List UInt8 × Int × Bool × Int × List UInt8 × Unit) × (Int × List UInt8 × List UInt8 × List UInt8 × Int × Bool × Int × List UInt8 × Unit) × Unit) (k : V → Option β) : Option β := let a0_0 := e.1; let a0_1 := a0_0.2; let a0_2 := a0_1.2; let a0_3 := a0_2.2; let a0_4 := a0_3.2; let a0_5 := a0_4.2; let a0_6 := a0_5.2; let a0_7 := a0_6.2; let a1_0 := e.2.1; let a1_1 := a1_0.2; let a1_2 := a1_1.2; let a1_3 := a1_2.2; let a1_4 := a1_3.2; let a1_5 := a1_4.2; let a1_6 := a1_5.2; let a1_7 := a1_6.2; F β a0_0.1 a0_1.1 a0_2.1 a0_3.1 a0_4.1 a0_5.1 a0_6.1 a0_7.1 a1_0.1 a1_1.1 a1_2.1 a1_3.1 a1_4.1 a1_5.1 a1_6.1 a1_7.1 (fun y1 => k (.bool y1))
abbrev W128 (F : T128) : WT := wrap s128 (G128 F)
theorem k128 (F63 : T63) (β : Type) (e : argsT s128) (k : V → Option β) : fnK cfg (tabL [(63, W63 F63)]) noX 128 Tryz.f128 β (argsEnc s128 e) k = G128 (P128 F63 ) β e k := by kernel_rfl
theorem ok128 : FnOk D 128 (W128 F128) := fn_okW [(63, W63 F63)] noX (fun _ => rfl) Tryz.func128 rfl (tabL_cons ok63 tabL_nil) (k128 F63 )
abbrev T68 : Type 1 := (β : Type) → List V → List V → (Bool → Option β) → Option β
def P68 (F128 : T128) : T68 := fun β a b k =>
 br ((a.length : Int) != (b.length : Int)) (
 k false) (
 whileK (fun s1 =>
 br (decide ((lI s1 2) < ((lL s1 0).length : Int))) (
 chk (0 ≤ (lI s1 2)) <|
 idx true [.int .i64, .str, .str, .str, .int .i64, .bool, .int .i64, .str] (lL s1 0) ((lI s1 2).toNat) fun (e2 : Int × List UInt8 × List UInt8 × List UInt8 × Int × Bool × Int × List UInt8 × Unit) =>
 chk (0 ≤ (lI s1 2)) <|
 idx true [.int .i64, .str, .str, .str, .int .i64, .bool, .int .i64, .str] (lL s1 1) ((lI s1 2).toNat) fun (e3 : Int × List UInt8 × List UInt8 × List UInt8 × Int × Bool × Int × List UInt8 × Unit) =>
 F128 _ e2.1 e2.2.1 e2.2.2.1 e2.2.2.2.1 e2.2.2.2.2.1 e2.2.2.2.2.2.1 e2.2.2.2.2.2.2.1 e2.2.2.2.2.2.2.2.1 e3.1 e3.2.1 e3.2.2.1 e3.2.2.2.1 e3.2.2.2.2.1 e3.2.2.2.2.2.1 e3.2.2.2.2.2.2.1 e3.2.2.2.2.2.2.2.1 fun b4 =>
 br (!b4) (
 some (.inr (0, [.b false]))) (
 some (.inl [.l (lL s1 0), .l (lL s1 1), .i (IntKind.wrap .i64 ((lI s1 2) + 1))]))) (
 some (.inr (1, [])))) [.l a, .l b, .i 0] fun (r5 : Nat × List Leaf) =>
 if r5.1 = 0 then
 k (lB r5.2 0)
 else
 k true)
def F68 : T68 := P68 F128
def X68 : Exits := fun i => lookN i [] [(4, [(.ret, xk 27 [(4, .bool false)] []), (.exit 0, xk 27 [] [])])]
abbrev s68 : List (Bool × List CK) := [(false, [.sl 8 true]), (false, [.sl 8 true])]
def G68 (F : T68) (β : Type) (e : (List V × Unit) × (List V × Unit) × Unit) (k : V → Option β) : Option β := F β e.1.1 e.2.1.1 (fun y1 => k (.bool y1))
abbrev W68 (F : T68) : WT := wrap s68 (G68 F)
theorem k68 (F128 : T128) (β : Type) (e : argsT s68) (k : V → Option β) : fnK cfg (tabL [(128, W128 F128)]) X68 68 Tryz.f68 β (argsEnc s68 e) k = G68 (P68 F128 ) β e k := by kernel_rfl
theorem ok68 : FnOk D 68 (W68 F68) := fn_okW [(128, W128 F128)] X68 (fun _ => rfl) Tryz.func68 rfl (tabL_cons ok128 tabL_nil) (k68 F128 )
abbrev T129 : Type 1 := (β : Type) → List UInt8 → List UInt8 → Bool → Int → List UInt8 → List UInt8 → List UInt8 → Bool → Int → List UInt8 → (Bool → Option β) → Option β
def P129 (F63 : T63) : T129 := fun β a_To_Host a_To_Path a_Done a_Code a_Body b_To_Host b_To_Path b_Done b_Code b_Body k =>
 F63 _ a_To_Host a_To_Path b_To_Host b_To_Path fun b1 =>
 br (!b1) (
 k false) (
 br (!(a_Done == b_Done)) (
 k false) (
 br (a_Code != b_Code) (
 k false) (
 br (!(a_Body == b_Body)) (
 k false) (
 k true))))
def F129 : T129 := P129 F63
abbrev s129 : List (Bool × List CK) := [(true, [.str, .str, .bool, .int .i64, .str]), (true, [.str, .str, .bool, .int .i64, .str])]
def G129 (F : T129) (β : Type) (e : (List UInt8 × List UInt8 × Bool × Int × List UInt8 × Unit) × (List UInt8 × List UInt8 × Bool × Int × List UInt8 × Unit) × Unit) (k : V → Option β) : Option β := let a0_0 := e.1; let a0_1 := a0_0.2; let a0_2 := a0_1.2; let a0_3 := a0_2.2; let a0_4 := a0_3.2; let a1_0 := e.2.1; let a1_1 := a1_0.2; let a1_2 := a1_1.2; let a1_3 := a1_2.2; let a1_4 := a1_3.2; F β a0_0.1 a0_1.1 a0_2.1 a0_3.1 a0_4.1 a1_0.1 a1_1.1 a1_2.1 a1_3.1 a1_4.1 (fun y1 => k (.bool y1))
abbrev W129 (F : T129) : WT := wrap s129 (G129 F)
theorem k129 (F63 : T63) (β : Type) (e : argsT s129) (k : V → Option β) : fnK cfg (tabL [(63, W63 F63)]) noX 129 Tryz.f129 β (argsEnc s129 e) k = G129 (P129 F63 ) β e k := by kernel_rfl
theorem ok129 : FnOk D 129 (W129 F129) := fn_okW [(63, W63 F63)] noX (fun _ => rfl) Tryz.func129 rfl (tabL_cons ok63 tabL_nil) (k129 F63 )
abbrev T69 : Type 1 := (β : Type) → List V → List V → (Bool → Option β) → Option β
def P69 (F129 : T129) : T69 := fun β a b k =>
 br ((a.length : Int) != (b.length : Int)) (
 k false) (
 whileK (fun s1 =>
 br (decide ((lI s1 2) < ((lL s1 0).length : Int))) (
 chk (0 ≤ (lI s1 2)) <|
 idx true [.str, .str, .bool, .int .i64, .str] (lL s1 0) ((lI s1 2).toNat) fun (e2 : List UInt8 × List UInt8 × Bool × Int × List UInt8 × Unit) =>
 chk (0 ≤ (lI s1 2)) <|
 idx true [.str, .str, .bool, .int .i64, .str] (lL s1 1) ((lI s1 2).toNat) fun (e3 : List UInt8 × List UInt8 × Bool × Int × List UInt8 × Unit) =>
 F129 _ e2.1 e2.2.1 e2.2.2.1 e2.2.2.2.1 e2.2.2.2.2.1 e3.1 e3.2.1 e3.2.2.1 e3.2.2.2.1 e3.2.2.2.2.1 fun b4 =>
 br (!b4) (
 some (.inr (0, [.b false]))) (
 some (.inl [.l (lL s1 0), .l (lL s1 1), .i (IntKind.wrap .i64 ((lI s1 2) + 1))]))) (
 some (.inr (1, [])))) [.l a, .l b, .i 0] fun (r5 : Nat × List Leaf) =>
 if r5.1 = 0 then
 k (lB r5.2 0)
 else
 k true)
def F69 : T69 := P69 F129
def X69 : Exits := fun i => lookN i [] [(4, [(.ret, xk 27 [(4, .bool false)] []), (.exit 0, xk 27 [] [])])]
abbrev s69 : List (Bool × List CK) := [(false, [.sl 5 true]), (false, [.sl 5 true])]
def G69 (F : T69) (β : Type) (e : (List V × Unit) × (List V × Unit) × Unit) (k : V → Option β) : Option β := F β e.1.1 e.2.1.1 (fun y1 => k (.bool y1))
abbrev W69 (F : T69) : WT := wrap s69 (G69 F)
theorem k69 (F129 : T129) (β : Type) (e : argsT s69) (k : V → Option β) : fnK cfg (tabL [(129, W129 F129)]) X69 69 Tryz.f69 β (argsEnc s69 e) k = G69 (P69 F129 ) β e k := by kernel_rfl
theorem ok69 : FnOk D 69 (W69 F69) := fn_okW [(129, W129 F129)] X69 (fun _ => rfl) Tryz.func69 rfl (tabL_cons ok129 tabL_nil) (k69 F129 )
abbrev T24 : Type 1 := (β : Type) → List V → List V → (Bool → Option β) → Option β
def P24 (F63 : T63) : T24 := fun β a b k =>
 br ((a.length : Int) != (b.length : Int)) (
 k false) (
 whileK (fun s1 =>
 br (decide ((lI s1 2) < ((lL s1 0).length : Int))) (
 chk (0 ≤ (lI s1 2)) <|
 idx true [.str, .str] (lL s1 0) ((lI s1 2).toNat) fun (e2 : List UInt8 × List UInt8 × Unit) =>
 chk (0 ≤ (lI s1 2)) <|
 idx true [.str, .str] (lL s1 1) ((lI s1 2).toNat) fun (e3 : List UInt8 × List UInt8 × Unit) =>
 F63 _ e2.1 e2.2.1 e3.1 e3.2.1 fun b4 =>
 br (!b4) (
 some (.inr (0, [.b false]))) (
 some (.inl [.l (lL s1 0), .l (lL s1 1), .i (IntKind.wrap .i64 ((lI s1 2) + 1))]))) (
 some (.inr (1, [])))) [.l a, .l b, .i 0] fun (r5 : Nat × List Leaf) =>
 if r5.1 = 0 then
 k (lB r5.2 0)
 else
 k true)
def F24 : T24 := P24 F63
def X24 : Exits := fun i => lookN i [] [(4, [(.ret, xk 27 [(4, .bool false)] []), (.exit 0, xk 27 [] [])])]
abbrev s24 : List (Bool × List CK) := [(false, [.sl 2 true]), (false, [.sl 2 true])]
def G24 (F : T24) (β : Type) (e : (List V × Unit) × (List V × Unit) × Unit) (k : V → Option β) : Option β := F β e.1.1 e.2.1.1 (fun y1 => k (.bool y1))
abbrev W24 (F : T24) : WT := wrap s24 (G24 F)
theorem k24 (F63 : T63) (β : Type) (e : argsT s24) (k : V → Option β) : fnK cfg (tabL [(63, W63 F63)]) X24 24 Tryz.f24 β (argsEnc s24 e) k = G24 (P24 F63 ) β e k := by kernel_rfl
theorem ok24 : FnOk D 24 (W24 F24) := fn_okW [(63, W63 F63)] X24 (fun _ => rfl) Tryz.func24 rfl (tabL_cons ok63 tabL_nil) (k24 F63 )
abbrev T14 : Type 1 := (β : Type) → List UInt8 → List UInt8 → Bool → List V → List V → List V → List UInt8 → List UInt8 → List V → Bool → List V → List V → List V → List V → List V → Int → Int → Int → Int → List V → List V → Bool → List UInt8 → List UInt8 → Bool → List V → List V → List V → List UInt8 → List UInt8 → List V → Bool → List V → List V → List V → List V → List V → Int → Int → Int → Int → List V → List V → Bool → (Bool → Option β) → Option β
def P14 (F63 : T63) (F64 : T64) (F65 : T65) (F66 : T66) (F67 : T67) (F68 : T68) (F69 : T69) (F24 : T24) (F70 : T70) : T14 := fun β a_Addr_Host a_Addr_Path a_Policy_Set a_Policy_Scripts a_Policy_Styles a_Policy_Images a_Policy_Nonce a_Tok_Rest a_Queue a_Ended a_Builder_Nodes a_Builder_Open a_Slots a_Mods a_Entries a_Block a_Inline a_Deferred a_Entered a_Ran a_Log a_Loaded b_Addr_Host b_Addr_Path b_Policy_Set b_Policy_Scripts b_Policy_Styles b_Policy_Images b_Policy_Nonce b_Tok_Rest b_Queue b_Ended b_Builder_Nodes b_Builder_Open b_Slots b_Mods b_Entries b_Block b_Inline b_Deferred b_Entered b_Ran b_Log b_Loaded k =>
 F63 _ a_Addr_Host a_Addr_Path b_Addr_Host b_Addr_Path fun b1 =>
 br (!b1) (
 k false) (
 F64 _ a_Policy_Set a_Policy_Scripts a_Policy_Styles a_Policy_Images a_Policy_Nonce b_Policy_Set b_Policy_Scripts b_Policy_Styles b_Policy_Images b_Policy_Nonce fun b2 =>
 br (!b2) (
 k false) (
 F65 _ a_Tok_Rest b_Tok_Rest fun b3 =>
 br (!b3) (
 k false) (
 F66 _ a_Queue b_Queue fun b4 =>
 br (!b4) (
 k false) (
 br (!(a_Ended == b_Ended)) (
 k false) (
 F67 _ a_Builder_Nodes a_Builder_Open b_Builder_Nodes b_Builder_Open fun b5 =>
 br (!b5) (
 k false) (
 F68 _ a_Slots b_Slots fun b6 =>
 br (!b6) (
 k false) (
 F69 _ a_Mods b_Mods fun b7 =>
 br (!b7) (
 k false) (
 F24 _ a_Entries b_Entries fun b8 =>
 br (!b8) (
 k false) (
 br (a_Block != b_Block) (
 k false) (
 br (a_Inline != b_Inline) (
 k false) (
 br (a_Deferred != b_Deferred) (
 k false) (
 br (a_Entered != b_Entered) (
 k false) (
 F24 _ a_Ran b_Ran fun b9 =>
 br (!b9) (
 k false) (
 F70 _ a_Log b_Log fun b10 =>
 br (!b10) (
 k false) (
 br (!(a_Loaded == b_Loaded)) (
 k false) (
 k true))))))))))))))))
def F14 : T14 := P14 F63 F64 F65 F66 F67 F68 F69 F24 F70
abbrev s14 : List (Bool × List CK) := [(true, [.str, .str, .bool, .sl 1 true, .sl 1 true, .sl 1 true, .str, .str, .sl 4 false, .bool, .sl 4 false, .sl 1 true, .sl 8 true, .sl 5 true, .sl 2 true, .int .i64, .int .i64, .int .i64, .int .i64, .sl 2 true, .sl 1 true, .bool]), (true, [.str, .str, .bool, .sl 1 true, .sl 1 true, .sl 1 true, .str, .str, .sl 4 false, .bool, .sl 4 false, .sl 1 true, .sl 8 true, .sl 5 true, .sl 2 true, .int .i64, .int .i64, .int .i64, .int .i64, .sl 2 true, .sl 1 true, .bool])]
def G14 (F : T14) (β : Type) (e : (List UInt8 × List UInt8 × Bool × List V × List V × List V × List UInt8 × List UInt8 × List V × Bool × List V × List V × List V × List V × List V × Int × Int × Int × Int × List V × List V × Bool × Unit) × (List UInt8 × List UInt8 × Bool × List V × List V × List V × List UInt8 × List UInt8 × List V × Bool × List V × List V × List V × List V × List V × Int × Int × Int × Int × List V × List V × Bool × Unit) × Unit) (k : V → Option β) : Option β := let a0_0 := e.1; let a0_1 := a0_0.2; let a0_2 := a0_1.2; let a0_3 := a0_2.2; let a0_4 := a0_3.2; let a0_5 := a0_4.2; let a0_6 := a0_5.2; let a0_7 := a0_6.2; let a0_8 := a0_7.2; let a0_9 := a0_8.2; let a0_10 := a0_9.2; let a0_11 := a0_10.2; let a0_12 := a0_11.2; let a0_13 := a0_12.2; let a0_14 := a0_13.2; let a0_15 := a0_14.2; let a0_16 := a0_15.2; let a0_17 := a0_16.2; let a0_18 := a0_17.2; let a0_19 := a0_18.2; let a0_20 := a0_19.2; let a0_21 := a0_20.2; let a1_0 := e.2.1; let a1_1 := a1_0.2; let a1_2 := a1_1.2; let a1_3 := a1_2.2; let a1_4 := a1_3.2; let a1_5 := a1_4.2; let a1_6 := a1_5.2; let a1_7 := a1_6.2; let a1_8 := a1_7.2; let a1_9 := a1_8.2; let a1_10 := a1_9.2; let a1_11 := a1_10.2; let a1_12 := a1_11.2; let a1_13 := a1_12.2; let a1_14 := a1_13.2; let a1_15 := a1_14.2; let a1_16 := a1_15.2; let a1_17 := a1_16.2; let a1_18 := a1_17.2; let a1_19 := a1_18.2; let a1_20 := a1_19.2; let a1_21 := a1_20.2; F β a0_0.1 a0_1.1 a0_2.1 a0_3.1 a0_4.1 a0_5.1 a0_6.1 a0_7.1 a0_8.1 a0_9.1 a0_10.1 a0_11.1 a0_12.1 a0_13.1 a0_14.1 a0_15.1 a0_16.1 a0_17.1 a0_18.1 a0_19.1 a0_20.1 a0_21.1 a1_0.1 a1_1.1 a1_2.1 a1_3.1 a1_4.1 a1_5.1 a1_6.1 a1_7.1 a1_8.1 a1_9.1 a1_10.1 a1_11.1 a1_12.1 a1_13.1 a1_14.1 a1_15.1 a1_16.1 a1_17.1 a1_18.1 a1_19.1 a1_20.1 a1_21.1 (fun y1 => k (.bool y1))
abbrev W14 (F : T14) : WT := wrap s14 (G14 F)
theorem k14 (F63 : T63) (F64 : T64) (F65 : T65) (F66 : T66) (F67 : T67) (F68 : T68) (F69 : T69) (F24 : T24) (F70 : T70) (β : Type) (e : argsT s14) (k : V → Option β) : fnK cfg (tabL [(63, W63 F63), (64, W64 F64), (65, W65 F65), (66, W66 F66), (67, W67 F67), (68, W68 F68), (69, W69 F69), (24, W24 F24), (70, W70 F70)]) noX 14 Tryz.f14 β (argsEnc s14 e) k = G14 (P14 F63 F64 F65 F66 F67 F68 F69 F24 F70 ) β e k := by kernel_rfl
theorem ok14 : FnOk D 14 (W14 F14) := fn_okW [(63, W63 F63), (64, W64 F64), (65, W65 F65), (66, W66 F66), (67, W67 F67), (68, W68 F68), (69, W69 F69), (24, W24 F24), (70, W70 F70)] noX (fun _ => rfl) Tryz.func14 rfl (tabL_cons ok63 (tabL_cons ok64 (tabL_cons ok65 (tabL_cons ok66 (tabL_cons ok67 (tabL_cons ok68 (tabL_cons ok69 (tabL_cons ok24 (tabL_cons ok70 tabL_nil))))))))) (k14 F63 F64 F65 F66 F67 F68 F69 F24 F70 )
abbrev T124 : Type 1 := (β : Type) → List UInt8 → List UInt8 → List UInt8 → List UInt8 → Bool → List V → List V → List V → List UInt8 → List UInt8 → List V → Bool → List V → List V → List V → List V → List V → Int → Int → Int → Int → List V → List V → Bool → Bool → List UInt8 → List UInt8 → List UInt8 → List UInt8 → Bool → List V → List V → List V → List UInt8 → List UInt8 → List V → Bool → List V → List V → List V → List V → List V → Int → Int → Int → Int → List V → List V → Bool → Bool → (Bool → Option β) → Option β
def P124 (F63 : T63) (F14 : T14) : T124 := fun β a_Addr_Host a_Addr_Path a_Page_Addr_Host a_Page_Addr_Path a_Page_Policy_Set a_Page_Policy_Scripts a_Page_Policy_Styles a_Page_Policy_Images a_Page_Policy_Nonce a_Page_Tok_Rest a_Page_Queue a_Page_Ended a_Page_Builder_Nodes a_Page_Builder_Open a_Page_Slots a_Page_Mods a_Page_Entries a_Page_Block a_Page_Inline a_Page_Deferred a_Page_Entered a_Page_Ran a_Page_Log a_Page_Loaded a_Kept b_Addr_Host b_Addr_Path b_Page_Addr_Host b_Page_Addr_Path b_Page_Policy_Set b_Page_Policy_Scripts b_Page_Policy_Styles b_Page_Policy_Images b_Page_Policy_Nonce b_Page_Tok_Rest b_Page_Queue b_Page_Ended b_Page_Builder_Nodes b_Page_Builder_Open b_Page_Slots b_Page_Mods b_Page_Entries b_Page_Block b_Page_Inline b_Page_Deferred b_Page_Entered b_Page_Ran b_Page_Log b_Page_Loaded b_Kept k =>
 F63 _ a_Addr_Host a_Addr_Path b_Addr_Host b_Addr_Path fun b1 =>
 br (!b1) (
 k false) (
 F14 _ a_Page_Addr_Host a_Page_Addr_Path a_Page_Policy_Set a_Page_Policy_Scripts a_Page_Policy_Styles a_Page_Policy_Images a_Page_Policy_Nonce a_Page_Tok_Rest a_Page_Queue a_Page_Ended a_Page_Builder_Nodes a_Page_Builder_Open a_Page_Slots a_Page_Mods a_Page_Entries a_Page_Block a_Page_Inline a_Page_Deferred a_Page_Entered a_Page_Ran a_Page_Log a_Page_Loaded b_Page_Addr_Host b_Page_Addr_Path b_Page_Policy_Set b_Page_Policy_Scripts b_Page_Policy_Styles b_Page_Policy_Images b_Page_Policy_Nonce b_Page_Tok_Rest b_Page_Queue b_Page_Ended b_Page_Builder_Nodes b_Page_Builder_Open b_Page_Slots b_Page_Mods b_Page_Entries b_Page_Block b_Page_Inline b_Page_Deferred b_Page_Entered b_Page_Ran b_Page_Log b_Page_Loaded fun b2 =>
 br (!b2) (
 k false) (
 br (!(a_Kept == b_Kept)) (
 k false) (
 k true)))
def F124 : T124 := P124 F63 F14
abbrev s124 : List (Bool × List CK) := [(true, [.str, .str, .str, .str, .bool, .sl 1 true, .sl 1 true, .sl 1 true, .str, .str, .sl 4 false, .bool, .sl 4 false, .sl 1 true, .sl 8 true, .sl 5 true, .sl 2 true, .int .i64, .int .i64, .int .i64, .int .i64, .sl 2 true, .sl 1 true, .bool, .bool]), (true, [.str, .str, .str, .str, .bool, .sl 1 true, .sl 1 true, .sl 1 true, .str, .str, .sl 4 false, .bool, .sl 4 false, .sl 1 true, .sl 8 true, .sl 5 true, .sl 2 true, .int .i64, .int .i64, .int .i64, .int .i64, .sl 2 true, .sl 1 true, .bool, .bool])]
def G124 (F : T124) (β : Type) (e : (List UInt8 × List UInt8 × List UInt8 × List UInt8 × Bool × List V × List V × List V × List UInt8 × List UInt8 × List V × Bool × List V × List V × List V × List V × List V × Int × Int × Int × Int × List V × List V × Bool × Bool × Unit) × (List UInt8 × List UInt8 × List UInt8 × List UInt8 × Bool × List V × List V × List V × List UInt8 × List UInt8 × List V × Bool × List V × List V × List V × List V × List V × Int × Int × Int × Int × List V × List V × Bool × Bool × Unit) × Unit) (k : V → Option β) : Option β := let a0_0 := e.1; let a0_1 := a0_0.2; let a0_2 := a0_1.2; let a0_3 := a0_2.2; let a0_4 := a0_3.2; let a0_5 := a0_4.2; let a0_6 := a0_5.2; let a0_7 := a0_6.2; let a0_8 := a0_7.2; let a0_9 := a0_8.2; let a0_10 := a0_9.2; let a0_11 := a0_10.2; let a0_12 := a0_11.2; let a0_13 := a0_12.2; let a0_14 := a0_13.2; let a0_15 := a0_14.2; let a0_16 := a0_15.2; let a0_17 := a0_16.2; let a0_18 := a0_17.2; let a0_19 := a0_18.2; let a0_20 := a0_19.2; let a0_21 := a0_20.2; let a0_22 := a0_21.2; let a0_23 := a0_22.2; let a0_24 := a0_23.2; let a1_0 := e.2.1; let a1_1 := a1_0.2; let a1_2 := a1_1.2; let a1_3 := a1_2.2; let a1_4 := a1_3.2; let a1_5 := a1_4.2; let a1_6 := a1_5.2; let a1_7 := a1_6.2; let a1_8 := a1_7.2; let a1_9 := a1_8.2; let a1_10 := a1_9.2; let a1_11 := a1_10.2; let a1_12 := a1_11.2; let a1_13 := a1_12.2; let a1_14 := a1_13.2; let a1_15 := a1_14.2; let a1_16 := a1_15.2; let a1_17 := a1_16.2; let a1_18 := a1_17.2; let a1_19 := a1_18.2; let a1_20 := a1_19.2; let a1_21 := a1_20.2; let a1_22 := a1_21.2; let a1_23 := a1_22.2; let a1_24 := a1_23.2; F β a0_0.1 a0_1.1 a0_2.1 a0_3.1 a0_4.1 a0_5.1 a0_6.1 a0_7.1 a0_8.1 a0_9.1 a0_10.1 a0_11.1 a0_12.1 a0_13.1 a0_14.1 a0_15.1 a0_16.1 a0_17.1 a0_18.1 a0_19.1 a0_20.1 a0_21.1 a0_22.1 a0_23.1 a0_24.1 a1_0.1 a1_1.1 a1_2.1 a1_3.1 a1_4.1 a1_5.1 a1_6.1 a1_7.1 a1_8.1 a1_9.1 a1_10.1 a1_11.1 a1_12.1 a1_13.1 a1_14.1 a1_15.1 a1_16.1 a1_17.1 a1_18.1 a1_19.1 a1_20.1 a1_21.1 a1_22.1 a1_23.1 a1_24.1 (fun y1 => k (.bool y1))
abbrev W124 (F : T124) : WT := wrap s124 (G124 F)
theorem k124 (F63 : T63) (F14 : T14) (β : Type) (e : argsT s124) (k : V → Option β) : fnK cfg (tabL [(63, W63 F63), (14, W14 F14)]) noX 124 Tryz.f124 β (argsEnc s124 e) k = G124 (P124 F63 F14 ) β e k := by kernel_rfl
theorem ok124 : FnOk D 124 (W124 F124) := fn_okW [(63, W63 F63), (14, W14 F14)] noX (fun _ => rfl) Tryz.func124 rfl (tabL_cons ok63 (tabL_cons ok14 tabL_nil)) (k124 F63 F14 )
abbrev T62 : Type 1 := (β : Type) → List V → List V → (Bool → Option β) → Option β
def P62 (F124 : T124) : T62 := fun β a b k =>
 br ((a.length : Int) != (b.length : Int)) (
 k false) (
 whileK (fun s1 =>
 br (decide ((lI s1 2) < ((lL s1 0).length : Int))) (
 chk (0 ≤ (lI s1 2)) <|
 idx true [.str, .str, .str, .str, .bool, .sl 1 true, .sl 1 true, .sl 1 true, .str, .str, .sl 4 false, .bool, .sl 4 false, .sl 1 true, .sl 8 true, .sl 5 true, .sl 2 true, .int .i64, .int .i64, .int .i64, .int .i64, .sl 2 true, .sl 1 true, .bool, .bool] (lL s1 0) ((lI s1 2).toNat) fun (e2 : List UInt8 × List UInt8 × List UInt8 × List UInt8 × Bool × List V × List V × List V × List UInt8 × List UInt8 × List V × Bool × List V × List V × List V × List V × List V × Int × Int × Int × Int × List V × List V × Bool × Bool × Unit) =>
 chk (0 ≤ (lI s1 2)) <|
 idx true [.str, .str, .str, .str, .bool, .sl 1 true, .sl 1 true, .sl 1 true, .str, .str, .sl 4 false, .bool, .sl 4 false, .sl 1 true, .sl 8 true, .sl 5 true, .sl 2 true, .int .i64, .int .i64, .int .i64, .int .i64, .sl 2 true, .sl 1 true, .bool, .bool] (lL s1 1) ((lI s1 2).toNat) fun (e3 : List UInt8 × List UInt8 × List UInt8 × List UInt8 × Bool × List V × List V × List V × List UInt8 × List UInt8 × List V × Bool × List V × List V × List V × List V × List V × Int × Int × Int × Int × List V × List V × Bool × Bool × Unit) =>
 F124 _ e2.1 e2.2.1 e2.2.2.1 e2.2.2.2.1 e2.2.2.2.2.1 e2.2.2.2.2.2.1 e2.2.2.2.2.2.2.1 e2.2.2.2.2.2.2.2.1 e2.2.2.2.2.2.2.2.2.1 e2.2.2.2.2.2.2.2.2.2.1 e2.2.2.2.2.2.2.2.2.2.2.1 e2.2.2.2.2.2.2.2.2.2.2.2.1 e2.2.2.2.2.2.2.2.2.2.2.2.2.1 e2.2.2.2.2.2.2.2.2.2.2.2.2.2.1 e2.2.2.2.2.2.2.2.2.2.2.2.2.2.2.1 e2.2.2.2.2.2.2.2.2.2.2.2.2.2.2.2.1 e2.2.2.2.2.2.2.2.2.2.2.2.2.2.2.2.2.1 e2.2.2.2.2.2.2.2.2.2.2.2.2.2.2.2.2.2.1 e2.2.2.2.2.2.2.2.2.2.2.2.2.2.2.2.2.2.2.1 e2.2.2.2.2.2.2.2.2.2.2.2.2.2.2.2.2.2.2.2.1 e2.2.2.2.2.2.2.2.2.2.2.2.2.2.2.2.2.2.2.2.2.1 e2.2.2.2.2.2.2.2.2.2.2.2.2.2.2.2.2.2.2.2.2.2.1 e2.2.2.2.2.2.2.2.2.2.2.2.2.2.2.2.2.2.2.2.2.2.2.1 e2.2.2.2.2.2.2.2.2.2.2.2.2.2.2.2.2.2.2.2.2.2.2.2.1 e2.2.2.2.2.2.2.2.2.2.2.2.2.2.2.2.2.2.2.2.2.2.2.2.2.1 e3.1 e3.2.1 e3.2.2.1 e3.2.2.2.1 e3.2.2.2.2.1 e3.2.2.2.2.2.1 e3.2.2.2.2.2.2.1 e3.2.2.2.2.2.2.2.1 e3.2.2.2.2.2.2.2.2.1 e3.2.2.2.2.2.2.2.2.2.1 e3.2.2.2.2.2.2.2.2.2.2.1 e3.2.2.2.2.2.2.2.2.2.2.2.1 e3.2.2.2.2.2.2.2.2.2.2.2.2.1 e3.2.2.2.2.2.2.2.2.2.2.2.2.2.1 e3.2.2.2.2.2.2.2.2.2.2.2.2.2.2.1 e3.2.2.2.2.2.2.2.2.2.2.2.2.2.2.2.1 e3.2.2.2.2.2.2.2.2.2.2.2.2.2.2.2.2.1 e3.2.2.2.2.2.2.2.2.2.2.2.2.2.2.2.2.2.1 e3.2.2.2.2.2.2.2.2.2.2.2.2.2.2.2.2.2.2.1 e3.2.2.2.2.2.2.2.2.2.2.2.2.2.2.2.2.2.2.2.1 e3.2.2.2.2.2.2.2.2.2.2.2.2.2.2.2.2.2.2.2.2.1 e3.2.2.2.2.2.2.2.2.2.2.2.2.2.2.2.2.2.2.2.2.2.1 e3.2.2.2.2.2.2.2.2.2.2.2.2.2.2.2.2.2.2.2.2.2.2.1 e3.2.2.2.2.2.2.2.2.2.2.2.2.2.2.2.2.2.2.2.2.2.2.2.1 e3.2.2.2.2.2.2.2.2.2.2.2.2.2.2.2.2.2.2.2.2.2.2.2.2.1 fun b4 =>
 br (!b4) (
 some (.inr (0, [.b false]))) (
 some (.inl [.l (lL s1 0), .l (lL s1 1), .i (IntKind.wrap .i64 ((lI s1 2) + 1))]))) (
 some (.inr (1, [])))) [.l a, .l b, .i 0] fun (r5 : Nat × List Leaf) =>
 if r5.1 = 0 then
 k (lB r5.2 0)
 else
 k true)
def F62 : T62 := P62 F124
def X62 : Exits := fun i => lookN i [] [(4, [(.ret, xk 27 [(4, .bool false)] []), (.exit 0, xk 27 [] [])])]
abbrev s62 : List (Bool × List CK) := [(false, [.sl 25 false]), (false, [.sl 25 false])]
def G62 (F : T62) (β : Type) (e : (List V × Unit) × (List V × Unit) × Unit) (k : V → Option β) : Option β := F β e.1.1 e.2.1.1 (fun y1 => k (.bool y1))
abbrev W62 (F : T62) : WT := wrap s62 (G62 F)
theorem k62 (F124 : T124) (β : Type) (e : argsT s62) (k : V → Option β) : fnK cfg (tabL [(124, W124 F124)]) X62 62 Tryz.f62 β (argsEnc s62 e) k = G62 (P62 F124 ) β e k := by kernel_rfl
theorem ok62 : FnOk D 62 (W62 F62) := fn_okW [(124, W124 F124)] X62 (fun _ => rfl) Tryz.func62 rfl (tabL_cons ok124 tabL_nil) (k62 F124 )
abbrev T13 : Type 1 := (β : Type) → List V → Int → List V → Int → (Bool → Option β) → Option β
def P13 (F62 : T62) : T13 := fun β a_Visits a_At b_Visits b_At k =>
 F62 _ a_Visits b_Visits fun b1 =>
 br (!b1) (
 k false) (
 br (a_At != b_At) (
 k false) (
 k true))
def F13 : T13 := P13 F62
abbrev s13 : List (Bool × List CK) := [(true, [.sl 25 false, .int .i64]), (true, [.sl 25 false, .int .i64])]
def G13 (F : T13) (β : Type) (e : (List V × Int × Unit) × (List V × Int × Unit) × Unit) (k : V → Option β) : Option β := F β e.1.1 e.1.2.1 e.2.1.1 e.2.1.2.1 (fun y1 => k (.bool y1))
abbrev W13 (F : T13) : WT := wrap s13 (G13 F)
theorem k13 (F62 : T62) (β : Type) (e : argsT s13) (k : V → Option β) : fnK cfg (tabL [(62, W62 F62)]) noX 13 Tryz.f13 β (argsEnc s13 e) k = G13 (P13 F62 ) β e k := by kernel_rfl
theorem ok13 : FnOk D 13 (W13 F13) := fn_okW [(62, W62 F62)] noX (fun _ => rfl) Tryz.func13 rfl (tabL_cons ok62 tabL_nil) (k13 F62 )
abbrev T112 : Type 1 := (β : Type) → Bool → List V → List V → List V → List UInt8 → (Bool → List V → List V → List V → List UInt8 → Option β) → Option β
def P112 : T112 := fun β p_Set p_Scripts p_Styles p_Images p_Nonce k =>
 chk ((([] : List V).length + p_Scripts.length) * 16 ≤ 140737488355328 ∧ ([] : List V).length + p_Scripts.length ≤ 140737488355328) <|
 chk ((([] : List V).length + p_Styles.length) * 16 ≤ 140737488355328 ∧ ([] : List V).length + p_Styles.length ≤ 140737488355328) <|
 chk ((([] : List V).length + p_Images.length) * 16 ≤ 140737488355328 ∧ ([] : List V).length + p_Images.length ≤ 140737488355328) <|
 k p_Set (([] : List V) ++ p_Scripts) (([] : List V) ++ p_Styles) (([] : List V) ++ p_Images) p_Nonce
def F112 : T112 := P112
abbrev s112 : List (Bool × List CK) := [(true, [.bool, .sl 1 true, .sl 1 true, .sl 1 true, .str])]
def G112 (F : T112) (β : Type) (e : (Bool × List V × List V × List V × List UInt8 × Unit) × Unit) (k : V → Option β) : Option β := let a0_0 := e.1; let a0_1 := a0_0.2; let a0_2 := a0_1.2; let a0_3 := a0_2.2; let a0_4 := a0_3.2; F β a0_0.1 a0_1.1 a0_2.1 a0_3.1 a0_4.1 (fun y1 y2 y3 y4 y5 => k (.agg [.bool y1, .own 1 1 .flat y2, .own 2 1 .flat y3, .own 3 1 .flat y4, .str y5]))
abbrev W112 (F : T112) : WT := wrap s112 (G112 F)
theorem k112 (β : Type) (e : argsT s112) (k : V → Option β) : fnK cfg (tabL []) noX 112 Tryz.f112 β (argsEnc s112 e) k = G112 (P112 ) β e k := by kernel_rfl
theorem ok112 : FnOk D 112 (W112 F112) := fn_okW [] noX (fun _ => rfl) Tryz.func112 rfl (tabL_nil) (k112 )
abbrev T180 : Type 1 := (β : Type) → List V → (List V → Option β) → Option β
def P180 : T180 := fun β l k =>
 chk ((([] : List V).length + l.length) * 32 ≤ 140737488355328 ∧ ([] : List V).length + l.length ≤ 140737488355328) <|
 k (([] : List V) ++ l)
def F180 : T180 := P180
abbrev s180 : List (Bool × List CK) := [(false, [.sl 2 true])]
def G180 (F : T180) (β : Type) (e : (List V × Unit) × Unit) (k : V → Option β) : Option β := F β e.1.1 (fun y1 => k (.own 0 2 .flat y1))
abbrev W180 (F : T180) : WT := wrap s180 (G180 F)
theorem k180 (β : Type) (e : argsT s180) (k : V → Option β) : fnK cfg (tabL []) noX 180 Tryz.f180 β (argsEnc s180 e) k = G180 (P180 ) β e k := by kernel_rfl
theorem ok180 : FnOk D 180 (W180 F180) := fn_okW [] noX (fun _ => rfl) Tryz.func180 rfl (tabL_nil) (k180 )
abbrev T113 : Type 1 := (β : Type) → List V → (List V → Option β) → Option β
def P113 (F180 : T180) : T113 := fun β l k =>
 whileK (fun s1 =>
 br (decide ((lI s1 2) < ((lL s1 0).length : Int))) (
 chk (0 ≤ (lI s1 2)) <|
 idx true [.int .i64, .str, .sl 2 true, .str] (lL s1 0) ((lI s1 2).toNat) fun (e2 : Int × List UInt8 × List V × List UInt8 × Unit) =>
 chk (0 ≤ (lI s1 2)) <|
 idx true [.int .i64, .str, .sl 2 true, .str] (lL s1 0) ((lI s1 2).toNat) fun (e3 : Int × List UInt8 × List V × List UInt8 × Unit) =>
 F180 _ e3.2.2.1 fun l4 =>
 chk (((lL s1 1).length + ([.agg [.int .i64 e2.1, .str e2.2.1, .sl 2 true l4, .str e2.2.2.2.1]] : List V).length) * 64 ≤ 140737488355328 ∧ (lL s1 1).length + ([.agg [.int .i64 e2.1, .str e2.2.1, .sl 2 true l4, .str e2.2.2.2.1]] : List V).length ≤ 140737488355328) <|
 some (.inl [.l (lL s1 0), .l ((lL s1 1) ++ ([.agg [.int .i64 e2.1, .str e2.2.1, .sl 2 true l4, .str e2.2.2.2.1]] : List V)), .i (IntKind.wrap .i64 ((lI s1 2) + 1))])) (
 some (.inr (0, [.l (lL s1 1)])))) [.l l, .l [], .i 0] fun (r5 : Nat × List Leaf) =>
 k (lL r5.2 0)
def F113 : T113 := P113 F180
def X113 : Exits := fun i => lookN i [] [(3, [(.exit 0, xk 29 [(3, .own 1000000 4 .clean [])] [])])]
abbrev s113 : List (Bool × List CK) := [(false, [.sl 4 false])]
def G113 (F : T113) (β : Type) (e : (List V × Unit) × Unit) (k : V → Option β) : Option β := F β e.1.1 (fun y1 => k (.own 0 4 .clean y1))
abbrev W113 (F : T113) : WT := wrap s113 (G113 F)
theorem k113 (F180 : T180) (β : Type) (e : argsT s113) (k : V → Option β) : fnK cfg (tabL [(180, W180 F180)]) X113 113 Tryz.f113 β (argsEnc s113 e) k = G113 (P113 F180 ) β e k := by kernel_rfl
theorem ok113 : FnOk D 113 (W113 F113) := fn_okW [(180, W180 F180)] X113 (fun _ => rfl) Tryz.func113 rfl (tabL_cons ok180 tabL_nil) (k113 F180 )
abbrev T114 : Type 1 := (β : Type) → List V → List V → (List V → List V → Option β) → Option β
def P114 (F180 : T180) : T114 := fun β b_Nodes b_Open k =>
 chk ((([] : List V).length + b_Open.length) * 8 ≤ 140737488355328 ∧ ([] : List V).length + b_Open.length ≤ 140737488355328) <|
 whileK (fun s1 =>
 br (decide ((lI s1 0) < ((lL s1 1).length : Int))) (
 chk (0 ≤ (lI s1 0)) <|
 idx true [.str, .str, .int .i64, .sl 2 true] (lL s1 1) ((lI s1 0).toNat) fun (e2 : List UInt8 × List UInt8 × Int × List V × Unit) =>
 chk (0 ≤ (lI s1 0)) <|
 idx true [.str, .str, .int .i64, .sl 2 true] (lL s1 1) ((lI s1 0).toNat) fun (e3 : List UInt8 × List UInt8 × Int × List V × Unit) =>
 F180 _ e3.2.2.2.1 fun l4 =>
 chk (((lL s1 3).length + ([.agg [.str e2.1, .str e2.2.1, .int .i64 e2.2.2.1, .sl 2 true l4]] : List V).length) * 64 ≤ 140737488355328 ∧ (lL s1 3).length + ([.agg [.str e2.1, .str e2.2.1, .int .i64 e2.2.2.1, .sl 2 true l4]] : List V).length ≤ 140737488355328) <|
 some (.inl [.i (IntKind.wrap .i64 ((lI s1 0) + 1)), .l (lL s1 1), .l (lL s1 2), .l ((lL s1 3) ++ ([.agg [.str e2.1, .str e2.2.1, .int .i64 e2.2.2.1, .sl 2 true l4]] : List V)), .l (lL s1 4)])) (
 some (.inr (0, [.l (lL s1 3), .l (lL s1 4)])))) [.i 0, .l b_Nodes, .l b_Open, .l [], .l (([] : List V) ++ b_Open)] fun (r5 : Nat × List Leaf) =>
 k (lL r5.2 0) (lL r5.2 1)
def F114 : T114 := P114 F180
def X114 : Exits := fun i => lookN i [] [(3, [(.exit 0, xk 38 [(2, .ptr 2 0), (3, .ptr 3 0)] [(2, .agg [.nil, .nil]), (3, .agg [.own 1000000 4 .clean [], .own 1000001 1 .flat []])])])]
abbrev s114 : List (Bool × List CK) := [(true, [.sl 4 false, .sl 1 true])]
def G114 (F : T114) (β : Type) (e : (List V × List V × Unit) × Unit) (k : V → Option β) : Option β := F β e.1.1 e.1.2.1 (fun y1 y2 => k (.agg [.own 0 4 .clean y1, .own 1 1 .flat y2]))
abbrev W114 (F : T114) : WT := wrap s114 (G114 F)
theorem k114 (F180 : T180) (β : Type) (e : argsT s114) (k : V → Option β) : fnK cfg (tabL [(180, W180 F180)]) X114 114 Tryz.f114 β (argsEnc s114 e) k = G114 (P114 F180 ) β e k := by kernel_rfl
theorem ok114 : FnOk D 114 (W114 F114) := fn_okW [(180, W180 F180)] X114 (fun _ => rfl) Tryz.func114 rfl (tabL_cons ok180 tabL_nil) (k114 F180 )
abbrev T48 : Type 1 := (β : Type) → List UInt8 → List UInt8 → Bool → List V → List V → List V → List UInt8 → List UInt8 → List V → Bool → List V → List V → List V → List V → List V → Int → Int → Int → Int → List V → List V → Bool → (List UInt8 → List UInt8 → Bool → List V → List V → List V → List UInt8 → List UInt8 → List V → Bool → List V → List V → List V → List V → List V → Int → Int → Int → Int → List V → List V → Bool → Option β) → Option β
def P48 (F112 : T112) (F113 : T113) (F114 : T114) : T48 := fun β p_Addr_Host p_Addr_Path p_Policy_Set p_Policy_Scripts p_Policy_Styles p_Policy_Images p_Policy_Nonce p_Tok_Rest p_Queue p_Ended p_Builder_Nodes p_Builder_Open p_Slots p_Mods p_Entries p_Block p_Inline p_Deferred p_Entered p_Ran p_Log p_Loaded k =>
 F112 _ p_Policy_Set p_Policy_Scripts p_Policy_Styles p_Policy_Images p_Policy_Nonce fun b1 l2 l3 l4 t5 =>
 F113 _ p_Queue fun l6 =>
 F114 _ p_Builder_Nodes p_Builder_Open fun l7 l8 =>
 chk ((([] : List V).length + p_Slots.length) * 96 ≤ 140737488355328 ∧ ([] : List V).length + p_Slots.length ≤ 140737488355328) <|
 chk ((([] : List V).length + p_Mods.length) * 64 ≤ 140737488355328 ∧ ([] : List V).length + p_Mods.length ≤ 140737488355328) <|
 chk ((([] : List V).length + p_Entries.length) * 32 ≤ 140737488355328 ∧ ([] : List V).length + p_Entries.length ≤ 140737488355328) <|
 chk ((([] : List V).length + p_Ran.length) * 32 ≤ 140737488355328 ∧ ([] : List V).length + p_Ran.length ≤ 140737488355328) <|
 chk ((([] : List V).length + p_Log.length) * 16 ≤ 140737488355328 ∧ ([] : List V).length + p_Log.length ≤ 140737488355328) <|
 k p_Addr_Host p_Addr_Path b1 l2 l3 l4 t5 p_Tok_Rest l6 p_Ended l7 l8 (([] : List V) ++ p_Slots) (([] : List V) ++ p_Mods) (([] : List V) ++ p_Entries) p_Block p_Inline p_Deferred p_Entered (([] : List V) ++ p_Ran) (([] : List V) ++ p_Log) p_Loaded
def F48 : T48 := P48 F112 F113 F114
abbrev s48 : List (Bool × List CK) := [(true, [.str, .str, .bool, .sl 1 true, .sl 1 true, .sl 1 true, .str, .str, .sl 4 false, .bool, .sl 4 false, .sl 1 true, .sl 8 true, .sl 5 true, .sl 2 true, .int .i64, .int .i64, .int .i64, .int .i64, .sl 2 true, .sl 1 true, .bool])]
def G48 (F : T48) (β : Type) (e : (List UInt8 × List UInt8 × Bool × List V × List V × List V × List UInt8 × List UInt8 × List V × Bool × List V × List V × List V × List V × List V × Int × Int × Int × Int × List V × List V × Bool × Unit) × Unit) (k : V → Option β) : Option β := let a0_0 := e.1; let a0_1 := a0_0.2; let a0_2 := a0_1.2; let a0_3 := a0_2.2; let a0_4 := a0_3.2; let a0_5 := a0_4.2; let a0_6 := a0_5.2; let a0_7 := a0_6.2; let a0_8 := a0_7.2; let a0_9 := a0_8.2; let a0_10 := a0_9.2; let a0_11 := a0_10.2; let a0_12 := a0_11.2; let a0_13 := a0_12.2; let a0_14 := a0_13.2; let a0_15 := a0_14.2; let a0_16 := a0_15.2; let a0_17 := a0_16.2; let a0_18 := a0_17.2; let a0_19 := a0_18.2; let a0_20 := a0_19.2; let a0_21 := a0_20.2; F β a0_0.1 a0_1.1 a0_2.1 a0_3.1 a0_4.1 a0_5.1 a0_6.1 a0_7.1 a0_8.1 a0_9.1 a0_10.1 a0_11.1 a0_12.1 a0_13.1 a0_14.1 a0_15.1 a0_16.1 a0_17.1 a0_18.1 a0_19.1 a0_20.1 a0_21.1 (fun y1 y2 y3 y4 y5 y6 y7 y8 y9 y10 y11 y12 y13 y14 y15 y16 y17 y18 y19 y20 y21 y22 => k (.agg [.str y1, .str y2, .bool y3, .own 3 1 .flat y4, .own 4 1 .flat y5, .own 5 1 .flat y6, .str y7, .str y8, .own 8 4 .clean y9, .bool y10, .own 10 4 .clean y11, .own 11 1 .flat y12, .own 12 8 .flat y13, .own 13 5 .flat y14, .own 14 2 .flat y15, .int .i64 y16, .int .i64 y17, .int .i64 y18, .int .i64 y19, .own 19 2 .flat y20, .own 20 1 .flat y21, .bool y22]))
abbrev W48 (F : T48) : WT := wrap s48 (G48 F)
theorem k48 (F112 : T112) (F113 : T113) (F114 : T114) (β : Type) (e : argsT s48) (k : V → Option β) : fnK cfg (tabL [(112, W112 F112), (113, W113 F113), (114, W114 F114)]) noX 48 Tryz.f48 β (argsEnc s48 e) k = G48 (P48 F112 F113 F114 ) β e k := by kernel_rfl
theorem ok48 : FnOk D 48 (W48 F48) := fn_okW [(112, W112 F112), (113, W113 F113), (114, W114 F114)] noX (fun _ => rfl) Tryz.func48 rfl (tabL_cons ok112 (tabL_cons ok113 (tabL_cons ok114 tabL_nil))) (k48 F112 F113 F114 )
abbrev T46 : Type 1 := (β : Type) → List V → Int → (List V → Int → Option β) → Option β
def P46 (F48 : T48) : T46 := fun β t_Visits t_At k =>
 whileK (fun s1 =>
 br (decide ((lI s1 0) < ((lL s1 1).length : Int))) (
 chk (0 ≤ (lI s1 0)) <|
 idx true [.str, .str, .str, .str, .bool, .sl 1 true, .sl 1 true, .sl 1 true, .str, .str, .sl 4 false, .bool, .sl 4 false, .sl 1 true, .sl 8 true, .sl 5 true, .sl 2 true, .int .i64, .int .i64, .int .i64, .int .i64, .sl 2 true, .sl 1 true, .bool, .bool] (lL s1 1) ((lI s1 0).toNat) fun (e2 : List UInt8 × List UInt8 × List UInt8 × List UInt8 × Bool × List V × List V × List V × List UInt8 × List UInt8 × List V × Bool × List V × List V × List V × List V × List V × Int × Int × Int × Int × List V × List V × Bool × Bool × Unit) =>
 chk (0 ≤ (lI s1 0)) <|
 idx true [.str, .str, .str, .str, .bool, .sl 1 true, .sl 1 true, .sl 1 true, .str, .str, .sl 4 false, .bool, .sl 4 false, .sl 1 true, .sl 8 true, .sl 5 true, .sl 2 true, .int .i64, .int .i64, .int .i64, .int .i64, .sl 2 true, .sl 1 true, .bool, .bool] (lL s1 1) ((lI s1 0).toNat) fun (e3 : List UInt8 × List UInt8 × List UInt8 × List UInt8 × Bool × List V × List V × List V × List UInt8 × List UInt8 × List V × Bool × List V × List V × List V × List V × List V × Int × Int × Int × Int × List V × List V × Bool × Bool × Unit) =>
 F48 _ e3.2.2.1 e3.2.2.2.1 e3.2.2.2.2.1 e3.2.2.2.2.2.1 e3.2.2.2.2.2.2.1 e3.2.2.2.2.2.2.2.1 e3.2.2.2.2.2.2.2.2.1 e3.2.2.2.2.2.2.2.2.2.1 e3.2.2.2.2.2.2.2.2.2.2.1 e3.2.2.2.2.2.2.2.2.2.2.2.1 e3.2.2.2.2.2.2.2.2.2.2.2.2.1 e3.2.2.2.2.2.2.2.2.2.2.2.2.2.1 e3.2.2.2.2.2.2.2.2.2.2.2.2.2.2.1 e3.2.2.2.2.2.2.2.2.2.2.2.2.2.2.2.1 e3.2.2.2.2.2.2.2.2.2.2.2.2.2.2.2.2.1 e3.2.2.2.2.2.2.2.2.2.2.2.2.2.2.2.2.2.1 e3.2.2.2.2.2.2.2.2.2.2.2.2.2.2.2.2.2.2.1 e3.2.2.2.2.2.2.2.2.2.2.2.2.2.2.2.2.2.2.2.1 e3.2.2.2.2.2.2.2.2.2.2.2.2.2.2.2.2.2.2.2.2.1 e3.2.2.2.2.2.2.2.2.2.2.2.2.2.2.2.2.2.2.2.2.2.1 e3.2.2.2.2.2.2.2.2.2.2.2.2.2.2.2.2.2.2.2.2.2.2.1 e3.2.2.2.2.2.2.2.2.2.2.2.2.2.2.2.2.2.2.2.2.2.2.2.1 fun t4 t5 b6 l7 l8 l9 t10 t11 l12 b13 l14 l15 l16 l17 l18 n19 n20 n21 n22 l23 l24 b25 =>
 chk (((lL s1 4).length + ([.agg [.str e2.1, .str e2.2.1, .str t4, .str t5, .bool b6, .sl 1 true l7, .sl 1 true l8, .sl 1 true l9, .str t10, .str t11, .sl 4 false l12, .bool b13, .sl 4 false l14, .sl 1 true l15, .sl 8 true l16, .sl 5 true l17, .sl 2 true l18, .int .i64 n19, .int .i64 n20, .int .i64 n21, .int .i64 n22, .sl 2 true l23, .sl 1 true l24, .bool b25, .bool e2.2.2.2.2.2.2.2.2.2.2.2.2.2.2.2.2.2.2.2.2.2.2.2.2.1]] : List V).length) * 424 ≤ 140737488355328 ∧ (lL s1 4).length + ([.agg [.str e2.1, .str e2.2.1, .str t4, .str t5, .bool b6, .sl 1 true l7, .sl 1 true l8, .sl 1 true l9, .str t10, .str t11, .sl 4 false l12, .bool b13, .sl 4 false l14, .sl 1 true l15, .sl 8 true l16, .sl 5 true l17, .sl 2 true l18, .int .i64 n19, .int .i64 n20, .int .i64 n21, .int .i64 n22, .sl 2 true l23, .sl 1 true l24, .bool b25, .bool e2.2.2.2.2.2.2.2.2.2.2.2.2.2.2.2.2.2.2.2.2.2.2.2.2.1]] : List V).length ≤ 140737488355328) <|
 some (.inl [.i (IntKind.wrap .i64 ((lI s1 0) + 1)), .l (lL s1 1), .i (lI s1 2), .i (lI s1 3), .l ((lL s1 4) ++ ([.agg [.str e2.1, .str e2.2.1, .str t4, .str t5, .bool b6, .sl 1 true l7, .sl 1 true l8, .sl 1 true l9, .str t10, .str t11, .sl 4 false l12, .bool b13, .sl 4 false l14, .sl 1 true l15, .sl 8 true l16, .sl 5 true l17, .sl 2 true l18, .int .i64 n19, .int .i64 n20, .int .i64 n21, .int .i64 n22, .sl 2 true l23, .sl 1 true l24, .bool b25, .bool e2.2.2.2.2.2.2.2.2.2.2.2.2.2.2.2.2.2.2.2.2.2.2.2.2.1]] : List V)), .i (lI s1 5)])) (
 some (.inr (0, [.i (lI s1 3), .l (lL s1 4), .i (lI s1 5)])))) [.i 0, .l t_Visits, .i t_At, .i 0, .l [], .i t_At] fun (r26 : Nat × List Leaf) =>
 k (lL r26.2 1) (lI r26.2 2)
def F46 : T46 := P46 F48
def X46 : Exits := fun i => lookN i [] [(3, [(.exit 0, xk 36 [(2, .ptr 2 0), (3, .ptr 3 0)] [(2, .agg [.nil, .int .i64 0]), (3, .agg [.own 1000000 25 .clean [], .int .i64 0])])])]
abbrev s46 : List (Bool × List CK) := [(true, [.sl 25 false, .int .i64])]
def G46 (F : T46) (β : Type) (e : (List V × Int × Unit) × Unit) (k : V → Option β) : Option β := F β e.1.1 e.1.2.1 (fun y1 y2 => k (.agg [.own 0 25 .clean y1, .int .i64 y2]))
abbrev W46 (F : T46) : WT := wrap s46 (G46 F)
theorem k46 (F48 : T48) (β : Type) (e : argsT s46) (k : V → Option β) : fnK cfg (tabL [(48, W48 F48)]) X46 46 Tryz.f46 β (argsEnc s46 e) k = G46 (P46 F48 ) β e k := by kernel_rfl
theorem ok46 : FnOk D 46 (W46 F46) := fn_okW [(48, W48 F48)] X46 (fun _ => rfl) Tryz.func46 rfl (tabL_cons ok48 tabL_nil) (k46 F48 )
abbrev T47 : Type 1 := (β : Type) → Int → Int → Int → (Bool → Option β) → Option β
def P47 : T47 := fun β x least most k =>
 br (decide (x ≥ least)) (
 k (decide (x ≤ most))) (
 k false)
def F47 : T47 := P47
abbrev s47 : List (Bool × List CK) := [(false, [.int .i64]), (false, [.int .i64]), (false, [.int .i64])]
def G47 (F : T47) (β : Type) (e : (Int × Unit) × (Int × Unit) × (Int × Unit) × Unit) (k : V → Option β) : Option β := F β e.1.1 e.2.1.1 e.2.2.1.1 (fun y1 => k (.bool y1))
abbrev W47 (F : T47) : WT := wrap s47 (G47 F)
theorem k47 (β : Type) (e : argsT s47) (k : V → Option β) : fnK cfg (tabL []) noX 47 Tryz.f47 β (argsEnc s47 e) k = G47 (P47 ) β e k := by kernel_rfl
theorem ok47 : FnOk D 47 (W47 F47) := fn_okW [] noX (fun _ => rfl) Tryz.func47 rfl (tabL_nil) (k47 )
abbrev T139 : Type 1 := (β : Type) → List UInt8 → List UInt8 → Bool → List V → List V → List V → List UInt8 → List UInt8 → List V → Bool → List V → List V → List V → List V → List V → Int → Int → Int → Int → List V → List V → Bool → (Bool → Option β) → Option β
def P139 : T139 := fun β p_Addr_Host p_Addr_Path p_Policy_Set p_Policy_Scripts p_Policy_Styles p_Policy_Images p_Policy_Nonce p_Tok_Rest p_Queue p_Ended p_Builder_Nodes p_Builder_Open p_Slots p_Mods p_Entries p_Block p_Inline p_Deferred p_Entered p_Ran p_Log p_Loaded k =>
 k p_Loaded
def F139 : T139 := P139
abbrev s139 : List (Bool × List CK) := [(true, [.str, .str, .bool, .sl 1 true, .sl 1 true, .sl 1 true, .str, .str, .sl 4 false, .bool, .sl 4 false, .sl 1 true, .sl 8 true, .sl 5 true, .sl 2 true, .int .i64, .int .i64, .int .i64, .int .i64, .sl 2 true, .sl 1 true, .bool])]
def G139 (F : T139) (β : Type) (e : (List UInt8 × List UInt8 × Bool × List V × List V × List V × List UInt8 × List UInt8 × List V × Bool × List V × List V × List V × List V × List V × Int × Int × Int × Int × List V × List V × Bool × Unit) × Unit) (k : V → Option β) : Option β := let a0_0 := e.1; let a0_1 := a0_0.2; let a0_2 := a0_1.2; let a0_3 := a0_2.2; let a0_4 := a0_3.2; let a0_5 := a0_4.2; let a0_6 := a0_5.2; let a0_7 := a0_6.2; let a0_8 := a0_7.2; let a0_9 := a0_8.2; let a0_10 := a0_9.2; let a0_11 := a0_10.2; let a0_12 := a0_11.2; let a0_13 := a0_12.2; let a0_14 := a0_13.2; let a0_15 := a0_14.2; let a0_16 := a0_15.2; let a0_17 := a0_16.2; let a0_18 := a0_17.2; let a0_19 := a0_18.2; let a0_20 := a0_19.2; let a0_21 := a0_20.2; F β a0_0.1 a0_1.1 a0_2.1 a0_3.1 a0_4.1 a0_5.1 a0_6.1 a0_7.1 a0_8.1 a0_9.1 a0_10.1 a0_11.1 a0_12.1 a0_13.1 a0_14.1 a0_15.1 a0_16.1 a0_17.1 a0_18.1 a0_19.1 a0_20.1 a0_21.1 (fun y1 => k (.bool y1))
abbrev W139 (F : T139) : WT := wrap s139 (G139 F)
theorem k139 (β : Type) (e : argsT s139) (k : V → Option β) : fnK cfg (tabL []) noX 139 Tryz.f139 β (argsEnc s139 e) k = G139 (P139 ) β e k := by kernel_rfl
theorem ok139 : FnOk D 139 (W139 F139) := fn_okW [] noX (fun _ => rfl) Tryz.func139 rfl (tabL_nil) (k139 )
abbrev T79 : Type 1 := (β : Type) → List UInt8 → List UInt8 → Bool → List V → List V → List V → List UInt8 → List UInt8 → List V → Bool → List V → List V → List V → List V → List V → Int → Int → Int → Int → List V → List V → Bool → (Bool → Option β) → Option β
def P79 (F139 : T139) : T79 := fun β p_Addr_Host p_Addr_Path p_Policy_Set p_Policy_Scripts p_Policy_Styles p_Policy_Images p_Policy_Nonce p_Tok_Rest p_Queue p_Ended p_Builder_Nodes p_Builder_Open p_Slots p_Mods p_Entries p_Block p_Inline p_Deferred p_Entered p_Ran p_Log p_Loaded k =>
 F139 _ p_Addr_Host p_Addr_Path p_Policy_Set p_Policy_Scripts p_Policy_Styles p_Policy_Images p_Policy_Nonce p_Tok_Rest p_Queue p_Ended p_Builder_Nodes p_Builder_Open p_Slots p_Mods p_Entries p_Block p_Inline p_Deferred p_Entered p_Ran p_Log p_Loaded fun b1 =>
 k b1
def F79 : T79 := P79 F139
abbrev s79 : List (Bool × List CK) := [(true, [.str, .str, .bool, .sl 1 true, .sl 1 true, .sl 1 true, .str, .str, .sl 4 false, .bool, .sl 4 false, .sl 1 true, .sl 8 true, .sl 5 true, .sl 2 true, .int .i64, .int .i64, .int .i64, .int .i64, .sl 2 true, .sl 1 true, .bool])]
def G79 (F : T79) (β : Type) (e : (List UInt8 × List UInt8 × Bool × List V × List V × List V × List UInt8 × List UInt8 × List V × Bool × List V × List V × List V × List V × List V × Int × Int × Int × Int × List V × List V × Bool × Unit) × Unit) (k : V → Option β) : Option β := let a0_0 := e.1; let a0_1 := a0_0.2; let a0_2 := a0_1.2; let a0_3 := a0_2.2; let a0_4 := a0_3.2; let a0_5 := a0_4.2; let a0_6 := a0_5.2; let a0_7 := a0_6.2; let a0_8 := a0_7.2; let a0_9 := a0_8.2; let a0_10 := a0_9.2; let a0_11 := a0_10.2; let a0_12 := a0_11.2; let a0_13 := a0_12.2; let a0_14 := a0_13.2; let a0_15 := a0_14.2; let a0_16 := a0_15.2; let a0_17 := a0_16.2; let a0_18 := a0_17.2; let a0_19 := a0_18.2; let a0_20 := a0_19.2; let a0_21 := a0_20.2; F β a0_0.1 a0_1.1 a0_2.1 a0_3.1 a0_4.1 a0_5.1 a0_6.1 a0_7.1 a0_8.1 a0_9.1 a0_10.1 a0_11.1 a0_12.1 a0_13.1 a0_14.1 a0_15.1 a0_16.1 a0_17.1 a0_18.1 a0_19.1 a0_20.1 a0_21.1 (fun y1 => k (.bool y1))
abbrev W79 (F : T79) : WT := wrap s79 (G79 F)
theorem k79 (F139 : T139) (β : Type) (e : argsT s79) (k : V → Option β) : fnK cfg (tabL [(139, W139 F139)]) noX 79 Tryz.f79 β (argsEnc s79 e) k = G79 (P79 F139 ) β e k := by kernel_rfl
theorem ok79 : FnOk D 79 (W79 F79) := fn_okW [(139, W139 F139)] noX (fun _ => rfl) Tryz.func79 rfl (tabL_cons ok139 tabL_nil) (k79 F139 )
abbrev T80 : Type 1 := (β : Type) → List V → Int → Int → (List V → Int → Option β) → Option β
def P80 (F46 : T46) (F47 : T47) : T80 := fun β t_Visits t_At i k =>
 F46 _ t_Visits t_At fun l1 n2 =>
 F47 _ i 0 (IntKind.wrap .i64 ((t_Visits.length : Int) - 1)) fun b3 =>
 br (!b3) (
 k l1 n2) (
 chk (0 ≤ i ∧ i.toNat < l1.length) <|
 storeO l1 i.toNat 24 [.bool false] fun l4 =>
 chk (0 ≤ i ∧ i.toNat < l4.length) <|
 storeO l4 i.toNat 2 [.str [], .str [], .bool false, .sl 1 true [], .sl 1 true [], .sl 1 true [], .str [], .str [], .sl 4 false [], .bool false, .sl 4 false [], .sl 1 true [], .sl 8 true [], .sl 5 true [], .sl 2 true [], .int .i64 0, .int .i64 0, .int .i64 0, .int .i64 0, .sl 2 true [], .sl 1 true [], .bool false] fun l5 =>
 k l5 n2)
def F80 : T80 := P80 F46 F47
abbrev s80 : List (Bool × List CK) := [(true, [.sl 25 false, .int .i64]), (false, [.int .i64])]
def G80 (F : T80) (β : Type) (e : (List V × Int × Unit) × (Int × Unit) × Unit) (k : V → Option β) : Option β := F β e.1.1 e.1.2.1 e.2.1.1 (fun y1 y2 => k (.agg [.own 0 25 .clean y1, .int .i64 y2]))
abbrev W80 (F : T80) : WT := wrap s80 (G80 F)
theorem k80 (F46 : T46) (F47 : T47) (β : Type) (e : argsT s80) (k : V → Option β) : fnK cfg (tabL [(46, W46 F46), (47, W47 F47)]) noX 80 Tryz.f80 β (argsEnc s80 e) k = G80 (P80 F46 F47 ) β e k := by kernel_rfl
theorem ok80 : FnOk D 80 (W80 F80) := fn_okW [(46, W46 F46), (47, W47 F47)] noX (fun _ => rfl) Tryz.func80 rfl (tabL_cons ok46 (tabL_cons ok47 tabL_nil)) (k80 F46 F47 )
abbrev T81 : Type 1 := (β : Type) → List V → Int → (Int → Option β) → Option β
def P81 : T81 := fun β t_Visits t_At k =>
 whileK (fun s1 =>
 br (decide ((lI s1 1) < ((lL s1 2).length : Int))) (
 chk (0 ≤ (lI s1 1)) <|
 idx true [.str, .str, .str, .str, .bool, .sl 1 true, .sl 1 true, .sl 1 true, .str, .str, .sl 4 false, .bool, .sl 4 false, .sl 1 true, .sl 8 true, .sl 5 true, .sl 2 true, .int .i64, .int .i64, .int .i64, .int .i64, .sl 2 true, .sl 1 true, .bool, .bool] (lL s1 2) ((lI s1 1).toNat) fun (e2 : List UInt8 × List UInt8 × List UInt8 × List UInt8 × Bool × List V × List V × List V × List UInt8 × List UInt8 × List V × Bool × List V × List V × List V × List V × List V × Int × Int × Int × Int × List V × List V × Bool × Bool × Unit) =>
 br e2.2.2.2.2.2.2.2.2.2.2.2.2.2.2.2.2.2.2.2.2.2.2.2.2.1 (
 some (.inl [.i (IntKind.wrap .i64 ((lI s1 0) + 1)), .i (IntKind.wrap .i64 ((lI s1 1) + 1)), .l (lL s1 2), .i (lI s1 3)])) (
 some (.inl [.i (lI s1 0), .i (IntKind.wrap .i64 ((lI s1 1) + 1)), .l (lL s1 2), .i (lI s1 3)]))) (
 some (.inr (0, [.i (lI s1 0)])))) [.i 0, .i 0, .l t_Visits, .i t_At] fun (r3 : Nat × List Leaf) =>
 k (lI r3.2 0)
def F81 : T81 := P81
def X81 : Exits := fun i => lookN i [] [(3, [(.exit 0, xk 21 [(3, .int .i64 0)] [])])]
abbrev s81 : List (Bool × List CK) := [(true, [.sl 25 false, .int .i64])]
def G81 (F : T81) (β : Type) (e : (List V × Int × Unit) × Unit) (k : V → Option β) : Option β := F β e.1.1 e.1.2.1 (fun y1 => k (.int .i64 y1))
abbrev W81 (F : T81) : WT := wrap s81 (G81 F)
theorem k81 (β : Type) (e : argsT s81) (k : V → Option β) : fnK cfg (tabL []) X81 81 Tryz.f81 β (argsEnc s81 e) k = G81 (P81 ) β e k := by kernel_rfl
theorem ok81 : FnOk D 81 (W81 F81) := fn_okW [] X81 (fun _ => rfl) Tryz.func81 rfl (tabL_nil) (k81 )
abbrev T18 : Type 1 := (β : Type) → List V → Int → (List V → Int → Option β) → Option β
def P18 (F46 : T46) (F47 : T47) (F79 : T79) (F80 : T80) (F81 : T81) : T18 := fun β t_Visits t_At k =>
 F46 _ t_Visits t_At fun l1 n2 =>
 F47 _ t_At 0 (IntKind.wrap .i64 ((t_Visits.length : Int) - 1)) fun b3 =>
 br b3 (
 chk (0 ≤ t_At) <|
 idx true [.str, .str, .str, .str, .bool, .sl 1 true, .sl 1 true, .sl 1 true, .str, .str, .sl 4 false, .bool, .sl 4 false, .sl 1 true, .sl 8 true, .sl 5 true, .sl 2 true, .int .i64, .int .i64, .int .i64, .int .i64, .sl 2 true, .sl 1 true, .bool, .bool] t_Visits t_At.toNat fun (e4 : List UInt8 × List UInt8 × List UInt8 × List UInt8 × Bool × List V × List V × List V × List UInt8 × List UInt8 × List V × Bool × List V × List V × List V × List V × List V × Int × Int × Int × Int × List V × List V × Bool × Bool × Unit) =>
 F79 _ e4.2.2.1 e4.2.2.2.1 e4.2.2.2.2.1 e4.2.2.2.2.2.1 e4.2.2.2.2.2.2.1 e4.2.2.2.2.2.2.2.1 e4.2.2.2.2.2.2.2.2.1 e4.2.2.2.2.2.2.2.2.2.1 e4.2.2.2.2.2.2.2.2.2.2.1 e4.2.2.2.2.2.2.2.2.2.2.2.1 e4.2.2.2.2.2.2.2.2.2.2.2.2.1 e4.2.2.2.2.2.2.2.2.2.2.2.2.2.1 e4.2.2.2.2.2.2.2.2.2.2.2.2.2.2.1 e4.2.2.2.2.2.2.2.2.2.2.2.2.2.2.2.1 e4.2.2.2.2.2.2.2.2.2.2.2.2.2.2.2.2.1 e4.2.2.2.2.2.2.2.2.2.2.2.2.2.2.2.2.2.1 e4.2.2.2.2.2.2.2.2.2.2.2.2.2.2.2.2.2.2.1 e4.2.2.2.2.2.2.2.2.2.2.2.2.2.2.2.2.2.2.2.1 e4.2.2.2.2.2.2.2.2.2.2.2.2.2.2.2.2.2.2.2.2.1 e4.2.2.2.2.2.2.2.2.2.2.2.2.2.2.2.2.2.2.2.2.2.1 e4.2.2.2.2.2.2.2.2.2.2.2.2.2.2.2.2.2.2.2.2.2.2.1 e4.2.2.2.2.2.2.2.2.2.2.2.2.2.2.2.2.2.2.2.2.2.2.2.1 fun b5 =>
 br (!b5) (
 F80 _ l1 n2 t_At fun l6 n7 =>
 whileK (fun s8 =>
 br (decide ((lI s8 0) < ((lL s8 4).length : Int))) (
 F81 _ (lL s8 4) (lI s8 5) fun n9 =>
 br (decide (n9 > 3)) (
 chk (0 ≤ (lI s8 0) ∧ (lI s8 0).toNat < (lL s8 4).length) <|
 idxAt [.bool] (lL s8 4) ((lI s8 0).toNat) 24 fun (e10 : Bool × Unit) =>
 br e10.1 (
 br ((lI s8 0) != (lI s8 2)) (
 F80 _ (lL s8 4) (lI s8 5) (lI s8 0) fun l11 n12 =>
 some (.inl [.i (IntKind.wrap .i64 ((lI s8 0) + 1)), .l (lL s8 1), .i (lI s8 2), .i (lI s8 3), .l l11, .i n12])) (
 some (.inl [.i (IntKind.wrap .i64 ((lI s8 0) + 1)), .l (lL s8 1), .i (lI s8 2), .i (lI s8 3), .l (lL s8 4), .i (lI s8 5)]))) (
 some (.inl [.i (IntKind.wrap .i64 ((lI s8 0) + 1)), .l (lL s8 1), .i (lI s8 2), .i (lI s8 3), .l (lL s8 4), .i (lI s8 5)]))) (
 some (.inl [.i (IntKind.wrap .i64 ((lI s8 0) + 1)), .l (lL s8 1), .i (lI s8 2), .i (lI s8 3), .l (lL s8 4), .i (lI s8 5)]))) (
 some (.inr (0, [.i (lI s8 3), .l (lL s8 4), .i (lI s8 5)])))) [.i 0, .l t_Visits, .i t_At, .i 0, .l l6, .i n7] fun (r13 : Nat × List Leaf) =>
 k (lL r13.2 1) (lI r13.2 2)) (
 whileK (fun s14 =>
 br (decide ((lI s14 0) < ((lL s14 4).length : Int))) (
 F81 _ (lL s14 4) (lI s14 5) fun n15 =>
 br (decide (n15 > 3)) (
 chk (0 ≤ (lI s14 0) ∧ (lI s14 0).toNat < (lL s14 4).length) <|
 idxAt [.bool] (lL s14 4) ((lI s14 0).toNat) 24 fun (e16 : Bool × Unit) =>
 br e16.1 (
 br ((lI s14 0) != (lI s14 2)) (
 F80 _ (lL s14 4) (lI s14 5) (lI s14 0) fun l17 n18 =>
 some (.inl [.i (IntKind.wrap .i64 ((lI s14 0) + 1)), .l (lL s14 1), .i (lI s14 2), .i (lI s14 3), .l l17, .i n18])) (
 some (.inl [.i (IntKind.wrap .i64 ((lI s14 0) + 1)), .l (lL s14 1), .i (lI s14 2), .i (lI s14 3), .l (lL s14 4), .i (lI s14 5)]))) (
 some (.inl [.i (IntKind.wrap .i64 ((lI s14 0) + 1)), .l (lL s14 1), .i (lI s14 2), .i (lI s14 3), .l (lL s14 4), .i (lI s14 5)]))) (
 some (.inl [.i (IntKind.wrap .i64 ((lI s14 0) + 1)), .l (lL s14 1), .i (lI s14 2), .i (lI s14 3), .l (lL s14 4), .i (lI s14 5)]))) (
 some (.inr (0, [.i (lI s14 3), .l (lL s14 4), .i (lI s14 5)])))) [.i 0, .l t_Visits, .i t_At, .i 0, .l l1, .i n2] fun (r19 : Nat × List Leaf) =>
 k (lL r19.2 1) (lI r19.2 2))) (
 whileK (fun s20 =>
 br (decide ((lI s20 0) < ((lL s20 4).length : Int))) (
 F81 _ (lL s20 4) (lI s20 5) fun n21 =>
 br (decide (n21 > 3)) (
 chk (0 ≤ (lI s20 0) ∧ (lI s20 0).toNat < (lL s20 4).length) <|
 idxAt [.bool] (lL s20 4) ((lI s20 0).toNat) 24 fun (e22 : Bool × Unit) =>
 br e22.1 (
 br ((lI s20 0) != (lI s20 2)) (
 F80 _ (lL s20 4) (lI s20 5) (lI s20 0) fun l23 n24 =>
 some (.inl [.i (IntKind.wrap .i64 ((lI s20 0) + 1)), .l (lL s20 1), .i (lI s20 2), .i (lI s20 3), .l l23, .i n24])) (
 some (.inl [.i (IntKind.wrap .i64 ((lI s20 0) + 1)), .l (lL s20 1), .i (lI s20 2), .i (lI s20 3), .l (lL s20 4), .i (lI s20 5)]))) (
 some (.inl [.i (IntKind.wrap .i64 ((lI s20 0) + 1)), .l (lL s20 1), .i (lI s20 2), .i (lI s20 3), .l (lL s20 4), .i (lI s20 5)]))) (
 some (.inl [.i (IntKind.wrap .i64 ((lI s20 0) + 1)), .l (lL s20 1), .i (lI s20 2), .i (lI s20 3), .l (lL s20 4), .i (lI s20 5)]))) (
 some (.inr (0, [.i (lI s20 3), .l (lL s20 4), .i (lI s20 5)])))) [.i 0, .l t_Visits, .i t_At, .i 0, .l l1, .i n2] fun (r25 : Nat × List Leaf) =>
 k (lL r25.2 1) (lI r25.2 2))
def F18 : T18 := P18 F46 F47 F79 F80 F81
def X18 : Exits := fun i => lookN i [] [(5, [(.exit 0, xk 57 [(2, .ptr 2 0), (3, .ptr 3 0)] [(2, .agg [.nil, .int .i64 0]), (3, .agg [.own 1000000 25 .clean [], .int .i64 0])])])]
abbrev s18 : List (Bool × List CK) := [(true, [.sl 25 false, .int .i64])]
def G18 (F : T18) (β : Type) (e : (List V × Int × Unit) × Unit) (k : V → Option β) : Option β := F β e.1.1 e.1.2.1 (fun y1 y2 => k (.agg [.own 0 25 .clean y1, .int .i64 y2]))
abbrev W18 (F : T18) : WT := wrap s18 (G18 F)
theorem k18 (F46 : T46) (F47 : T47) (F79 : T79) (F80 : T80) (F81 : T81) (β : Type) (e : argsT s18) (k : V → Option β) : fnK cfg (tabL [(46, W46 F46), (47, W47 F47), (79, W79 F79), (80, W80 F80), (81, W81 F81)]) X18 18 Tryz.f18 β (argsEnc s18 e) k = G18 (P18 F46 F47 F79 F80 F81 ) β e k := by kernel_rfl
theorem ok18 : FnOk D 18 (W18 F18) := fn_okW [(46, W46 F46), (47, W47 F47), (79, W79 F79), (80, W80 F80), (81, W81 F81)] X18 (fun _ => rfl) Tryz.func18 rfl (tabL_cons ok46 (tabL_cons ok47 (tabL_cons ok79 (tabL_cons ok80 (tabL_cons ok81 tabL_nil))))) (k18 F46 F47 F79 F80 F81 )
abbrev T121 : Type 1 := (β : Type) → Bool → List V → List V → List V → List UInt8 → (Bool → List V → List V → List V → List UInt8 → Option β) → Option β
def P121 : T121 := fun β p_Set p_Scripts p_Styles p_Images p_Nonce k =>
 chk ((([] : List V).length + p_Scripts.length) * 16 ≤ 140737488355328 ∧ ([] : List V).length + p_Scripts.length ≤ 140737488355328) <|
 chk ((([] : List V).length + p_Styles.length) * 16 ≤ 140737488355328 ∧ ([] : List V).length + p_Styles.length ≤ 140737488355328) <|
 chk ((([] : List V).length + p_Images.length) * 16 ≤ 140737488355328 ∧ ([] : List V).length + p_Images.length ≤ 140737488355328) <|
 k p_Set (([] : List V) ++ p_Scripts) (([] : List V) ++ p_Styles) (([] : List V) ++ p_Images) p_Nonce
def F121 : T121 := P121
abbrev s121 : List (Bool × List CK) := [(true, [.bool, .sl 1 true, .sl 1 true, .sl 1 true, .str])]
def G121 (F : T121) (β : Type) (e : (Bool × List V × List V × List V × List UInt8 × Unit) × Unit) (k : V → Option β) : Option β := let a0_0 := e.1; let a0_1 := a0_0.2; let a0_2 := a0_1.2; let a0_3 := a0_2.2; let a0_4 := a0_3.2; F β a0_0.1 a0_1.1 a0_2.1 a0_3.1 a0_4.1 (fun y1 y2 y3 y4 y5 => k (.agg [.bool y1, .own 1 1 .flat y2, .own 2 1 .flat y3, .own 3 1 .flat y4, .str y5]))
abbrev W121 (F : T121) : WT := wrap s121 (G121 F)
theorem k121 (β : Type) (e : argsT s121) (k : V → Option β) : fnK cfg (tabL []) noX 121 Tryz.f121 β (argsEnc s121 e) k = G121 (P121 ) β e k := by kernel_rfl
theorem ok121 : FnOk D 121 (W121 F121) := fn_okW [] noX (fun _ => rfl) Tryz.func121 rfl (tabL_nil) (k121 )
abbrev T183 : Type 1 := (β : Type) → Int → List UInt8 → List V → List UInt8 → (Int → List UInt8 → List V → List UInt8 → Option β) → Option β
def P183 : T183 := fun β t_Kind t_Name t_Attrs t_Text k =>
 chk ((([] : List V).length + t_Attrs.length) * 32 ≤ 140737488355328 ∧ ([] : List V).length + t_Attrs.length ≤ 140737488355328) <|
 k t_Kind t_Name (([] : List V) ++ t_Attrs) t_Text
def F183 : T183 := P183
abbrev s183 : List (Bool × List CK) := [(true, [.int .i64, .str, .sl 2 true, .str])]
def G183 (F : T183) (β : Type) (e : (Int × List UInt8 × List V × List UInt8 × Unit) × Unit) (k : V → Option β) : Option β := F β e.1.1 e.1.2.1 e.1.2.2.1 e.1.2.2.2.1 (fun y1 y2 y3 y4 => k (.agg [.int .i64 y1, .str y2, .own 2 2 .flat y3, .str y4]))
abbrev W183 (F : T183) : WT := wrap s183 (G183 F)
theorem k183 (β : Type) (e : argsT s183) (k : V → Option β) : fnK cfg (tabL []) noX 183 Tryz.f183 β (argsEnc s183 e) k = G183 (P183 ) β e k := by kernel_rfl
theorem ok183 : FnOk D 183 (W183 F183) := fn_okW [] noX (fun _ => rfl) Tryz.func183 rfl (tabL_nil) (k183 )
abbrev T122 : Type 1 := (β : Type) → List V → (List V → Option β) → Option β
def P122 (F183 : T183) : T122 := fun β l k =>
 whileK (fun s1 =>
 br (decide ((lI s1 3) < (lI s1 2))) (
 chk (0 ≤ (lI s1 3)) <|
 idx true [.int .i64, .str, .sl 2 true, .str] (lL s1 1) ((lI s1 3).toNat) fun (e2 : Int × List UInt8 × List V × List UInt8 × Unit) =>
 F183 _ e2.1 e2.2.1 e2.2.2.1 e2.2.2.2.1 fun n3 t4 l5 t6 =>
 chk (((lL s1 0).length + ([.agg [.int .i64 n3, .str t4, .sl 2 true l5, .str t6]] : List V).length) * 64 ≤ 140737488355328 ∧ (lL s1 0).length + ([.agg [.int .i64 n3, .str t4, .sl 2 true l5, .str t6]] : List V).length ≤ 140737488355328) <|
 some (.inl [.l ((lL s1 0) ++ ([.agg [.int .i64 n3, .str t4, .sl 2 true l5, .str t6]] : List V)), .l (lL s1 1), .i (lI s1 2), .i (IntKind.wrap .i64 ((lI s1 3) + 1))])) (
 some (.inr (0, [.l (lL s1 0)])))) [.l [], .l l, .i (l.length : Int), .i 0] fun (r7 : Nat × List Leaf) =>
 k (lL r7.2 0)
def F122 : T122 := P122 F183
def X122 : Exits := fun i => lookN i [] [(3, [(.exit 0, xk 20 [(3, .own 1000000 4 .clean [])] [])])]
abbrev s122 : List (Bool × List CK) := [(false, [.sl 4 false])]
def G122 (F : T122) (β : Type) (e : (List V × Unit) × Unit) (k : V → Option β) : Option β := F β e.1.1 (fun y1 => k (.own 0 4 .clean y1))
abbrev W122 (F : T122) : WT := wrap s122 (G122 F)
theorem k122 (F183 : T183) (β : Type) (e : argsT s122) (k : V → Option β) : fnK cfg (tabL [(183, W183 F183)]) X122 122 Tryz.f122 β (argsEnc s122 e) k = G122 (P122 F183 ) β e k := by kernel_rfl
theorem ok122 : FnOk D 122 (W122 F122) := fn_okW [(183, W183 F183)] X122 (fun _ => rfl) Tryz.func122 rfl (tabL_cons ok183 tabL_nil) (k122 F183 )
abbrev T123 : Type 1 := (β : Type) → List V → List V → (List V → List V → Option β) → Option β
def P123 : T123 := fun β b_Nodes b_Open k =>
 chk ((([] : List V).length + b_Open.length) * 8 ≤ 140737488355328 ∧ ([] : List V).length + b_Open.length ≤ 140737488355328) <|
 whileK (fun s1 =>
 br (decide ((lI s1 2) < (lI s1 1))) (
 chk (0 ≤ (lI s1 2)) <|
 idx true [.str, .str, .int .i64, .sl 2 true] (lL s1 0) ((lI s1 2).toNat) fun (e2 : List UInt8 × List UInt8 × Int × List V × Unit) =>
 chk ((([] : List V).length + e2.2.2.2.1.length) * 32 ≤ 140737488355328 ∧ ([] : List V).length + e2.2.2.2.1.length ≤ 140737488355328) <|
 chk (((lL s1 3).length + ([.agg [.str e2.1, .str e2.2.1, .int .i64 e2.2.2.1, .sl 2 true (([] : List V) ++ e2.2.2.2.1)]] : List V).length) * 64 ≤ 140737488355328 ∧ (lL s1 3).length + ([.agg [.str e2.1, .str e2.2.1, .int .i64 e2.2.2.1, .sl 2 true (([] : List V) ++ e2.2.2.2.1)]] : List V).length ≤ 140737488355328) <|
 some (.inl [.l (lL s1 0), .i (lI s1 1), .i (IntKind.wrap .i64 ((lI s1 2) + 1)), .l ((lL s1 3) ++ ([.agg [.str e2.1, .str e2.2.1, .int .i64 e2.2.2.1, .sl 2 true (([] : List V) ++ e2.2.2.2.1)]] : List V)), .l (lL s1 4)])) (
 some (.inr (0, [.l (lL s1 3), .l (lL s1 4)])))) [.l b_Nodes, .i (b_Nodes.length : Int), .i 0, .l [], .l (([] : List V) ++ b_Open)] fun (r3 : Nat × List Leaf) =>
 k (lL r3.2 0) (lL r3.2 1)
def F123 : T123 := P123
def X123 : Exits := fun i => lookN i [] [(3, [(.exit 0, xk 31 [(2, .ptr 2 0), (3, .ptr 3 0)] [(2, .agg [.nil, .nil]), (3, .agg [.own 1000000 4 .clean [], .own 1000001 1 .flat []])])])]
abbrev s123 : List (Bool × List CK) := [(true, [.sl 4 false, .sl 1 true])]
def G123 (F : T123) (β : Type) (e : (List V × List V × Unit) × Unit) (k : V → Option β) : Option β := F β e.1.1 e.1.2.1 (fun y1 y2 => k (.agg [.own 0 4 .clean y1, .own 1 1 .flat y2]))
abbrev W123 (F : T123) : WT := wrap s123 (G123 F)
theorem k123 (β : Type) (e : argsT s123) (k : V → Option β) : fnK cfg (tabL []) X123 123 Tryz.f123 β (argsEnc s123 e) k = G123 (P123 ) β e k := by kernel_rfl
theorem ok123 : FnOk D 123 (W123 F123) := fn_okW [] X123 (fun _ => rfl) Tryz.func123 rfl (tabL_nil) (k123 )
abbrev T61 : Type 1 := (β : Type) → List UInt8 → List UInt8 → Bool → List V → List V → List V → List UInt8 → List UInt8 → List V → Bool → List V → List V → List V → List V → List V → Int → Int → Int → Int → List V → List V → Bool → (List UInt8 → List UInt8 → Bool → List V → List V → List V → List UInt8 → List UInt8 → List V → Bool → List V → List V → List V → List V → List V → Int → Int → Int → Int → List V → List V → Bool → Option β) → Option β
def P61 (F121 : T121) (F122 : T122) (F123 : T123) : T61 := fun β p_Addr_Host p_Addr_Path p_Policy_Set p_Policy_Scripts p_Policy_Styles p_Policy_Images p_Policy_Nonce p_Tok_Rest p_Queue p_Ended p_Builder_Nodes p_Builder_Open p_Slots p_Mods p_Entries p_Block p_Inline p_Deferred p_Entered p_Ran p_Log p_Loaded k =>
 F121 _ p_Policy_Set p_Policy_Scripts p_Policy_Styles p_Policy_Images p_Policy_Nonce fun b1 l2 l3 l4 t5 =>
 F122 _ p_Queue fun l6 =>
 F123 _ p_Builder_Nodes p_Builder_Open fun l7 l8 =>
 chk ((([] : List V).length + p_Slots.length) * 96 ≤ 140737488355328 ∧ ([] : List V).length + p_Slots.length ≤ 140737488355328) <|
 chk ((([] : List V).length + p_Mods.length) * 64 ≤ 140737488355328 ∧ ([] : List V).length + p_Mods.length ≤ 140737488355328) <|
 chk ((([] : List V).length + p_Entries.length) * 32 ≤ 140737488355328 ∧ ([] : List V).length + p_Entries.length ≤ 140737488355328) <|
 chk ((([] : List V).length + p_Ran.length) * 32 ≤ 140737488355328 ∧ ([] : List V).length + p_Ran.length ≤ 140737488355328) <|
 chk ((([] : List V).length + p_Log.length) * 16 ≤ 140737488355328 ∧ ([] : List V).length + p_Log.length ≤ 140737488355328) <|
 k p_Addr_Host p_Addr_Path b1 l2 l3 l4 t5 p_Tok_Rest l6 p_Ended l7 l8 (([] : List V) ++ p_Slots) (([] : List V) ++ p_Mods) (([] : List V) ++ p_Entries) p_Block p_Inline p_Deferred p_Entered (([] : List V) ++ p_Ran) (([] : List V) ++ p_Log) p_Loaded
def F61 : T61 := P61 F121 F122 F123
abbrev s61 : List (Bool × List CK) := [(true, [.str, .str, .bool, .sl 1 true, .sl 1 true, .sl 1 true, .str, .str, .sl 4 false, .bool, .sl 4 false, .sl 1 true, .sl 8 true, .sl 5 true, .sl 2 true, .int .i64, .int .i64, .int .i64, .int .i64, .sl 2 true, .sl 1 true, .bool])]
def G61 (F : T61) (β : Type) (e : (List UInt8 × List UInt8 × Bool × List V × List V × List V × List UInt8 × List UInt8 × List V × Bool × List V × List V × List V × List V × List V × Int × Int × Int × Int × List V × List V × Bool × Unit) × Unit) (k : V → Option β) : Option β := let a0_0 := e.1; let a0_1 := a0_0.2; let a0_2 := a0_1.2; let a0_3 := a0_2.2; let a0_4 := a0_3.2; let a0_5 := a0_4.2; let a0_6 := a0_5.2; let a0_7 := a0_6.2; let a0_8 := a0_7.2; let a0_9 := a0_8.2; let a0_10 := a0_9.2; let a0_11 := a0_10.2; let a0_12 := a0_11.2; let a0_13 := a0_12.2; let a0_14 := a0_13.2; let a0_15 := a0_14.2; let a0_16 := a0_15.2; let a0_17 := a0_16.2; let a0_18 := a0_17.2; let a0_19 := a0_18.2; let a0_20 := a0_19.2; let a0_21 := a0_20.2; F β a0_0.1 a0_1.1 a0_2.1 a0_3.1 a0_4.1 a0_5.1 a0_6.1 a0_7.1 a0_8.1 a0_9.1 a0_10.1 a0_11.1 a0_12.1 a0_13.1 a0_14.1 a0_15.1 a0_16.1 a0_17.1 a0_18.1 a0_19.1 a0_20.1 a0_21.1 (fun y1 y2 y3 y4 y5 y6 y7 y8 y9 y10 y11 y12 y13 y14 y15 y16 y17 y18 y19 y20 y21 y22 => k (.agg [.str y1, .str y2, .bool y3, .own 3 1 .flat y4, .own 4 1 .flat y5, .own 5 1 .flat y6, .str y7, .str y8, .own 8 4 .clean y9, .bool y10, .own 10 4 .clean y11, .own 11 1 .flat y12, .own 12 8 .flat y13, .own 13 5 .flat y14, .own 14 2 .flat y15, .int .i64 y16, .int .i64 y17, .int .i64 y18, .int .i64 y19, .own 19 2 .flat y20, .own 20 1 .flat y21, .bool y22]))
abbrev W61 (F : T61) : WT := wrap s61 (G61 F)
theorem k61 (F121 : T121) (F122 : T122) (F123 : T123) (β : Type) (e : argsT s61) (k : V → Option β) : fnK cfg (tabL [(121, W121 F121), (122, W122 F122), (123, W123 F123)]) noX 61 Tryz.f61 β (argsEnc s61 e) k = G61 (P61 F121 F122 F123 ) β e k := by kernel_rfl
theorem ok61 : FnOk D 61 (W61 F61) := fn_okW [(121, W121 F121), (122, W122 F122), (123, W123 F123)] noX (fun _ => rfl) Tryz.func61 rfl (tabL_cons ok121 (tabL_cons ok122 (tabL_cons ok123 tabL_nil))) (k61 F121 F122 F123 )
abbrev T59 : Type 1 := (β : Type) → List V → Int → (List V → Int → Option β) → Option β
def P59 (F61 : T61) : T59 := fun β t_Visits t_At k =>
 whileK (fun s1 =>
 br (decide ((lI s1 2) < (lI s1 1))) (
 chk (0 ≤ (lI s1 2)) <|
 idx true [.str, .str, .str, .str, .bool, .sl 1 true, .sl 1 true, .sl 1 true, .str, .str, .sl 4 false, .bool, .sl 4 false, .sl 1 true, .sl 8 true, .sl 5 true, .sl 2 true, .int .i64, .int .i64, .int .i64, .int .i64, .sl 2 true, .sl 1 true, .bool, .bool] (lL s1 0) ((lI s1 2).toNat) fun (e2 : List UInt8 × List UInt8 × List UInt8 × List UInt8 × Bool × List V × List V × List V × List UInt8 × List UInt8 × List V × Bool × List V × List V × List V × List V × List V × Int × Int × Int × Int × List V × List V × Bool × Bool × Unit) =>
 F61 _ e2.2.2.1 e2.2.2.2.1 e2.2.2.2.2.1 e2.2.2.2.2.2.1 e2.2.2.2.2.2.2.1 e2.2.2.2.2.2.2.2.1 e2.2.2.2.2.2.2.2.2.1 e2.2.2.2.2.2.2.2.2.2.1 e2.2.2.2.2.2.2.2.2.2.2.1 e2.2.2.2.2.2.2.2.2.2.2.2.1 e2.2.2.2.2.2.2.2.2.2.2.2.2.1 e2.2.2.2.2.2.2.2.2.2.2.2.2.2.1 e2.2.2.2.2.2.2.2.2.2.2.2.2.2.2.1 e2.2.2.2.2.2.2.2.2.2.2.2.2.2.2.2.1 e2.2.2.2.2.2.2.2.2.2.2.2.2.2.2.2.2.1 e2.2.2.2.2.2.2.2.2.2.2.2.2.2.2.2.2.2.1 e2.2.2.2.2.2.2.2.2.2.2.2.2.2.2.2.2.2.2.1 e2.2.2.2.2.2.2.2.2.2.2.2.2.2.2.2.2.2.2.2.1 e2.2.2.2.2.2.2.2.2.2.2.2.2.2.2.2.2.2.2.2.2.1 e2.2.2.2.2.2.2.2.2.2.2.2.2.2.2.2.2.2.2.2.2.2.1 e2.2.2.2.2.2.2.2.2.2.2.2.2.2.2.2.2.2.2.2.2.2.2.1 e2.2.2.2.2.2.2.2.2.2.2.2.2.2.2.2.2.2.2.2.2.2.2.2.1 fun t3 t4 b5 l6 l7 l8 t9 t10 l11 b12 l13 l14 l15 l16 l17 n18 n19 n20 n21 l22 l23 b24 =>
 chk (((lL s1 4).length + ([.agg [.str e2.1, .str e2.2.1, .str t3, .str t4, .bool b5, .sl 1 true l6, .sl 1 true l7, .sl 1 true l8, .str t9, .str t10, .sl 4 false l11, .bool b12, .sl 4 false l13, .sl 1 true l14, .sl 8 true l15, .sl 5 true l16, .sl 2 true l17, .int .i64 n18, .int .i64 n19, .int .i64 n20, .int .i64 n21, .sl 2 true l22, .sl 1 true l23, .bool b24, .bool e2.2.2.2.2.2.2.2.2.2.2.2.2.2.2.2.2.2.2.2.2.2.2.2.2.1]] : List V).length) * 424 ≤ 140737488355328 ∧ (lL s1 4).length + ([.agg [.str e2.1, .str e2.2.1, .str t3, .str t4, .bool b5, .sl 1 true l6, .sl 1 true l7, .sl 1 true l8, .str t9, .str t10, .sl 4 false l11, .bool b12, .sl 4 false l13, .sl 1 true l14, .sl 8 true l15, .sl 5 true l16, .sl 2 true l17, .int .i64 n18, .int .i64 n19, .int .i64 n20, .int .i64 n21, .sl 2 true l22, .sl 1 true l23, .bool b24, .bool e2.2.2.2.2.2.2.2.2.2.2.2.2.2.2.2.2.2.2.2.2.2.2.2.2.1]] : List V).length ≤ 140737488355328) <|
 some (.inl [.l (lL s1 0), .i (lI s1 1), .i (IntKind.wrap .i64 ((lI s1 2) + 1)), .i (lI s1 3), .l ((lL s1 4) ++ ([.agg [.str e2.1, .str e2.2.1, .str t3, .str t4, .bool b5, .sl 1 true l6, .sl 1 true l7, .sl 1 true l8, .str t9, .str t10, .sl 4 false l11, .bool b12, .sl 4 false l13, .sl 1 true l14, .sl 8 true l15, .sl 5 true l16, .sl 2 true l17, .int .i64 n18, .int .i64 n19, .int .i64 n20, .int .i64 n21, .sl 2 true l22, .sl 1 true l23, .bool b24, .bool e2.2.2.2.2.2.2.2.2.2.2.2.2.2.2.2.2.2.2.2.2.2.2.2.2.1]] : List V)), .i (lI s1 5)])) (
 some (.inr (0, [.i (lI s1 3), .l (lL s1 4), .i (lI s1 5)])))) [.l t_Visits, .i (t_Visits.length : Int), .i 0, .i 0, .l [], .i t_At] fun (r25 : Nat × List Leaf) =>
 k (lL r25.2 1) (lI r25.2 2)
def F59 : T59 := P59 F61
def X59 : Exits := fun i => lookN i [] [(3, [(.exit 0, xk 28 [(2, .ptr 2 0), (3, .ptr 3 0)] [(2, .agg [.nil, .int .i64 0]), (3, .agg [.own 1000000 25 .clean [], .int .i64 0])])])]
abbrev s59 : List (Bool × List CK) := [(true, [.sl 25 false, .int .i64])]
def G59 (F : T59) (β : Type) (e : (List V × Int × Unit) × Unit) (k : V → Option β) : Option β := F β e.1.1 e.1.2.1 (fun y1 y2 => k (.agg [.own 0 25 .clean y1, .int .i64 y2]))
abbrev W59 (F : T59) : WT := wrap s59 (G59 F)
theorem k59 (F61 : T61) (β : Type) (e : argsT s59) (k : V → Option β) : fnK cfg (tabL [(61, W61 F61)]) X59 59 Tryz.f59 β (argsEnc s59 e) k = G59 (P59 F61 ) β e k := by kernel_rfl
theorem ok59 : FnOk D 59 (W59 F59) := fn_okW [(61, W61 F61)] X59 (fun _ => rfl) Tryz.func59 rfl (tabL_cons ok61 tabL_nil) (k59 F61 )
abbrev T60 : Type 1 := (β : Type) → List V → Int → (Bool → Option β) → Option β
def P60 : T60 := fun β t_Visits t_At k =>
 br (decide (t_At ≥ 0)) (
 k (decide (t_At < (t_Visits.length : Int)))) (
 k false)
def F60 : T60 := P60
abbrev s60 : List (Bool × List CK) := [(true, [.sl 25 false, .int .i64])]
def G60 (F : T60) (β : Type) (e : (List V × Int × Unit) × Unit) (k : V → Option β) : Option β := F β e.1.1 e.1.2.1 (fun y1 => k (.bool y1))
abbrev W60 (F : T60) : WT := wrap s60 (G60 F)
theorem k60 (β : Type) (e : argsT s60) (k : V → Option β) : fnK cfg (tabL []) noX 60 Tryz.f60 β (argsEnc s60 e) k = G60 (P60 ) β e k := by kernel_rfl
theorem ok60 : FnOk D 60 (W60 F60) := fn_okW [] noX (fun _ => rfl) Tryz.func60 rfl (tabL_nil) (k60 )
abbrev T140 : Type 1 := (β : Type) → List UInt8 → List UInt8 → Bool → List V → List V → List V → List UInt8 → List UInt8 → List V → Bool → List V → List V → List V → List V → List V → Int → Int → Int → Int → List V → List V → Bool → (Bool → Option β) → Option β
def P140 : T140 := fun β p_Addr_Host p_Addr_Path p_Policy_Set p_Policy_Scripts p_Policy_Styles p_Policy_Images p_Policy_Nonce p_Tok_Rest p_Queue p_Ended p_Builder_Nodes p_Builder_Open p_Slots p_Mods p_Entries p_Block p_Inline p_Deferred p_Entered p_Ran p_Log p_Loaded k =>
 k p_Loaded
def F140 : T140 := P140
abbrev s140 : List (Bool × List CK) := [(true, [.str, .str, .bool, .sl 1 true, .sl 1 true, .sl 1 true, .str, .str, .sl 4 false, .bool, .sl 4 false, .sl 1 true, .sl 8 true, .sl 5 true, .sl 2 true, .int .i64, .int .i64, .int .i64, .int .i64, .sl 2 true, .sl 1 true, .bool])]
def G140 (F : T140) (β : Type) (e : (List UInt8 × List UInt8 × Bool × List V × List V × List V × List UInt8 × List UInt8 × List V × Bool × List V × List V × List V × List V × List V × Int × Int × Int × Int × List V × List V × Bool × Unit) × Unit) (k : V → Option β) : Option β := let a0_0 := e.1; let a0_1 := a0_0.2; let a0_2 := a0_1.2; let a0_3 := a0_2.2; let a0_4 := a0_3.2; let a0_5 := a0_4.2; let a0_6 := a0_5.2; let a0_7 := a0_6.2; let a0_8 := a0_7.2; let a0_9 := a0_8.2; let a0_10 := a0_9.2; let a0_11 := a0_10.2; let a0_12 := a0_11.2; let a0_13 := a0_12.2; let a0_14 := a0_13.2; let a0_15 := a0_14.2; let a0_16 := a0_15.2; let a0_17 := a0_16.2; let a0_18 := a0_17.2; let a0_19 := a0_18.2; let a0_20 := a0_19.2; let a0_21 := a0_20.2; F β a0_0.1 a0_1.1 a0_2.1 a0_3.1 a0_4.1 a0_5.1 a0_6.1 a0_7.1 a0_8.1 a0_9.1 a0_10.1 a0_11.1 a0_12.1 a0_13.1 a0_14.1 a0_15.1 a0_16.1 a0_17.1 a0_18.1 a0_19.1 a0_20.1 a0_21.1 (fun y1 => k (.bool y1))
abbrev W140 (F : T140) : WT := wrap s140 (G140 F)
theorem k140 (β : Type) (e : argsT s140) (k : V → Option β) : fnK cfg (tabL []) noX 140 Tryz.f140 β (argsEnc s140 e) k = G140 (P140 ) β e k := by kernel_rfl
theorem ok140 : FnOk D 140 (W140 F140) := fn_okW [] noX (fun _ => rfl) Tryz.func140 rfl (tabL_nil) (k140 )
abbrev T82 : Type 1 := (β : Type) → List UInt8 → List UInt8 → Bool → List V → List V → List V → List UInt8 → List UInt8 → List V → Bool → List V → List V → List V → List V → List V → Int → Int → Int → Int → List V → List V → Bool → (Bool → Option β) → Option β
def P82 (F140 : T140) : T82 := fun β p_Addr_Host p_Addr_Path p_Policy_Set p_Policy_Scripts p_Policy_Styles p_Policy_Images p_Policy_Nonce p_Tok_Rest p_Queue p_Ended p_Builder_Nodes p_Builder_Open p_Slots p_Mods p_Entries p_Block p_Inline p_Deferred p_Entered p_Ran p_Log p_Loaded k =>
 F140 _ p_Addr_Host p_Addr_Path p_Policy_Set p_Policy_Scripts p_Policy_Styles p_Policy_Images p_Policy_Nonce p_Tok_Rest p_Queue p_Ended p_Builder_Nodes p_Builder_Open p_Slots p_Mods p_Entries p_Block p_Inline p_Deferred p_Entered p_Ran p_Log p_Loaded fun b1 =>
 k b1
def F82 : T82 := P82 F140
abbrev s82 : List (Bool × List CK) := [(true, [.str, .str, .bool, .sl 1 true, .sl 1 true, .sl 1 true, .str, .str, .sl 4 false, .bool, .sl 4 false, .sl 1 true, .sl 8 true, .sl 5 true, .sl 2 true, .int .i64, .int .i64, .int .i64, .int .i64, .sl 2 true, .sl 1 true, .bool])]
def G82 (F : T82) (β : Type) (e : (List UInt8 × List UInt8 × Bool × List V × List V × List V × List UInt8 × List UInt8 × List V × Bool × List V × List V × List V × List V × List V × Int × Int × Int × Int × List V × List V × Bool × Unit) × Unit) (k : V → Option β) : Option β := let a0_0 := e.1; let a0_1 := a0_0.2; let a0_2 := a0_1.2; let a0_3 := a0_2.2; let a0_4 := a0_3.2; let a0_5 := a0_4.2; let a0_6 := a0_5.2; let a0_7 := a0_6.2; let a0_8 := a0_7.2; let a0_9 := a0_8.2; let a0_10 := a0_9.2; let a0_11 := a0_10.2; let a0_12 := a0_11.2; let a0_13 := a0_12.2; let a0_14 := a0_13.2; let a0_15 := a0_14.2; let a0_16 := a0_15.2; let a0_17 := a0_16.2; let a0_18 := a0_17.2; let a0_19 := a0_18.2; let a0_20 := a0_19.2; let a0_21 := a0_20.2; F β a0_0.1 a0_1.1 a0_2.1 a0_3.1 a0_4.1 a0_5.1 a0_6.1 a0_7.1 a0_8.1 a0_9.1 a0_10.1 a0_11.1 a0_12.1 a0_13.1 a0_14.1 a0_15.1 a0_16.1 a0_17.1 a0_18.1 a0_19.1 a0_20.1 a0_21.1 (fun y1 => k (.bool y1))
abbrev W82 (F : T82) : WT := wrap s82 (G82 F)
theorem k82 (F140 : T140) (β : Type) (e : argsT s82) (k : V → Option β) : fnK cfg (tabL [(140, W140 F140)]) noX 82 Tryz.f82 β (argsEnc s82 e) k = G82 (P82 F140 ) β e k := by kernel_rfl
theorem ok82 : FnOk D 82 (W82 F82) := fn_okW [(140, W140 F140)] noX (fun _ => rfl) Tryz.func82 rfl (tabL_cons ok140 tabL_nil) (k82 F140 )
abbrev T83 : Type 1 := (β : Type) → List V → Int → Int → (List V → Int → Option β) → Option β
def P83 (F59 : T59) : T83 := fun β t_Visits t_At i k =>
 F59 _ t_Visits t_At fun l1 n2 =>
 br (decide (i ≥ 0)) (
 br (decide (i < (t_Visits.length : Int))) (
 chk (0 ≤ i ∧ i.toNat < l1.length) <|
 storeO l1 i.toNat 24 [.bool false] fun l3 =>
 chk (0 ≤ i ∧ i.toNat < l3.length) <|
 storeO l3 i.toNat 2 [.str [], .str [], .bool false, .sl 1 true [], .sl 1 true [], .sl 1 true [], .str [], .str [], .sl 4 false [], .bool false, .sl 4 false [], .sl 1 true [], .sl 8 true [], .sl 5 true [], .sl 2 true [], .int .i64 0, .int .i64 0, .int .i64 0, .int .i64 0, .sl 2 true [], .sl 1 true [], .bool false] fun l4 =>
 k l4 n2) (
 k l1 n2)) (
 k l1 n2)
def F83 : T83 := P83 F59
abbrev s83 : List (Bool × List CK) := [(true, [.sl 25 false, .int .i64]), (false, [.int .i64])]
def G83 (F : T83) (β : Type) (e : (List V × Int × Unit) × (Int × Unit) × Unit) (k : V → Option β) : Option β := F β e.1.1 e.1.2.1 e.2.1.1 (fun y1 y2 => k (.agg [.own 0 25 .clean y1, .int .i64 y2]))
abbrev W83 (F : T83) : WT := wrap s83 (G83 F)
theorem k83 (F59 : T59) (β : Type) (e : argsT s83) (k : V → Option β) : fnK cfg (tabL [(59, W59 F59)]) noX 83 Tryz.f83 β (argsEnc s83 e) k = G83 (P83 F59 ) β e k := by kernel_rfl
theorem ok83 : FnOk D 83 (W83 F83) := fn_okW [(59, W59 F59)] noX (fun _ => rfl) Tryz.func83 rfl (tabL_cons ok59 tabL_nil) (k83 F59 )
abbrev T84 : Type 1 := (β : Type) → List V → Int → (Int → Option β) → Option β
def P84 : T84 := fun β t_Visits t_At k =>
 whileK (fun s1 =>
 br (decide ((lI s1 3) < (lI s1 2))) (
 chk (0 ≤ (lI s1 3)) <|
 idx true [.str, .str, .str, .str, .bool, .sl 1 true, .sl 1 true, .sl 1 true, .str, .str, .sl 4 false, .bool, .sl 4 false, .sl 1 true, .sl 8 true, .sl 5 true, .sl 2 true, .int .i64, .int .i64, .int .i64, .int .i64, .sl 2 true, .sl 1 true, .bool, .bool] (lL s1 1) ((lI s1 3).toNat) fun (e2 : List UInt8 × List UInt8 × List UInt8 × List UInt8 × Bool × List V × List V × List V × List UInt8 × List UInt8 × List V × Bool × List V × List V × List V × List V × List V × Int × Int × Int × Int × List V × List V × Bool × Bool × Unit) =>
 br e2.2.2.2.2.2.2.2.2.2.2.2.2.2.2.2.2.2.2.2.2.2.2.2.2.1 (
 some (.inl [.i (IntKind.wrap .i64 ((lI s1 0) + 1)), .l (lL s1 1), .i (lI s1 2), .i (IntKind.wrap .i64 ((lI s1 3) + 1))])) (
 some (.inl [.i (lI s1 0), .l (lL s1 1), .i (lI s1 2), .i (IntKind.wrap .i64 ((lI s1 3) + 1))]))) (
 some (.inr (0, [.i (lI s1 0)])))) [.i 0, .l t_Visits, .i (t_Visits.length : Int), .i 0] fun (r3 : Nat × List Leaf) =>
 k (lI r3.2 0)
def F84 : T84 := P84
def X84 : Exits := fun i => lookN i [] [(3, [(.exit 0, xk 19 [(3, .int .i64 0)] [])])]
abbrev s84 : List (Bool × List CK) := [(true, [.sl 25 false, .int .i64])]
def G84 (F : T84) (β : Type) (e : (List V × Int × Unit) × Unit) (k : V → Option β) : Option β := F β e.1.1 e.1.2.1 (fun y1 => k (.int .i64 y1))
abbrev W84 (F : T84) : WT := wrap s84 (G84 F)
theorem k84 (β : Type) (e : argsT s84) (k : V → Option β) : fnK cfg (tabL []) X84 84 Tryz.f84 β (argsEnc s84 e) k = G84 (P84 ) β e k := by kernel_rfl
theorem ok84 : FnOk D 84 (W84 F84) := fn_okW [] X84 (fun _ => rfl) Tryz.func84 rfl (tabL_nil) (k84 )
abbrev T19 : Type 1 := (β : Type) → List V → Int → (List V → Int → Option β) → Option β
def P19 (F59 : T59) (F60 : T60) (F82 : T82) (F83 : T83) (F84 : T84) : T19 := fun β t_Visits t_At k =>
 F59 _ t_Visits t_At fun l1 n2 =>
 F60 _ t_Visits t_At fun b3 =>
 br b3 (
 chk (0 ≤ t_At) <|
 idx true [.str, .str, .str, .str, .bool, .sl 1 true, .sl 1 true, .sl 1 true, .str, .str, .sl 4 false, .bool, .sl 4 false, .sl 1 true, .sl 8 true, .sl 5 true, .sl 2 true, .int .i64, .int .i64, .int .i64, .int .i64, .sl 2 true, .sl 1 true, .bool, .bool] t_Visits t_At.toNat fun (e4 : List UInt8 × List UInt8 × List UInt8 × List UInt8 × Bool × List V × List V × List V × List UInt8 × List UInt8 × List V × Bool × List V × List V × List V × List V × List V × Int × Int × Int × Int × List V × List V × Bool × Bool × Unit) =>
 F82 _ e4.2.2.1 e4.2.2.2.1 e4.2.2.2.2.1 e4.2.2.2.2.2.1 e4.2.2.2.2.2.2.1 e4.2.2.2.2.2.2.2.1 e4.2.2.2.2.2.2.2.2.1 e4.2.2.2.2.2.2.2.2.2.1 e4.2.2.2.2.2.2.2.2.2.2.1 e4.2.2.2.2.2.2.2.2.2.2.2.1 e4.2.2.2.2.2.2.2.2.2.2.2.2.1 e4.2.2.2.2.2.2.2.2.2.2.2.2.2.1 e4.2.2.2.2.2.2.2.2.2.2.2.2.2.2.1 e4.2.2.2.2.2.2.2.2.2.2.2.2.2.2.2.1 e4.2.2.2.2.2.2.2.2.2.2.2.2.2.2.2.2.1 e4.2.2.2.2.2.2.2.2.2.2.2.2.2.2.2.2.2.1 e4.2.2.2.2.2.2.2.2.2.2.2.2.2.2.2.2.2.2.1 e4.2.2.2.2.2.2.2.2.2.2.2.2.2.2.2.2.2.2.2.1 e4.2.2.2.2.2.2.2.2.2.2.2.2.2.2.2.2.2.2.2.2.1 e4.2.2.2.2.2.2.2.2.2.2.2.2.2.2.2.2.2.2.2.2.2.1 e4.2.2.2.2.2.2.2.2.2.2.2.2.2.2.2.2.2.2.2.2.2.2.1 e4.2.2.2.2.2.2.2.2.2.2.2.2.2.2.2.2.2.2.2.2.2.2.2.1 fun b5 =>
 br (!b5) (
 F83 _ l1 n2 t_At fun l6 n7 =>
 whileK (fun s8 =>
 br (decide ((lI s8 0) < ((lL s8 2).length : Int))) (
 F84 _ (lL s8 2) (lI s8 3) fun n9 =>
 br (decide (n9 > 3)) (
 chk (0 ≤ (lI s8 0) ∧ (lI s8 0).toNat < (lL s8 2).length) <|
 idxAt [.bool] (lL s8 2) ((lI s8 0).toNat) 24 fun (e10 : Bool × Unit) =>
 br e10.1 (
 br ((lI s8 0) != (lI s8 3)) (
 F83 _ (lL s8 2) (lI s8 3) (lI s8 0) fun l11 n12 =>
 some (.inl [.i (IntKind.wrap .i64 ((lI s8 0) + 1)), .i (lI s8 1), .l l11, .i n12])) (
 some (.inl [.i (IntKind.wrap .i64 ((lI s8 0) + 1)), .i (lI s8 1), .l (lL s8 2), .i (lI s8 3)]))) (
 some (.inl [.i (IntKind.wrap .i64 ((lI s8 0) + 1)), .i (lI s8 1), .l (lL s8 2), .i (lI s8 3)]))) (
 some (.inr (0, [.i (lI s8 1), .l (lL s8 2), .i (lI s8 3)])))) (
 some (.inr (0, [.i (lI s8 1), .l (lL s8 2), .i (lI s8 3)])))) [.i 0, .i 0, .l l6, .i n7] fun (r13 : Nat × List Leaf) =>
 k (lL r13.2 1) (lI r13.2 2)) (
 whileK (fun s14 =>
 br (decide ((lI s14 0) < ((lL s14 2).length : Int))) (
 F84 _ (lL s14 2) (lI s14 3) fun n15 =>
 br (decide (n15 > 3)) (
 chk (0 ≤ (lI s14 0) ∧ (lI s14 0).toNat < (lL s14 2).length) <|
 idxAt [.bool] (lL s14 2) ((lI s14 0).toNat) 24 fun (e16 : Bool × Unit) =>
 br e16.1 (
 br ((lI s14 0) != (lI s14 3)) (
 F83 _ (lL s14 2) (lI s14 3) (lI s14 0) fun l17 n18 =>
 some (.inl [.i (IntKind.wrap .i64 ((lI s14 0) + 1)), .i (lI s14 1), .l l17, .i n18])) (
 some (.inl [.i (IntKind.wrap .i64 ((lI s14 0) + 1)), .i (lI s14 1), .l (lL s14 2), .i (lI s14 3)]))) (
 some (.inl [.i (IntKind.wrap .i64 ((lI s14 0) + 1)), .i (lI s14 1), .l (lL s14 2), .i (lI s14 3)]))) (
 some (.inr (0, [.i (lI s14 1), .l (lL s14 2), .i (lI s14 3)])))) (
 some (.inr (0, [.i (lI s14 1), .l (lL s14 2), .i (lI s14 3)])))) [.i 0, .i 0, .l l1, .i n2] fun (r19 : Nat × List Leaf) =>
 k (lL r19.2 1) (lI r19.2 2))) (
 whileK (fun s20 =>
 br (decide ((lI s20 0) < ((lL s20 2).length : Int))) (
 F84 _ (lL s20 2) (lI s20 3) fun n21 =>
 br (decide (n21 > 3)) (
 chk (0 ≤ (lI s20 0) ∧ (lI s20 0).toNat < (lL s20 2).length) <|
 idxAt [.bool] (lL s20 2) ((lI s20 0).toNat) 24 fun (e22 : Bool × Unit) =>
 br e22.1 (
 br ((lI s20 0) != (lI s20 3)) (
 F83 _ (lL s20 2) (lI s20 3) (lI s20 0) fun l23 n24 =>
 some (.inl [.i (IntKind.wrap .i64 ((lI s20 0) + 1)), .i (lI s20 1), .l l23, .i n24])) (
 some (.inl [.i (IntKind.wrap .i64 ((lI s20 0) + 1)), .i (lI s20 1), .l (lL s20 2), .i (lI s20 3)]))) (
 some (.inl [.i (IntKind.wrap .i64 ((lI s20 0) + 1)), .i (lI s20 1), .l (lL s20 2), .i (lI s20 3)]))) (
 some (.inr (0, [.i (lI s20 1), .l (lL s20 2), .i (lI s20 3)])))) (
 some (.inr (0, [.i (lI s20 1), .l (lL s20 2), .i (lI s20 3)])))) [.i 0, .i 0, .l l1, .i n2] fun (r25 : Nat × List Leaf) =>
 k (lL r25.2 1) (lI r25.2 2))
def F19 : T19 := P19 F59 F60 F82 F83 F84
def X19 : Exits := fun i => lookN i [] [(5, [(.exit 0, xk 52 [(2, .ptr 2 0), (3, .ptr 3 0)] [(2, .agg [.nil, .int .i64 0]), (3, .agg [.own 1000000 25 .clean [], .int .i64 0])])])]
abbrev s19 : List (Bool × List CK) := [(true, [.sl 25 false, .int .i64])]
def G19 (F : T19) (β : Type) (e : (List V × Int × Unit) × Unit) (k : V → Option β) : Option β := F β e.1.1 e.1.2.1 (fun y1 y2 => k (.agg [.own 0 25 .clean y1, .int .i64 y2]))
abbrev W19 (F : T19) : WT := wrap s19 (G19 F)
theorem k19 (F59 : T59) (F60 : T60) (F82 : T82) (F83 : T83) (F84 : T84) (β : Type) (e : argsT s19) (k : V → Option β) : fnK cfg (tabL [(59, W59 F59), (60, W60 F60), (82, W82 F82), (83, W83 F83), (84, W84 F84)]) X19 19 Tryz.f19 β (argsEnc s19 e) k = G19 (P19 F59 F60 F82 F83 F84 ) β e k := by kernel_rfl
theorem ok19 : FnOk D 19 (W19 F19) := fn_okW [(59, W59 F59), (60, W60 F60), (82, W82 F82), (83, W83 F83), (84, W84 F84)] X19 (fun _ => rfl) Tryz.func19 rfl (tabL_cons ok59 (tabL_cons ok60 (tabL_cons ok82 (tabL_cons ok83 (tabL_cons ok84 tabL_nil))))) (k19 F59 F60 F82 F83 F84 )
abbrev s20 : List (Bool × List CK) := [(true, [.bool, .str, .str, .bool, .sl 1 true, .sl 1 true, .sl 1 true, .str, .str, .sl 4 false, .bool, .sl 4 false, .sl 1 true, .sl 8 true, .sl 5 true, .sl 2 true, .int .i64, .int .i64, .int .i64, .int .i64, .sl 2 true, .sl 1 true, .bool, .sl 8 true, .sl 2 false, .int .i64]), (false, [.int .i64])]
end
end Go.Am

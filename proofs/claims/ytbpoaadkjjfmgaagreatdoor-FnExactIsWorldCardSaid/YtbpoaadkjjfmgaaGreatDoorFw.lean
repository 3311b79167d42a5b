/-
  Functions of the program, extracted by program (sym.py) out of their code: what each computes, and, by the kernel's reckoning, that the machine's looking form computes just that; so what the machine answers.
-/
import Derived.Test.YtbpoaadkjjfmgaaGreatDoorAmCfg
import Derived.Test.YtbpoaadkjjfmgaaGreatDoorAmEvOk2
import Derived.KernelRfl
import Derived.Test.YtbpoaadkjjfmgaaGreatDoorFwp0
set_option maxRecDepth 10000
set_option linter.unusedVariables false
namespace Go.Am
open Go Go.Proofs
noncomputable section
abbrev T160 : Type 1 := (β : Type) → Int → List UInt8 → List V → List UInt8 → Int → List UInt8 → List V → List UInt8 → (Bool → Option β) → Option β
def P160 (F185 : T185) : T160 := fun β a_Kind a_Name a_Attrs a_Text b_Kind b_Name b_Attrs b_Text k =>
 br (a_Kind != b_Kind) (
 k false) (
 br (!(a_Name == b_Name)) (
 k false) (
 F185 _ a_Attrs b_Attrs fun b1 =>
 br (!b1) (
 k false) (
 br (!(a_Text == b_Text)) (
 k false) (
 k true))))
def F160 : T160 := P160 F185
abbrev s160 : List (Bool × List CK) := [(true, [.int .i64, .str, .sl 2 true, .str]), (true, [.int .i64, .str, .sl 2 true, .str])]
def G160 (F : T160) (β : Type) (e : (Int × List UInt8 × List V × List UInt8 × Unit) × (Int × List UInt8 × List V × List UInt8 × Unit) × Unit) (k : V → Option β) : Option β := F β e.1.1 e.1.2.1 e.1.2.2.1 e.1.2.2.2.1 e.2.1.1 e.2.1.2.1 e.2.1.2.2.1 e.2.1.2.2.2.1 (fun y1 => k (.bool y1))
abbrev W160 (F : T160) : WT := wrap s160 (G160 F)
theorem k160 (F185 : T185) (β : Type) (e : argsT s160) (k : V → Option β) : fnK cfg (tabL [(185, W185 F185)]) noX 160 Tryz.f160 β (argsEnc s160 e) k = G160 (P160 F185 ) β e k := by kernel_rfl
theorem ok160 : FnOk D 160 (W160 F160) := fn_okW [(185, W185 F185)] noX (fun _ => rfl) Tryz.func160 rfl (tabL_cons ok185 tabL_nil) (k160 F185 )
abbrev T121 : Type 1 := (β : Type) → List V → List V → (Bool → Option β) → Option β
def P121 (F160 : T160) : T121 := fun β a b k =>
 br ((a.length : Int) != (b.length : Int)) (
 k false) (
 whileK (fun s1 =>
 br (decide ((lI s1 2) < ((lL s1 0).length : Int))) (
 chk (0 ≤ (lI s1 2)) <|
 idx true [.int .i64, .str, .sl 2 true, .str] (lL s1 0) ((lI s1 2).toNat) fun (e2 : Int × List UInt8 × List V × List UInt8 × Unit) =>
 chk (0 ≤ (lI s1 2)) <|
 idx true [.int .i64, .str, .sl 2 true, .str] (lL s1 1) ((lI s1 2).toNat) fun (e3 : Int × List UInt8 × List V × List UInt8 × Unit) =>
 F160 _ e2.1 e2.2.1 e2.2.2.1 e2.2.2.2.1 e3.1 e3.2.1 e3.2.2.1 e3.2.2.2.1 fun b4 =>
 br (!b4) (
 some (.inr (0, [.b false]))) (
 some (.inl [.l (lL s1 0), .l (lL s1 1), .i (IntKind.wrap .i64 ((lI s1 2) + 1))]))) (
 some (.inr (1, [])))) [.l a, .l b, .i 0] fun (r5 : Nat × List Leaf) =>
 if r5.1 = 0 then
 k (lB r5.2 0)
 else
 k true)
def F121 : T121 := P121 F160
def X121 : Exits := fun i => lookN i [] [(4, [(.ret, xk 27 [(4, .bool false)] []), (.exit 0, xk 27 [] [])])]
abbrev s121 : List (Bool × List CK) := [(false, [.sl 4 false]), (false, [.sl 4 false])]
def G121 (F : T121) (β : Type) (e : (List V × Unit) × (List V × Unit) × Unit) (k : V → Option β) : Option β := F β e.1.1 e.2.1.1 (fun y1 => k (.bool y1))
abbrev W121 (F : T121) : WT := wrap s121 (G121 F)
theorem k121 (F160 : T160) (β : Type) (e : argsT s121) (k : V → Option β) : fnK cfg (tabL [(160, W160 F160)]) X121 121 Tryz.f121 β (argsEnc s121 e) k = G121 (P121 F160 ) β e k := by kernel_rfl
theorem ok121 : FnOk D 121 (W121 F121) := fn_okW [(160, W160 F160)] X121 (fun _ => rfl) Tryz.func121 rfl (tabL_cons ok160 tabL_nil) (k121 F160 )
abbrev T186 : Type 1 := (β : Type) → List UInt8 → List UInt8 → Int → List V → List UInt8 → List UInt8 → Int → List V → (Bool → Option β) → Option β
def P186 (F185 : T185) : T186 := fun β a_Name a_Text a_Parent a_Attrs b_Name b_Text b_Parent b_Attrs k =>
 br (!(a_Name == b_Name)) (
 k false) (
 br (!(a_Text == b_Text)) (
 k false) (
 br (a_Parent != b_Parent) (
 k false) (
 F185 _ a_Attrs b_Attrs fun b1 =>
 br (!b1) (
 k false) (
 k true))))
def F186 : T186 := P186 F185
abbrev s186 : List (Bool × List CK) := [(true, [.str, .str, .int .i64, .sl 2 true]), (true, [.str, .str, .int .i64, .sl 2 true])]
def G186 (F : T186) (β : Type) (e : (List UInt8 × List UInt8 × Int × List V × Unit) × (List UInt8 × List UInt8 × Int × List V × Unit) × Unit) (k : V → Option β) : Option β := F β e.1.1 e.1.2.1 e.1.2.2.1 e.1.2.2.2.1 e.2.1.1 e.2.1.2.1 e.2.1.2.2.1 e.2.1.2.2.2.1 (fun y1 => k (.bool y1))
abbrev W186 (F : T186) : WT := wrap s186 (G186 F)
theorem k186 (F185 : T185) (β : Type) (e : argsT s186) (k : V → Option β) : fnK cfg (tabL [(185, W185 F185)]) noX 186 Tryz.f186 β (argsEnc s186 e) k = G186 (P186 F185 ) β e k := by kernel_rfl
theorem ok186 : FnOk D 186 (W186 F186) := fn_okW [(185, W185 F185)] noX (fun _ => rfl) Tryz.func186 rfl (tabL_cons ok185 tabL_nil) (k186 F185 )
abbrev T161 : Type 1 := (β : Type) → List V → List V → (Bool → Option β) → Option β
def P161 (F186 : T186) : T161 := fun β a b k =>
 br ((a.length : Int) != (b.length : Int)) (
 k false) (
 whileK (fun s1 =>
 br (decide ((lI s1 2) < ((lL s1 0).length : Int))) (
 chk (0 ≤ (lI s1 2)) <|
 idx true [.str, .str, .int .i64, .sl 2 true] (lL s1 0) ((lI s1 2).toNat) fun (e2 : List UInt8 × List UInt8 × Int × List V × Unit) =>
 chk (0 ≤ (lI s1 2)) <|
 idx true [.str, .str, .int .i64, .sl 2 true] (lL s1 1) ((lI s1 2).toNat) fun (e3 : List UInt8 × List UInt8 × Int × List V × Unit) =>
 F186 _ e2.1 e2.2.1 e2.2.2.1 e2.2.2.2.1 e3.1 e3.2.1 e3.2.2.1 e3.2.2.2.1 fun b4 =>
 br (!b4) (
 some (.inr (0, [.b false]))) (
 some (.inl [.l (lL s1 0), .l (lL s1 1), .i (IntKind.wrap .i64 ((lI s1 2) + 1))]))) (
 some (.inr (1, [])))) [.l a, .l b, .i 0] fun (r5 : Nat × List Leaf) =>
 if r5.1 = 0 then
 k (lB r5.2 0)
 else
 k true)
def F161 : T161 := P161 F186
def X161 : Exits := fun i => lookN i [] [(4, [(.ret, xk 27 [(4, .bool false)] []), (.exit 0, xk 27 [] [])])]
abbrev s161 : List (Bool × List CK) := [(false, [.sl 4 false]), (false, [.sl 4 false])]
def G161 (F : T161) (β : Type) (e : (List V × Unit) × (List V × Unit) × Unit) (k : V → Option β) : Option β := F β e.1.1 e.2.1.1 (fun y1 => k (.bool y1))
abbrev W161 (F : T161) : WT := wrap s161 (G161 F)
theorem k161 (F186 : T186) (β : Type) (e : argsT s161) (k : V → Option β) : fnK cfg (tabL [(186, W186 F186)]) X161 161 Tryz.f161 β (argsEnc s161 e) k = G161 (P161 F186 ) β e k := by kernel_rfl
theorem ok161 : FnOk D 161 (W161 F161) := fn_okW [(186, W186 F186)] X161 (fun _ => rfl) Tryz.func161 rfl (tabL_cons ok186 tabL_nil) (k161 F186 )
abbrev T162 : Type 1 := (β : Type) → List V → List V → (Bool → Option β) → Option β
def P162 : T162 := fun β a b k =>
 br ((a.length : Int) != (b.length : Int)) (
 k false) (
 whileK (fun s1 =>
 br (decide ((lI s1 2) < ((lL s1 0).length : Int))) (
 chk (0 ≤ (lI s1 2)) <|
 idx false [.int .i64] (lL s1 0) ((lI s1 2).toNat) fun (e2 : Int × Unit) =>
 chk (0 ≤ (lI s1 2)) <|
 idx false [.int .i64] (lL s1 1) ((lI s1 2).toNat) fun (e3 : Int × Unit) =>
 br (e2.1 != e3.1) (
 some (.inr (0, [.b false]))) (
 some (.inl [.l (lL s1 0), .l (lL s1 1), .i (IntKind.wrap .i64 ((lI s1 2) + 1))]))) (
 some (.inr (1, [])))) [.l a, .l b, .i 0] fun (r4 : Nat × List Leaf) =>
 if r4.1 = 0 then
 k (lB r4.2 0)
 else
 k true)
def F162 : T162 := P162
def X162 : Exits := fun i => lookN i [] [(4, [(.ret, xk 26 [(4, .bool false)] []), (.exit 0, xk 26 [] [])])]
abbrev s162 : List (Bool × List CK) := [(false, [.sl 1 true]), (false, [.sl 1 true])]
def G162 (F : T162) (β : Type) (e : (List V × Unit) × (List V × Unit) × Unit) (k : V → Option β) : Option β := F β e.1.1 e.2.1.1 (fun y1 => k (.bool y1))
abbrev W162 (F : T162) : WT := wrap s162 (G162 F)
theorem k162 (β : Type) (e : argsT s162) (k : V → Option β) : fnK cfg (tabL []) X162 162 Tryz.f162 β (argsEnc s162 e) k = G162 (P162 ) β e k := by kernel_rfl
theorem ok162 : FnOk D 162 (W162 F162) := fn_okW [] X162 (fun _ => rfl) Tryz.func162 rfl (tabL_nil) (k162 )
abbrev T122 : Type 1 := (β : Type) → List V → List V → List V → List V → (Bool → Option β) → Option β
def P122 (F161 : T161) (F162 : T162) : T122 := fun β a_Nodes a_Open b_Nodes b_Open k =>
 F161 _ a_Nodes b_Nodes fun b1 =>
 br (!b1) (
 k false) (
 F162 _ a_Open b_Open fun b2 =>
 br (!b2) (
 k false) (
 k true))
def F122 : T122 := P122 F161 F162
abbrev s122 : List (Bool × List CK) := [(true, [.sl 4 false, .sl 1 true]), (true, [.sl 4 false, .sl 1 true])]
def G122 (F : T122) (β : Type) (e : (List V × List V × Unit) × (List V × List V × Unit) × Unit) (k : V → Option β) : Option β := F β e.1.1 e.1.2.1 e.2.1.1 e.2.1.2.1 (fun y1 => k (.bool y1))
abbrev W122 (F : T122) : WT := wrap s122 (G122 F)
theorem k122 (F161 : T161) (F162 : T162) (β : Type) (e : argsT s122) (k : V → Option β) : fnK cfg (tabL [(161, W161 F161), (162, W162 F162)]) noX 122 Tryz.f122 β (argsEnc s122 e) k = G122 (P122 F161 F162 ) β e k := by kernel_rfl
theorem ok122 : FnOk D 122 (W122 F122) := fn_okW [(161, W161 F161), (162, W162 F162)] noX (fun _ => rfl) Tryz.func122 rfl (tabL_cons ok161 (tabL_cons ok162 tabL_nil)) (k122 F161 F162 )
abbrev T163 : Type 1 := (β : Type) → Int → List UInt8 → List UInt8 → List UInt8 → Int → Bool → Int → List UInt8 → Int → List UInt8 → List UInt8 → List UInt8 → Int → Bool → Int → List UInt8 → (Bool → Option β) → Option β
def P163 (F118 : T118) : T163 := fun β a_Mode a_To_Host a_To_Path a_Digest a_Node a_Done a_Code a_Body b_Mode b_To_Host b_To_Path b_Digest b_Node b_Done b_Code b_Body k =>
 br (a_Mode != b_Mode) (
 k false) (
 F118 _ a_To_Host a_To_Path b_To_Host b_To_Path fun b1 =>
 br (!b1) (
 k false) (
 br (!(a_Digest == b_Digest)) (
 k false) (
 br (a_Node != b_Node) (
 k false) (
 br (!(a_Done == b_Done)) (
 k false) (
 br (a_Code != b_Code) (
 k false) (
 br (!(a_Body == b_Body)) (
 k false) (
 k true)))))))
def F163 : T163 := P163 F118
abbrev s163 : List (Bool × List CK) := [(true, [.int .i64, .str, .str, .str, .int .i64, .bool, .int .i64, .str]), (true, [.int .i64, .str, .str, .str, .int .i64, .bool, .int .i64, .str])]
def G163 (F : T163) (β : Type) (e : (Int × List UInt8 × List UInt8 × List UInt8 × Int × Bool × Int × List UInt8 × Unit) × (Int × List UInt8 × List UInt8 × List UInt8 × Int × Bool × Int × List UInt8 × Unit) × Unit) (k : V → Option β) : Option β := let a0_0 := e.1; let a0_1 := a0_0.2; let a0_2 := a0_1.2; let a0_3 := a0_2.2; let a0_4 := a0_3.2; let a0_5 := a0_4.2; let a0_6 := a0_5.2; let a0_7 := a0_6.2; let a1_0 := e.2.1; let a1_1 := a1_0.2; let a1_2 := a1_1.2; let a1_3 := a1_2.2; let a1_4 := a1_3.2; let a1_5 := a1_4.2; let a1_6 := a1_5.2; let a1_7 := a1_6.2; F β a0_0.1 a0_1.1 a0_2.1 a0_3.1 a0_4.1 a0_5.1 a0_6.1 a0_7.1 a1_0.1 a1_1.1 a1_2.1 a1_3.1 a1_4.1 a1_5.1 a1_6.1 a1_7.1 (fun y1 => k (.bool y1))
abbrev W163 (F : T163) : WT := wrap s163 (G163 F)
theorem k163 (F118 : T118) (β : Type) (e : argsT s163) (k : V → Option β) : fnK cfg (tabL [(118, W118 F118)]) noX 163 Tryz.f163 β (argsEnc s163 e) k = G163 (P163 F118 ) β e k := by kernel_rfl
theorem ok163 : FnOk D 163 (W163 F163) := fn_okW [(118, W118 F118)] noX (fun _ => rfl) Tryz.func163 rfl (tabL_cons ok118 tabL_nil) (k163 F118 )
abbrev T123 : Type 1 := (β : Type) → List V → List V → (Bool → Option β) → Option β
def P123 (F163 : T163) : T123 := fun β a b k =>
 br ((a.length : Int) != (b.length : Int)) (
 k false) (
 whileK (fun s1 =>
 br (decide ((lI s1 2) < ((lL s1 0).length : Int))) (
 chk (0 ≤ (lI s1 2)) <|
 idx true [.int .i64, .str, .str, .str, .int .i64, .bool, .int .i64, .str] (lL s1 0) ((lI s1 2).toNat) fun (e2 : Int × List UInt8 × List UInt8 × List UInt8 × Int × Bool × Int × List UInt8 × Unit) =>
 chk (0 ≤ (lI s1 2)) <|
 idx true [.int .i64, .str, .str, .str, .int .i64, .bool, .int .i64, .str] (lL s1 1) ((lI s1 2).toNat) fun (e3 : Int × List UInt8 × List UInt8 × List UInt8 × Int × Bool × Int × List UInt8 × Unit) =>
 F163 _ e2.1 e2.2.1 e2.2.2.1 e2.2.2.2.1 e2.2.2.2.2.1 e2.2.2.2.2.2.1 e2.2.2.2.2.2.2.1 e2.2.2.2.2.2.2.2.1 e3.1 e3.2.1 e3.2.2.1 e3.2.2.2.1 e3.2.2.2.2.1 e3.2.2.2.2.2.1 e3.2.2.2.2.2.2.1 e3.2.2.2.2.2.2.2.1 fun b4 =>
 br (!b4) (
 some (.inr (0, [.b false]))) (
 some (.inl [.l (lL s1 0), .l (lL s1 1), .i (IntKind.wrap .i64 ((lI s1 2) + 1))]))) (
 some (.inr (1, [])))) [.l a, .l b, .i 0] fun (r5 : Nat × List Leaf) =>
 if r5.1 = 0 then
 k (lB r5.2 0)
 else
 k true)
def F123 : T123 := P123 F163
def X123 : Exits := fun i => lookN i [] [(4, [(.ret, xk 27 [(4, .bool false)] []), (.exit 0, xk 27 [] [])])]
abbrev s123 : List (Bool × List CK) := [(false, [.sl 8 true]), (false, [.sl 8 true])]
def G123 (F : T123) (β : Type) (e : (List V × Unit) × (List V × Unit) × Unit) (k : V → Option β) : Option β := F β e.1.1 e.2.1.1 (fun y1 => k (.bool y1))
abbrev W123 (F : T123) : WT := wrap s123 (G123 F)
theorem k123 (F163 : T163) (β : Type) (e : argsT s123) (k : V → Option β) : fnK cfg (tabL [(163, W163 F163)]) X123 123 Tryz.f123 β (argsEnc s123 e) k = G123 (P123 F163 ) β e k := by kernel_rfl
theorem ok123 : FnOk D 123 (W123 F123) := fn_okW [(163, W163 F163)] X123 (fun _ => rfl) Tryz.func123 rfl (tabL_cons ok163 tabL_nil) (k123 F163 )
abbrev T164 : Type 1 := (β : Type) → List UInt8 → List UInt8 → Bool → Int → List UInt8 → List UInt8 → List UInt8 → Bool → Int → List UInt8 → (Bool → Option β) → Option β
def P164 (F118 : T118) : T164 := fun β a_To_Host a_To_Path a_Done a_Code a_Body b_To_Host b_To_Path b_Done b_Code b_Body k =>
 F118 _ a_To_Host a_To_Path b_To_Host b_To_Path fun b1 =>
 br (!b1) (
 k false) (
 br (!(a_Done == b_Done)) (
 k false) (
 br (a_Code != b_Code) (
 k false) (
 br (!(a_Body == b_Body)) (
 k false) (
 k true))))
def F164 : T164 := P164 F118
abbrev s164 : List (Bool × List CK) := [(true, [.str, .str, .bool, .int .i64, .str]), (true, [.str, .str, .bool, .int .i64, .str])]
def G164 (F : T164) (β : Type) (e : (List UInt8 × List UInt8 × Bool × Int × List UInt8 × Unit) × (List UInt8 × List UInt8 × Bool × Int × List UInt8 × Unit) × Unit) (k : V → Option β) : Option β := let a0_0 := e.1; let a0_1 := a0_0.2; let a0_2 := a0_1.2; let a0_3 := a0_2.2; let a0_4 := a0_3.2; let a1_0 := e.2.1; let a1_1 := a1_0.2; let a1_2 := a1_1.2; let a1_3 := a1_2.2; let a1_4 := a1_3.2; F β a0_0.1 a0_1.1 a0_2.1 a0_3.1 a0_4.1 a1_0.1 a1_1.1 a1_2.1 a1_3.1 a1_4.1 (fun y1 => k (.bool y1))
abbrev W164 (F : T164) : WT := wrap s164 (G164 F)
theorem k164 (F118 : T118) (β : Type) (e : argsT s164) (k : V → Option β) : fnK cfg (tabL [(118, W118 F118)]) noX 164 Tryz.f164 β (argsEnc s164 e) k = G164 (P164 F118 ) β e k := by kernel_rfl
theorem ok164 : FnOk D 164 (W164 F164) := fn_okW [(118, W118 F118)] noX (fun _ => rfl) Tryz.func164 rfl (tabL_cons ok118 tabL_nil) (k164 F118 )
abbrev T124 : Type 1 := (β : Type) → List V → List V → (Bool → Option β) → Option β
def P124 (F164 : T164) : T124 := fun β a b k =>
 br ((a.length : Int) != (b.length : Int)) (
 k false) (
 whileK (fun s1 =>
 br (decide ((lI s1 2) < ((lL s1 0).length : Int))) (
 chk (0 ≤ (lI s1 2)) <|
 idx true [.str, .str, .bool, .int .i64, .str] (lL s1 0) ((lI s1 2).toNat) fun (e2 : List UInt8 × List UInt8 × Bool × Int × List UInt8 × Unit) =>
 chk (0 ≤ (lI s1 2)) <|
 idx true [.str, .str, .bool, .int .i64, .str] (lL s1 1) ((lI s1 2).toNat) fun (e3 : List UInt8 × List UInt8 × Bool × Int × List UInt8 × Unit) =>
 F164 _ e2.1 e2.2.1 e2.2.2.1 e2.2.2.2.1 e2.2.2.2.2.1 e3.1 e3.2.1 e3.2.2.1 e3.2.2.2.1 e3.2.2.2.2.1 fun b4 =>
 br (!b4) (
 some (.inr (0, [.b false]))) (
 some (.inl [.l (lL s1 0), .l (lL s1 1), .i (IntKind.wrap .i64 ((lI s1 2) + 1))]))) (
 some (.inr (1, [])))) [.l a, .l b, .i 0] fun (r5 : Nat × List Leaf) =>
 if r5.1 = 0 then
 k (lB r5.2 0)
 else
 k true)
def F124 : T124 := P124 F164
def X124 : Exits := fun i => lookN i [] [(4, [(.ret, xk 27 [(4, .bool false)] []), (.exit 0, xk 27 [] [])])]
abbrev s124 : List (Bool × List CK) := [(false, [.sl 5 true]), (false, [.sl 5 true])]
def G124 (F : T124) (β : Type) (e : (List V × Unit) × (List V × Unit) × Unit) (k : V → Option β) : Option β := F β e.1.1 e.2.1.1 (fun y1 => k (.bool y1))
abbrev W124 (F : T124) : WT := wrap s124 (G124 F)
theorem k124 (F164 : T164) (β : Type) (e : argsT s124) (k : V → Option β) : fnK cfg (tabL [(164, W164 F164)]) X124 124 Tryz.f124 β (argsEnc s124 e) k = G124 (P124 F164 ) β e k := by kernel_rfl
theorem ok124 : FnOk D 124 (W124 F124) := fn_okW [(164, W164 F164)] X124 (fun _ => rfl) Tryz.func124 rfl (tabL_cons ok164 tabL_nil) (k124 F164 )
abbrev T125 : Type 1 := (β : Type) → List V → List V → (Bool → Option β) → Option β
def P125 (F118 : T118) : T125 := fun β a b k =>
 br ((a.length : Int) != (b.length : Int)) (
 k false) (
 whileK (fun s1 =>
 br (decide ((lI s1 2) < ((lL s1 0).length : Int))) (
 chk (0 ≤ (lI s1 2)) <|
 idx true [.str, .str] (lL s1 0) ((lI s1 2).toNat) fun (e2 : List UInt8 × List UInt8 × Unit) =>
 chk (0 ≤ (lI s1 2)) <|
 idx true [.str, .str] (lL s1 1) ((lI s1 2).toNat) fun (e3 : List UInt8 × List UInt8 × Unit) =>
 F118 _ e2.1 e2.2.1 e3.1 e3.2.1 fun b4 =>
 br (!b4) (
 some (.inr (0, [.b false]))) (
 some (.inl [.l (lL s1 0), .l (lL s1 1), .i (IntKind.wrap .i64 ((lI s1 2) + 1))]))) (
 some (.inr (1, [])))) [.l a, .l b, .i 0] fun (r5 : Nat × List Leaf) =>
 if r5.1 = 0 then
 k (lB r5.2 0)
 else
 k true)
def F125 : T125 := P125 F118
def X125 : Exits := fun i => lookN i [] [(4, [(.ret, xk 27 [(4, .bool false)] []), (.exit 0, xk 27 [] [])])]
abbrev s125 : List (Bool × List CK) := [(false, [.sl 2 true]), (false, [.sl 2 true])]
def G125 (F : T125) (β : Type) (e : (List V × Unit) × (List V × Unit) × Unit) (k : V → Option β) : Option β := F β e.1.1 e.2.1.1 (fun y1 => k (.bool y1))
abbrev W125 (F : T125) : WT := wrap s125 (G125 F)
theorem k125 (F118 : T118) (β : Type) (e : argsT s125) (k : V → Option β) : fnK cfg (tabL [(118, W118 F118)]) X125 125 Tryz.f125 β (argsEnc s125 e) k = G125 (P125 F118 ) β e k := by kernel_rfl
theorem ok125 : FnOk D 125 (W125 F125) := fn_okW [(118, W118 F118)] X125 (fun _ => rfl) Tryz.func125 rfl (tabL_cons ok118 tabL_nil) (k125 F118 )
abbrev T56 : Type 1 := (β : Type) → List UInt8 → List UInt8 → Bool → List V → List V → List V → List UInt8 → List UInt8 → List V → Bool → List V → List V → List V → List V → List V → Int → Int → Int → Int → List V → List V → Bool → List UInt8 → List UInt8 → Bool → List V → List V → List V → List UInt8 → List UInt8 → List V → Bool → List V → List V → List V → List V → List V → Int → Int → Int → Int → List V → List V → Bool → (Bool → Option β) → Option β
def P56 (F118 : T118) (F119 : T119) (F120 : T120) (F121 : T121) (F122 : T122) (F123 : T123) (F124 : T124) (F125 : T125) (F126 : T126) : T56 := fun β a_Addr_Host a_Addr_Path a_Policy_Set a_Policy_Scripts a_Policy_Styles a_Policy_Images a_Policy_Nonce a_Tok_Rest a_Queue a_Ended a_Builder_Nodes a_Builder_Open a_Slots a_Mods a_Entries a_Block a_Inline a_Deferred a_Entered a_Ran a_Log a_Loaded b_Addr_Host b_Addr_Path b_Policy_Set b_Policy_Scripts b_Policy_Styles b_Policy_Images b_Policy_Nonce b_Tok_Rest b_Queue b_Ended b_Builder_Nodes b_Builder_Open b_Slots b_Mods b_Entries b_Block b_Inline b_Deferred b_Entered b_Ran b_Log b_Loaded k =>
 F118 _ a_Addr_Host a_Addr_Path b_Addr_Host b_Addr_Path fun b1 =>
 br (!b1) (
 k false) (
 F119 _ a_Policy_Set a_Policy_Scripts a_Policy_Styles a_Policy_Images a_Policy_Nonce b_Policy_Set b_Policy_Scripts b_Policy_Styles b_Policy_Images b_Policy_Nonce fun b2 =>
 br (!b2) (
 k false) (
 F120 _ a_Tok_Rest b_Tok_Rest fun b3 =>
 br (!b3) (
 k false) (
 F121 _ a_Queue b_Queue fun b4 =>
 br (!b4) (
 k false) (
 br (!(a_Ended == b_Ended)) (
 k false) (
 F122 _ a_Builder_Nodes a_Builder_Open b_Builder_Nodes b_Builder_Open fun b5 =>
 br (!b5) (
 k false) (
 F123 _ a_Slots b_Slots fun b6 =>
 br (!b6) (
 k false) (
 F124 _ a_Mods b_Mods fun b7 =>
 br (!b7) (
 k false) (
 F125 _ a_Entries b_Entries fun b8 =>
 br (!b8) (
 k false) (
 br (a_Block != b_Block) (
 k false) (
 br (a_Inline != b_Inline) (
 k false) (
 br (a_Deferred != b_Deferred) (
 k false) (
 br (a_Entered != b_Entered) (
 k false) (
 F125 _ a_Ran b_Ran fun b9 =>
 br (!b9) (
 k false) (
 F126 _ a_Log b_Log fun b10 =>
 br (!b10) (
 k false) (
 br (!(a_Loaded == b_Loaded)) (
 k false) (
 k true))))))))))))))))
def F56 : T56 := P56 F118 F119 F120 F121 F122 F123 F124 F125 F126
abbrev s56 : List (Bool × List CK) := [(true, [.str, .str, .bool, .sl 1 true, .sl 1 true, .sl 1 true, .str, .str, .sl 4 false, .bool, .sl 4 false, .sl 1 true, .sl 8 true, .sl 5 true, .sl 2 true, .int .i64, .int .i64, .int .i64, .int .i64, .sl 2 true, .sl 1 true, .bool]), (true, [.str, .str, .bool, .sl 1 true, .sl 1 true, .sl 1 true, .str, .str, .sl 4 false, .bool, .sl 4 false, .sl 1 true, .sl 8 true, .sl 5 true, .sl 2 true, .int .i64, .int .i64, .int .i64, .int .i64, .sl 2 true, .sl 1 true, .bool])]
def G56 (F : T56) (β : Type) (e : (List UInt8 × List UInt8 × Bool × List V × List V × List V × List UInt8 × List UInt8 × List V × Bool × List V × List V × List V × List V × List V × Int × Int × Int × Int × List V × List V × Bool × Unit) × (List UInt8 × List UInt8 × Bool × List V × List V × List V × List UInt8 × List UInt8 × List V × Bool × List V × List V × List V × List V × List V × Int × Int × Int × Int × List V × List V × Bool × Unit) × Unit) (k : V → Option β) : Option β := let a0_0 := e.1; let a0_1 := a0_0.2; let a0_2 := a0_1.2; let a0_3 := a0_2.2; let a0_4 := a0_3.2; let a0_5 := a0_4.2; let a0_6 := a0_5.2; let a0_7 := a0_6.2; let a0_8 := a0_7.2; let a0_9 := a0_8.2; let a0_10 := a0_9.2; let a0_11 := a0_10.2; let a0_12 := a0_11.2; let a0_13 := a0_12.2; let a0_14 := a0_13.2; let a0_15 := a0_14.2; let a0_16 := a0_15.2; let a0_17 := a0_16.2; let a0_18 := a0_17.2; let a0_19 := a0_18.2; let a0_20 := a0_19.2; let a0_21 := a0_20.2; let a1_0 := e.2.1; let a1_1 := a1_0.2; let a1_2 := a1_1.2; let a1_3 := a1_2.2; let a1_4 := a1_3.2; let a1_5 := a1_4.2; let a1_6 := a1_5.2; let a1_7 := a1_6.2; let a1_8 := a1_7.2; let a1_9 := a1_8.2; let a1_10 := a1_9.2; let a1_11 := a1_10.2; let a1_12 := a1_11.2; let a1_13 := a1_12.2; let a1_14 := a1_13.2; let a1_15 := a1_14.2; let a1_16 := a1_15.2; let a1_17 := a1_16.2; let a1_18 := a1_17.2; let a1_19 := a1_18.2; let a1_20 := a1_19.2; let a1_21 := a1_20.2; F β a0_0.1 a0_1.1 a0_2.1 a0_3.1 a0_4.1 a0_5.1 a0_6.1 a0_7.1 a0_8.1 a0_9.1 a0_10.1 a0_11.1 a0_12.1 a0_13.1 a0_14.1 a0_15.1 a0_16.1 a0_17.1 a0_18.1 a0_19.1 a0_20.1 a0_21.1 a1_0.1 a1_1.1 a1_2.1 a1_3.1 a1_4.1 a1_5.1 a1_6.1 a1_7.1 a1_8.1 a1_9.1 a1_10.1 a1_11.1 a1_12.1 a1_13.1 a1_14.1 a1_15.1 a1_16.1 a1_17.1 a1_18.1 a1_19.1 a1_20.1 a1_21.1 (fun y1 => k (.bool y1))
abbrev W56 (F : T56) : WT := wrap s56 (G56 F)
theorem k56 (F118 : T118) (F119 : T119) (F120 : T120) (F121 : T121) (F122 : T122) (F123 : T123) (F124 : T124) (F125 : T125) (F126 : T126) (β : Type) (e : argsT s56) (k : V → Option β) : fnK cfg (tabL [(118, W118 F118), (119, W119 F119), (120, W120 F120), (121, W121 F121), (122, W122 F122), (123, W123 F123), (124, W124 F124), (125, W125 F125), (126, W126 F126)]) noX 56 Tryz.f56 β (argsEnc s56 e) k = G56 (P56 F118 F119 F120 F121 F122 F123 F124 F125 F126 ) β e k := by kernel_rfl
theorem ok56 : FnOk D 56 (W56 F56) := fn_okW [(118, W118 F118), (119, W119 F119), (120, W120 F120), (121, W121 F121), (122, W122 F122), (123, W123 F123), (124, W124 F124), (125, W125 F125), (126, W126 F126)] noX (fun _ => rfl) Tryz.func56 rfl (tabL_cons ok118 (tabL_cons ok119 (tabL_cons ok120 (tabL_cons ok121 (tabL_cons ok122 (tabL_cons ok123 (tabL_cons ok124 (tabL_cons ok125 (tabL_cons ok126 tabL_nil))))))))) (k56 F118 F119 F120 F121 F122 F123 F124 F125 F126 )
abbrev T117 : Type 1 := (β : Type) → List UInt8 → List UInt8 → List UInt8 → List UInt8 → Bool → List V → List V → List V → List UInt8 → List UInt8 → List V → Bool → List V → List V → List V → List V → List V → Int → Int → Int → Int → List V → List V → Bool → Bool → List UInt8 → List UInt8 → List UInt8 → List UInt8 → Bool → List V → List V → List V → List UInt8 → List UInt8 → List V → Bool → List V → List V → List V → List V → List V → Int → Int → Int → Int → List V → List V → Bool → Bool → (Bool → Option β) → Option β
def P117 (F118 : T118) (F56 : T56) : T117 := fun β a_Addr_Host a_Addr_Path a_Page_Addr_Host a_Page_Addr_Path a_Page_Policy_Set a_Page_Policy_Scripts a_Page_Policy_Styles a_Page_Policy_Images a_Page_Policy_Nonce a_Page_Tok_Rest a_Page_Queue a_Page_Ended a_Page_Builder_Nodes a_Page_Builder_Open a_Page_Slots a_Page_Mods a_Page_Entries a_Page_Block a_Page_Inline a_Page_Deferred a_Page_Entered a_Page_Ran a_Page_Log a_Page_Loaded a_Kept b_Addr_Host b_Addr_Path b_Page_Addr_Host b_Page_Addr_Path b_Page_Policy_Set b_Page_Policy_Scripts b_Page_Policy_Styles b_Page_Policy_Images b_Page_Policy_Nonce b_Page_Tok_Rest b_Page_Queue b_Page_Ended b_Page_Builder_Nodes b_Page_Builder_Open b_Page_Slots b_Page_Mods b_Page_Entries b_Page_Block b_Page_Inline b_Page_Deferred b_Page_Entered b_Page_Ran b_Page_Log b_Page_Loaded b_Kept k =>
 F118 _ a_Addr_Host a_Addr_Path b_Addr_Host b_Addr_Path fun b1 =>
 br (!b1) (
 k false) (
 F56 _ a_Page_Addr_Host a_Page_Addr_Path a_Page_Policy_Set a_Page_Policy_Scripts a_Page_Policy_Styles a_Page_Policy_Images a_Page_Policy_Nonce a_Page_Tok_Rest a_Page_Queue a_Page_Ended a_Page_Builder_Nodes a_Page_Builder_Open a_Page_Slots a_Page_Mods a_Page_Entries a_Page_Block a_Page_Inline a_Page_Deferred a_Page_Entered a_Page_Ran a_Page_Log a_Page_Loaded b_Page_Addr_Host b_Page_Addr_Path b_Page_Policy_Set b_Page_Policy_Scripts b_Page_Policy_Styles b_Page_Policy_Images b_Page_Policy_Nonce b_Page_Tok_Rest b_Page_Queue b_Page_Ended b_Page_Builder_Nodes b_Page_Builder_Open b_Page_Slots b_Page_Mods b_Page_Entries b_Page_Block b_Page_Inline b_Page_Deferred b_Page_Entered b_Page_Ran b_Page_Log b_Page_Loaded fun b2 =>
 br (!b2) (
 k false) (
 br (!(a_Kept == b_Kept)) (
 k false) (
 k true)))
def F117 : T117 := P117 F118 F56
abbrev s117 : List (Bool × List CK) := [(true, [.str, .str, .str, .str, .bool, .sl 1 true, .sl 1 true, .sl 1 true, .str, .str, .sl 4 false, .bool, .sl 4 false, .sl 1 true, .sl 8 true, .sl 5 true, .sl 2 true, .int .i64, .int .i64, .int .i64, .int .i64, .sl 2 true, .sl 1 true, .bool, .bool]), (true, [.str, .str, .str, .str, .bool, .sl 1 true, .sl 1 true, .sl 1 true, .str, .str, .sl 4 false, .bool, .sl 4 false, .sl 1 true, .sl 8 true, .sl 5 true, .sl 2 true, .int .i64, .int .i64, .int .i64, .int .i64, .sl 2 true, .sl 1 true, .bool, .bool])]
def G117 (F : T117) (β : Type) (e : (List UInt8 × List UInt8 × List UInt8 × List UInt8 × Bool × List V × List V × List V × List UInt8 × List UInt8 × List V × Bool × List V × List V × List V × List V × List V × Int × Int × Int × Int × List V × List V × Bool × Bool × Unit) × (List UInt8 × List UInt8 × List UInt8 × List UInt8 × Bool × List V × List V × List V × List UInt8 × List UInt8 × List V × Bool × List V × List V × List V × List V × List V × Int × Int × Int × Int × List V × List V × Bool × Bool × Unit) × Unit) (k : V → Option β) : Option β := let a0_0 := e.1; let a0_1 := a0_0.2; let a0_2 := a0_1.2; let a0_3 := a0_2.2; let a0_4 := a0_3.2; let a0_5 := a0_4.2; let a0_6 := a0_5.2; let a0_7 := a0_6.2; let a0_8 := a0_7.2; let a0_9 := a0_8.2; let a0_10 := a0_9.2; let a0_11 := a0_10.2; let a0_12 := a0_11.2; let a0_13 := a0_12.2; let a0_14 := a0_13.2; let a0_15 := a0_14.2; let a0_16 := a0_15.2; let a0_17 := a0_16.2; let a0_18 := a0_17.2; let a0_19 := a0_18.2; let a0_20 := a0_19.2; let a0_21 := a0_20.2; let a0_22 := a0_21.2; let a0_23 := a0_22.2; let a0_24 := a0_23.2; let a1_0 := e.2.1; let a1_1 := a1_0.2; let a1_2 := a1_1.2; let a1_3 := a1_2.2; let a1_4 := a1_3.2; let a1_5 := a1_4.2; let a1_6 := a1_5.2; let a1_7 := a1_6.2; let a1_8 := a1_7.2; let a1_9 := a1_8.2; let a1_10 := a1_9.2; let a1_11 := a1_10.2; let a1_12 := a1_11.2; let a1_13 := a1_12.2; let a1_14 := a1_13.2; let a1_15 := a1_14.2; let a1_16 := a1_15.2; let a1_17 := a1_16.2; let a1_18 := a1_17.2; let a1_19 := a1_18.2; let a1_20 := a1_19.2; let a1_21 := a1_20.2; let a1_22 := a1_21.2; let a1_23 := a1_22.2; let a1_24 := a1_23.2; F β a0_0.1 a0_1.1 a0_2.1 a0_3.1 a0_4.1 a0_5.1 a0_6.1 a0_7.1 a0_8.1 a0_9.1 a0_10.1 a0_11.1 a0_12.1 a0_13.1 a0_14.1 a0_15.1 a0_16.1 a0_17.1 a0_18.1 a0_19.1 a0_20.1 a0_21.1 a0_22.1 a0_23.1 a0_24.1 a1_0.1 a1_1.1 a1_2.1 a1_3.1 a1_4.1 a1_5.1 a1_6.1 a1_7.1 a1_8.1 a1_9.1 a1_10.1 a1_11.1 a1_12.1 a1_13.1 a1_14.1 a1_15.1 a1_16.1 a1_17.1 a1_18.1 a1_19.1 a1_20.1 a1_21.1 a1_22.1 a1_23.1 a1_24.1 (fun y1 => k (.bool y1))
abbrev W117 (F : T117) : WT := wrap s117 (G117 F)
theorem k117 (F118 : T118) (F56 : T56) (β : Type) (e : argsT s117) (k : V → Option β) : fnK cfg (tabL [(118, W118 F118), (56, W56 F56)]) noX 117 Tryz.f117 β (argsEnc s117 e) k = G117 (P117 F118 F56 ) β e k := by kernel_rfl
theorem ok117 : FnOk D 117 (W117 F117) := fn_okW [(118, W118 F118), (56, W56 F56)] noX (fun _ => rfl) Tryz.func117 rfl (tabL_cons ok118 (tabL_cons ok56 tabL_nil)) (k117 F118 F56 )
abbrev T55 : Type 1 := (β : Type) → List V → List V → (Bool → Option β) → Option β
def P55 (F117 : T117) : T55 := fun β a b k =>
 br ((a.length : Int) != (b.length : Int)) (
 k false) (
 whileK (fun s1 =>
 br (decide ((lI s1 2) < ((lL s1 0).length : Int))) (
 chk (0 ≤ (lI s1 2)) <|
 idx true [.str, .str, .str, .str, .bool, .sl 1 true, .sl 1 true, .sl 1 true, .str, .str, .sl 4 false, .bool, .sl 4 false, .sl 1 true, .sl 8 true, .sl 5 true, .sl 2 true, .int .i64, .int .i64, .int .i64, .int .i64, .sl 2 true, .sl 1 true, .bool, .bool] (lL s1 0) ((lI s1 2).toNat) fun (e2 : List UInt8 × List UInt8 × List UInt8 × List UInt8 × Bool × List V × List V × List V × List UInt8 × List UInt8 × List V × Bool × List V × List V × List V × List V × List V × Int × Int × Int × Int × List V × List V × Bool × Bool × Unit) =>
 chk (0 ≤ (lI s1 2)) <|
 idx true [.str, .str, .str, .str, .bool, .sl 1 true, .sl 1 true, .sl 1 true, .str, .str, .sl 4 false, .bool, .sl 4 false, .sl 1 true, .sl 8 true, .sl 5 true, .sl 2 true, .int .i64, .int .i64, .int .i64, .int .i64, .sl 2 true, .sl 1 true, .bool, .bool] (lL s1 1) ((lI s1 2).toNat) fun (e3 : List UInt8 × List UInt8 × List UInt8 × List UInt8 × Bool × List V × List V × List V × List UInt8 × List UInt8 × List V × Bool × List V × List V × List V × List V × List V × Int × Int × Int × Int × List V × List V × Bool × Bool × Unit) =>
 F117 _ e2.1 e2.2.1 e2.2.2.1 e2.2.2.2.1 e2.2.2.2.2.1 e2.2.2.2.2.2.1 e2.2.2.2.2.2.2.1 e2.2.2.2.2.2.2.2.1 e2.2.2.2.2.2.2.2.2.1 e2.2.2.2.2.2.2.2.2.2.1 e2.2.2.2.2.2.2.2.2.2.2.1 e2.2.2.2.2.2.2.2.2.2.2.2.1 e2.2.2.2.2.2.2.2.2.2.2.2.2.1 e2.2.2.2.2.2.2.2.2.2.2.2.2.2.1 e2.2.2.2.2.2.2.2.2.2.2.2.2.2.2.1 e2.2.2.2.2.2.2.2.2.2.2.2.2.2.2.2.1 e2.2.2.2.2.2.2.2.2.2.2.2.2.2.2.2.2.1 e2.2.2.2.2.2.2.2.2.2.2.2.2.2.2.2.2.2.1 e2.2.2.2.2.2.2.2.2.2.2.2.2.2.2.2.2.2.2.1 e2.2.2.2.2.2.2.2.2.2.2.2.2.2.2.2.2.2.2.2.1 e2.2.2.2.2.2.2.2.2.2.2.2.2.2.2.2.2.2.2.2.2.1 e2.2.2.2.2.2.2.2.2.2.2.2.2.2.2.2.2.2.2.2.2.2.1 e2.2.2.2.2.2.2.2.2.2.2.2.2.2.2.2.2.2.2.2.2.2.2.1 e2.2.2.2.2.2.2.2.2.2.2.2.2.2.2.2.2.2.2.2.2.2.2.2.1 e2.2.2.2.2.2.2.2.2.2.2.2.2.2.2.2.2.2.2.2.2.2.2.2.2.1 e3.1 e3.2.1 e3.2.2.1 e3.2.2.2.1 e3.2.2.2.2.1 e3.2.2.2.2.2.1 e3.2.2.2.2.2.2.1 e3.2.2.2.2.2.2.2.1 e3.2.2.2.2.2.2.2.2.1 e3.2.2.2.2.2.2.2.2.2.1 e3.2.2.2.2.2.2.2.2.2.2.1 e3.2.2.2.2.2.2.2.2.2.2.2.1 e3.2.2.2.2.2.2.2.2.2.2.2.2.1 e3.2.2.2.2.2.2.2.2.2.2.2.2.2.1 e3.2.2.2.2.2.2.2.2.2.2.2.2.2.2.1 e3.2.2.2.2.2.2.2.2.2.2.2.2.2.2.2.1 e3.2.2.2.2.2.2.2.2.2.2.2.2.2.2.2.2.1 e3.2.2.2.2.2.2.2.2.2.2.2.2.2.2.2.2.2.1 e3.2.2.2.2.2.2.2.2.2.2.2.2.2.2.2.2.2.2.1 e3.2.2.2.2.2.2.2.2.2.2.2.2.2.2.2.2.2.2.2.1 e3.2.2.2.2.2.2.2.2.2.2.2.2.2.2.2.2.2.2.2.2.1 e3.2.2.2.2.2.2.2.2.2.2.2.2.2.2.2.2.2.2.2.2.2.1 e3.2.2.2.2.2.2.2.2.2.2.2.2.2.2.2.2.2.2.2.2.2.2.1 e3.2.2.2.2.2.2.2.2.2.2.2.2.2.2.2.2.2.2.2.2.2.2.2.1 e3.2.2.2.2.2.2.2.2.2.2.2.2.2.2.2.2.2.2.2.2.2.2.2.2.1 fun b4 =>
 br (!b4) (
 some (.inr (0, [.b false]))) (
 some (.inl [.l (lL s1 0), .l (lL s1 1), .i (IntKind.wrap .i64 ((lI s1 2) + 1))]))) (
 some (.inr (1, [])))) [.l a, .l b, .i 0] fun (r5 : Nat × List Leaf) =>
 if r5.1 = 0 then
 k (lB r5.2 0)
 else
 k true)
def F55 : T55 := P55 F117
def X55 : Exits := fun i => lookN i [] [(4, [(.ret, xk 27 [(4, .bool false)] []), (.exit 0, xk 27 [] [])])]
abbrev s55 : List (Bool × List CK) := [(false, [.sl 25 false]), (false, [.sl 25 false])]
def G55 (F : T55) (β : Type) (e : (List V × Unit) × (List V × Unit) × Unit) (k : V → Option β) : Option β := F β e.1.1 e.2.1.1 (fun y1 => k (.bool y1))
abbrev W55 (F : T55) : WT := wrap s55 (G55 F)
theorem k55 (F117 : T117) (β : Type) (e : argsT s55) (k : V → Option β) : fnK cfg (tabL [(117, W117 F117)]) X55 55 Tryz.f55 β (argsEnc s55 e) k = G55 (P55 F117 ) β e k := by kernel_rfl
theorem ok55 : FnOk D 55 (W55 F55) := fn_okW [(117, W117 F117)] X55 (fun _ => rfl) Tryz.func55 rfl (tabL_cons ok117 tabL_nil) (k55 F117 )
abbrev T23 : Type 1 := (β : Type) → List V → Int → List V → Int → (Bool → Option β) → Option β
def P23 (F55 : T55) : T23 := fun β a_Visits a_At b_Visits b_At k =>
 F55 _ a_Visits b_Visits fun b1 =>
 br (!b1) (
 k false) (
 br (a_At != b_At) (
 k false) (
 k true))
def F23 : T23 := P23 F55
abbrev s23 : List (Bool × List CK) := [(true, [.sl 25 false, .int .i64]), (true, [.sl 25 false, .int .i64])]
def G23 (F : T23) (β : Type) (e : (List V × Int × Unit) × (List V × Int × Unit) × Unit) (k : V → Option β) : Option β := F β e.1.1 e.1.2.1 e.2.1.1 e.2.1.2.1 (fun y1 => k (.bool y1))
abbrev W23 (F : T23) : WT := wrap s23 (G23 F)
theorem k23 (F55 : T55) (β : Type) (e : argsT s23) (k : V → Option β) : fnK cfg (tabL [(55, W55 F55)]) noX 23 Tryz.f23 β (argsEnc s23 e) k = G23 (P23 F55 ) β e k := by kernel_rfl
theorem ok23 : FnOk D 23 (W23 F23) := fn_okW [(55, W55 F55)] noX (fun _ => rfl) Tryz.func23 rfl (tabL_cons ok55 tabL_nil) (k23 F55 )
abbrev T127 : Type 1 := (β : Type) → List UInt8 → List UInt8 → Int → Int → List UInt8 → Int → Bool → List UInt8 → List UInt8 → List UInt8 → Int → Int → List UInt8 → Int → Bool → List UInt8 → (Bool → Option β) → Option β
def P127 (F118 : T118) (F165 : T165) : T127 := fun β a_To_Host a_To_Path a_Response_Status a_Response_Kind a_Response_Body a_Response_Age a_Response_Shares a_Response_Policy b_To_Host b_To_Path b_Response_Status b_Response_Kind b_Response_Body b_Response_Age b_Response_Shares b_Response_Policy k =>
 F118 _ a_To_Host a_To_Path b_To_Host b_To_Path fun b1 =>
 br (!b1) (
 k false) (
 F165 _ a_Response_Status a_Response_Kind a_Response_Body a_Response_Age a_Response_Shares a_Response_Policy b_Response_Status b_Response_Kind b_Response_Body b_Response_Age b_Response_Shares b_Response_Policy fun b2 =>
 br (!b2) (
 k false) (
 k true))
def F127 : T127 := P127 F118 F165
abbrev s127 : List (Bool × List CK) := [(true, [.str, .str, .int .i64, .int .i64, .str, .int .i64, .bool, .str]), (true, [.str, .str, .int .i64, .int .i64, .str, .int .i64, .bool, .str])]
def G127 (F : T127) (β : Type) (e : (List UInt8 × List UInt8 × Int × Int × List UInt8 × Int × Bool × List UInt8 × Unit) × (List UInt8 × List UInt8 × Int × Int × List UInt8 × Int × Bool × List UInt8 × Unit) × Unit) (k : V → Option β) : Option β := let a0_0 := e.1; let a0_1 := a0_0.2; let a0_2 := a0_1.2; let a0_3 := a0_2.2; let a0_4 := a0_3.2; let a0_5 := a0_4.2; let a0_6 := a0_5.2; let a0_7 := a0_6.2; let a1_0 := e.2.1; let a1_1 := a1_0.2; let a1_2 := a1_1.2; let a1_3 := a1_2.2; let a1_4 := a1_3.2; let a1_5 := a1_4.2; let a1_6 := a1_5.2; let a1_7 := a1_6.2; F β a0_0.1 a0_1.1 a0_2.1 a0_3.1 a0_4.1 a0_5.1 a0_6.1 a0_7.1 a1_0.1 a1_1.1 a1_2.1 a1_3.1 a1_4.1 a1_5.1 a1_6.1 a1_7.1 (fun y1 => k (.bool y1))
abbrev W127 (F : T127) : WT := wrap s127 (G127 F)
theorem k127 (F118 : T118) (F165 : T165) (β : Type) (e : argsT s127) (k : V → Option β) : fnK cfg (tabL [(118, W118 F118), (165, W165 F165)]) noX 127 Tryz.f127 β (argsEnc s127 e) k = G127 (P127 F118 F165 ) β e k := by kernel_rfl
theorem ok127 : FnOk D 127 (W127 F127) := fn_okW [(118, W118 F118), (165, W165 F165)] noX (fun _ => rfl) Tryz.func127 rfl (tabL_cons ok118 (tabL_cons ok165 tabL_nil)) (k127 F118 F165 )
abbrev T57 : Type 1 := (β : Type) → List V → List V → (Bool → Option β) → Option β
def P57 (F127 : T127) : T57 := fun β a b k =>
 br ((a.length : Int) != (b.length : Int)) (
 k false) (
 whileK (fun s1 =>
 br (decide ((lI s1 2) < ((lL s1 0).length : Int))) (
 chk (0 ≤ (lI s1 2)) <|
 idx true [.str, .str, .int .i64, .int .i64, .str, .int .i64, .bool, .str] (lL s1 0) ((lI s1 2).toNat) fun (e2 : List UInt8 × List UInt8 × Int × Int × List UInt8 × Int × Bool × List UInt8 × Unit) =>
 chk (0 ≤ (lI s1 2)) <|
 idx true [.str, .str, .int .i64, .int .i64, .str, .int .i64, .bool, .str] (lL s1 1) ((lI s1 2).toNat) fun (e3 : List UInt8 × List UInt8 × Int × Int × List UInt8 × Int × Bool × List UInt8 × Unit) =>
 F127 _ e2.1 e2.2.1 e2.2.2.1 e2.2.2.2.1 e2.2.2.2.2.1 e2.2.2.2.2.2.1 e2.2.2.2.2.2.2.1 e2.2.2.2.2.2.2.2.1 e3.1 e3.2.1 e3.2.2.1 e3.2.2.2.1 e3.2.2.2.2.1 e3.2.2.2.2.2.1 e3.2.2.2.2.2.2.1 e3.2.2.2.2.2.2.2.1 fun b4 =>
 br (!b4) (
 some (.inr (0, [.b false]))) (
 some (.inl [.l (lL s1 0), .l (lL s1 1), .i (IntKind.wrap .i64 ((lI s1 2) + 1))]))) (
 some (.inr (1, [])))) [.l a, .l b, .i 0] fun (r5 : Nat × List Leaf) =>
 if r5.1 = 0 then
 k (lB r5.2 0)
 else
 k true)
def F57 : T57 := P57 F127
def X57 : Exits := fun i => lookN i [] [(4, [(.ret, xk 27 [(4, .bool false)] []), (.exit 0, xk 27 [] [])])]
abbrev s57 : List (Bool × List CK) := [(false, [.sl 8 true]), (false, [.sl 8 true])]
def G57 (F : T57) (β : Type) (e : (List V × Unit) × (List V × Unit) × Unit) (k : V → Option β) : Option β := F β e.1.1 e.2.1.1 (fun y1 => k (.bool y1))
abbrev W57 (F : T57) : WT := wrap s57 (G57 F)
theorem k57 (F127 : T127) (β : Type) (e : argsT s57) (k : V → Option β) : fnK cfg (tabL [(127, W127 F127)]) X57 57 Tryz.f57 β (argsEnc s57 e) k = G57 (P57 F127 ) β e k := by kernel_rfl
theorem ok57 : FnOk D 57 (W57 F57) := fn_okW [(127, W127 F127)] X57 (fun _ => rfl) Tryz.func57 rfl (tabL_cons ok127 tabL_nil) (k57 F127 )
abbrev T24 : Type 1 := (β : Type) → Bool → List UInt8 → List UInt8 → Bool → List V → List V → List V → List UInt8 → List UInt8 → List V → Bool → List V → List V → List V → List V → List V → Int → Int → Int → Int → List V → List V → Bool → List V → List V → Int → Bool → List UInt8 → List UInt8 → Bool → List V → List V → List V → List UInt8 → List UInt8 → List V → Bool → List V → List V → List V → List V → List V → Int → Int → Int → Int → List V → List V → Bool → List V → List V → Int → (Bool → Option β) → Option β
def P24 (F56 : T56) (F57 : T57) (F52 : T52) : T24 := fun β a_Ready a_Page_Addr_Host a_Page_Addr_Path a_Page_Policy_Set a_Page_Policy_Scripts a_Page_Policy_Styles a_Page_Policy_Images a_Page_Policy_Nonce a_Page_Tok_Rest a_Page_Queue a_Page_Ended a_Page_Builder_Nodes a_Page_Builder_Open a_Page_Slots a_Page_Mods a_Page_Entries a_Page_Block a_Page_Inline a_Page_Deferred a_Page_Entered a_Page_Ran a_Page_Log a_Page_Loaded a_Taken a_Servers a_Now b_Ready b_Page_Addr_Host b_Page_Addr_Path b_Page_Policy_Set b_Page_Policy_Scripts b_Page_Policy_Styles b_Page_Policy_Images b_Page_Policy_Nonce b_Page_Tok_Rest b_Page_Queue b_Page_Ended b_Page_Builder_Nodes b_Page_Builder_Open b_Page_Slots b_Page_Mods b_Page_Entries b_Page_Block b_Page_Inline b_Page_Deferred b_Page_Entered b_Page_Ran b_Page_Log b_Page_Loaded b_Taken b_Servers b_Now k =>
 br (!(a_Ready == b_Ready)) (
 k false) (
 F56 _ a_Page_Addr_Host a_Page_Addr_Path a_Page_Policy_Set a_Page_Policy_Scripts a_Page_Policy_Styles a_Page_Policy_Images a_Page_Policy_Nonce a_Page_Tok_Rest a_Page_Queue a_Page_Ended a_Page_Builder_Nodes a_Page_Builder_Open a_Page_Slots a_Page_Mods a_Page_Entries a_Page_Block a_Page_Inline a_Page_Deferred a_Page_Entered a_Page_Ran a_Page_Log a_Page_Loaded b_Page_Addr_Host b_Page_Addr_Path b_Page_Policy_Set b_Page_Policy_Scripts b_Page_Policy_Styles b_Page_Policy_Images b_Page_Policy_Nonce b_Page_Tok_Rest b_Page_Queue b_Page_Ended b_Page_Builder_Nodes b_Page_Builder_Open b_Page_Slots b_Page_Mods b_Page_Entries b_Page_Block b_Page_Inline b_Page_Deferred b_Page_Entered b_Page_Ran b_Page_Log b_Page_Loaded fun b1 =>
 br (!b1) (
 k false) (
 F57 _ a_Taken b_Taken fun b2 =>
 br (!b2) (
 k false) (
 F52 _ a_Servers b_Servers fun b3 =>
 br (!b3) (
 k false) (
 br (a_Now != b_Now) (
 k false) (
 k true)))))
def F24 : T24 := P24 F56 F57 F52
abbrev s24 : List (Bool × List CK) := [(true, [.bool, .str, .str, .bool, .sl 1 true, .sl 1 true, .sl 1 true, .str, .str, .sl 4 false, .bool, .sl 4 false, .sl 1 true, .sl 8 true, .sl 5 true, .sl 2 true, .int .i64, .int .i64, .int .i64, .int .i64, .sl 2 true, .sl 1 true, .bool, .sl 8 true, .sl 2 false, .int .i64]), (true, [.bool, .str, .str, .bool, .sl 1 true, .sl 1 true, .sl 1 true, .str, .str, .sl 4 false, .bool, .sl 4 false, .sl 1 true, .sl 8 true, .sl 5 true, .sl 2 true, .int .i64, .int .i64, .int .i64, .int .i64, .sl 2 true, .sl 1 true, .bool, .sl 8 true, .sl 2 false, .int .i64])]
def G24 (F : T24) (β : Type) (e : (Bool × List UInt8 × List UInt8 × Bool × List V × List V × List V × List UInt8 × List UInt8 × List V × Bool × List V × List V × List V × List V × List V × Int × Int × Int × Int × List V × List V × Bool × List V × List V × Int × Unit) × (Bool × List UInt8 × List UInt8 × Bool × List V × List V × List V × List UInt8 × List UInt8 × List V × Bool × List V × List V × List V × List V × List V × Int × Int × Int × Int × List V × List V × Bool × List V × List V × Int × Unit) × Unit) (k : V → Option β) : Option β := let a0_0 := e.1; let a0_1 := a0_0.2; let a0_2 := a0_1.2; let a0_3 := a0_2.2; let a0_4 := a0_3.2; let a0_5 := a0_4.2; let a0_6 := a0_5.2; let a0_7 := a0_6.2; let a0_8 := a0_7.2; let a0_9 := a0_8.2; let a0_10 := a0_9.2; let a0_11 := a0_10.2; let a0_12 := a0_11.2; let a0_13 := a0_12.2; let a0_14 := a0_13.2; let a0_15 := a0_14.2; let a0_16 := a0_15.2; let a0_17 := a0_16.2; let a0_18 := a0_17.2; let a0_19 := a0_18.2; let a0_20 := a0_19.2; let a0_21 := a0_20.2; let a0_22 := a0_21.2; let a0_23 := a0_22.2; let a0_24 := a0_23.2; let a0_25 := a0_24.2; let a1_0 := e.2.1; let a1_1 := a1_0.2; let a1_2 := a1_1.2; let a1_3 := a1_2.2; let a1_4 := a1_3.2; let a1_5 := a1_4.2; let a1_6 := a1_5.2; let a1_7 := a1_6.2; let a1_8 := a1_7.2; let a1_9 := a1_8.2; let a1_10 := a1_9.2; let a1_11 := a1_10.2; let a1_12 := a1_11.2; let a1_13 := a1_12.2; let a1_14 := a1_13.2; let a1_15 := a1_14.2; let a1_16 := a1_15.2; let a1_17 := a1_16.2; let a1_18 := a1_17.2; let a1_19 := a1_18.2; let a1_20 := a1_19.2; let a1_21 := a1_20.2; let a1_22 := a1_21.2; let a1_23 := a1_22.2; let a1_24 := a1_23.2; let a1_25 := a1_24.2; F β a0_0.1 a0_1.1 a0_2.1 a0_3.1 a0_4.1 a0_5.1 a0_6.1 a0_7.1 a0_8.1 a0_9.1 a0_10.1 a0_11.1 a0_12.1 a0_13.1 a0_14.1 a0_15.1 a0_16.1 a0_17.1 a0_18.1 a0_19.1 a0_20.1 a0_21.1 a0_22.1 a0_23.1 a0_24.1 a0_25.1 a1_0.1 a1_1.1 a1_2.1 a1_3.1 a1_4.1 a1_5.1 a1_6.1 a1_7.1 a1_8.1 a1_9.1 a1_10.1 a1_11.1 a1_12.1 a1_13.1 a1_14.1 a1_15.1 a1_16.1 a1_17.1 a1_18.1 a1_19.1 a1_20.1 a1_21.1 a1_22.1 a1_23.1 a1_24.1 a1_25.1 (fun y1 => k (.bool y1))
abbrev W24 (F : T24) : WT := wrap s24 (G24 F)
theorem k24 (F56 : T56) (F57 : T57) (F52 : T52) (β : Type) (e : argsT s24) (k : V → Option β) : fnK cfg (tabL [(56, W56 F56), (57, W57 F57), (52, W52 F52)]) noX 24 Tryz.f24 β (argsEnc s24 e) k = G24 (P24 F56 F57 F52 ) β e k := by kernel_rfl
theorem ok24 : FnOk D 24 (W24 F24) := fn_okW [(56, W56 F56), (57, W57 F57), (52, W52 F52)] noX (fun _ => rfl) Tryz.func24 rfl (tabL_cons ok56 (tabL_cons ok57 (tabL_cons ok52 tabL_nil))) (k24 F56 F57 F52 )
abbrev T9 : Type 1 := (β : Type) → List V → List V → List V → Int → List V → Int → Bool → List UInt8 → List UInt8 → Bool → List V → List V → List V → List UInt8 → List UInt8 → List V → Bool → List V → List V → List V → List V → List V → Int → Int → Int → Int → List V → List V → Bool → List V → List V → Int → Bool → List V → List V → List V → Int → List V → Int → Bool → List UInt8 → List UInt8 → Bool → List V → List V → List V → List UInt8 → List UInt8 → List V → Bool → List V → List V → List V → List V → List V → Int → Int → Int → Int → List V → List V → Bool → List V → List V → Int → Bool → (Bool → Option β) → Option β
def P9 (F22 : T22) (F23 : T23) (F24 : T24) : T9 := fun β a_Net_Servers a_Net_Cache_Entries a_Net_Log a_Net_Now a_Tab_Visits a_Tab_At a_Hidden_Ready a_Hidden_Page_Addr_Host a_Hidden_Page_Addr_Path a_Hidden_Page_Policy_Set a_Hidden_Page_Policy_Scripts a_Hidden_Page_Policy_Styles a_Hidden_Page_Policy_Images a_Hidden_Page_Policy_Nonce a_Hidden_Page_Tok_Rest a_Hidden_Page_Queue a_Hidden_Page_Ended a_Hidden_Page_Builder_Nodes a_Hidden_Page_Builder_Open a_Hidden_Page_Slots a_Hidden_Page_Mods a_Hidden_Page_Entries a_Hidden_Page_Block a_Hidden_Page_Inline a_Hidden_Page_Deferred a_Hidden_Page_Entered a_Hidden_Page_Ran a_Hidden_Page_Log a_Hidden_Page_Loaded a_Hidden_Taken a_Hidden_Servers a_Hidden_Now a_Fast b_Net_Servers b_Net_Cache_Entries b_Net_Log b_Net_Now b_Tab_Visits b_Tab_At b_Hidden_Ready b_Hidden_Page_Addr_Host b_Hidden_Page_Addr_Path b_Hidden_Page_Policy_Set b_Hidden_Page_Policy_Scripts b_Hidden_Page_Policy_Styles b_Hidden_Page_Policy_Images b_Hidden_Page_Policy_Nonce b_Hidden_Page_Tok_Rest b_Hidden_Page_Queue b_Hidden_Page_Ended b_Hidden_Page_Builder_Nodes b_Hidden_Page_Builder_Open b_Hidden_Page_Slots b_Hidden_Page_Mods b_Hidden_Page_Entries b_Hidden_Page_Block b_Hidden_Page_Inline b_Hidden_Page_Deferred b_Hidden_Page_Entered b_Hidden_Page_Ran b_Hidden_Page_Log b_Hidden_Page_Loaded b_Hidden_Taken b_Hidden_Servers b_Hidden_Now b_Fast k =>
 F22 _ a_Net_Servers a_Net_Cache_Entries a_Net_Log a_Net_Now b_Net_Servers b_Net_Cache_Entries b_Net_Log b_Net_Now fun b1 =>
 br (!b1) (
 k false) (
 F23 _ a_Tab_Visits a_Tab_At b_Tab_Visits b_Tab_At fun b2 =>
 br (!b2) (
 k false) (
 F24 _ a_Hidden_Ready a_Hidden_Page_Addr_Host a_Hidden_Page_Addr_Path a_Hidden_Page_Policy_Set a_Hidden_Page_Policy_Scripts a_Hidden_Page_Policy_Styles a_Hidden_Page_Policy_Images a_Hidden_Page_Policy_Nonce a_Hidden_Page_Tok_Rest a_Hidden_Page_Queue a_Hidden_Page_Ended a_Hidden_Page_Builder_Nodes a_Hidden_Page_Builder_Open a_Hidden_Page_Slots a_Hidden_Page_Mods a_Hidden_Page_Entries a_Hidden_Page_Block a_Hidden_Page_Inline a_Hidden_Page_Deferred a_Hidden_Page_Entered a_Hidden_Page_Ran a_Hidden_Page_Log a_Hidden_Page_Loaded a_Hidden_Taken a_Hidden_Servers a_Hidden_Now b_Hidden_Ready b_Hidden_Page_Addr_Host b_Hidden_Page_Addr_Path b_Hidden_Page_Policy_Set b_Hidden_Page_Policy_Scripts b_Hidden_Page_Policy_Styles b_Hidden_Page_Policy_Images b_Hidden_Page_Policy_Nonce b_Hidden_Page_Tok_Rest b_Hidden_Page_Queue b_Hidden_Page_Ended b_Hidden_Page_Builder_Nodes b_Hidden_Page_Builder_Open b_Hidden_Page_Slots b_Hidden_Page_Mods b_Hidden_Page_Entries b_Hidden_Page_Block b_Hidden_Page_Inline b_Hidden_Page_Deferred b_Hidden_Page_Entered b_Hidden_Page_Ran b_Hidden_Page_Log b_Hidden_Page_Loaded b_Hidden_Taken b_Hidden_Servers b_Hidden_Now fun b3 =>
 br (!b3) (
 k false) (
 br (!(a_Fast == b_Fast)) (
 k false) (
 k true))))
def F9 : T9 := P9 F22 F23 F24
abbrev s9 : List (Bool × List CK) := [(true, [.sl 2 false, .sl 10 true, .sl 4 true, .int .i64, .sl 25 false, .int .i64, .bool, .str, .str, .bool, .sl 1 true, .sl 1 true, .sl 1 true, .str, .str, .sl 4 false, .bool, .sl 4 false, .sl 1 true, .sl 8 true, .sl 5 true, .sl 2 true, .int .i64, .int .i64, .int .i64, .int .i64, .sl 2 true, .sl 1 true, .bool, .sl 8 true, .sl 2 false, .int .i64, .bool]), (true, [.sl 2 false, .sl 10 true, .sl 4 true, .int .i64, .sl 25 false, .int .i64, .bool, .str, .str, .bool, .sl 1 true, .sl 1 true, .sl 1 true, .str, .str, .sl 4 false, .bool, .sl 4 false, .sl 1 true, .sl 8 true, .sl 5 true, .sl 2 true, .int .i64, .int .i64, .int .i64, .int .i64, .sl 2 true, .sl 1 true, .bool, .sl 8 true, .sl 2 false, .int .i64, .bool])]
def G9 (F : T9) (β : Type) (e : (List V × List V × List V × Int × List V × Int × Bool × List UInt8 × List UInt8 × Bool × List V × List V × List V × List UInt8 × List UInt8 × List V × Bool × List V × List V × List V × List V × List V × Int × Int × Int × Int × List V × List V × Bool × List V × List V × Int × Bool × Unit) × (List V × List V × List V × Int × List V × Int × Bool × List UInt8 × List UInt8 × Bool × List V × List V × List V × List UInt8 × List UInt8 × List V × Bool × List V × List V × List V × List V × List V × Int × Int × Int × Int × List V × List V × Bool × List V × List V × Int × Bool × Unit) × Unit) (k : V → Option β) : Option β := let a0_0 := e.1; let a0_1 := a0_0.2; let a0_2 := a0_1.2; let a0_3 := a0_2.2; let a0_4 := a0_3.2; let a0_5 := a0_4.2; let a0_6 := a0_5.2; let a0_7 := a0_6.2; let a0_8 := a0_7.2; let a0_9 := a0_8.2; let a0_10 := a0_9.2; let a0_11 := a0_10.2; let a0_12 := a0_11.2; let a0_13 := a0_12.2; let a0_14 := a0_13.2; let a0_15 := a0_14.2; let a0_16 := a0_15.2; let a0_17 := a0_16.2; let a0_18 := a0_17.2; let a0_19 := a0_18.2; let a0_20 := a0_19.2; let a0_21 := a0_20.2; let a0_22 := a0_21.2; let a0_23 := a0_22.2; let a0_24 := a0_23.2; let a0_25 := a0_24.2; let a0_26 := a0_25.2; let a0_27 := a0_26.2; let a0_28 := a0_27.2; let a0_29 := a0_28.2; let a0_30 := a0_29.2; let a0_31 := a0_30.2; let a0_32 := a0_31.2; let a1_0 := e.2.1; let a1_1 := a1_0.2; let a1_2 := a1_1.2; let a1_3 := a1_2.2; let a1_4 := a1_3.2; let a1_5 := a1_4.2; let a1_6 := a1_5.2; let a1_7 := a1_6.2; let a1_8 := a1_7.2; let a1_9 := a1_8.2; let a1_10 := a1_9.2; let a1_11 := a1_10.2; let a1_12 := a1_11.2; let a1_13 := a1_12.2; let a1_14 := a1_13.2; let a1_15 := a1_14.2; let a1_16 := a1_15.2; let a1_17 := a1_16.2; let a1_18 := a1_17.2; let a1_19 := a1_18.2; let a1_20 := a1_19.2; let a1_21 := a1_20.2; let a1_22 := a1_21.2; let a1_23 := a1_22.2; let a1_24 := a1_23.2; let a1_25 := a1_24.2; let a1_26 := a1_25.2; let a1_27 := a1_26.2; let a1_28 := a1_27.2; let a1_29 := a1_28.2; let a1_30 := a1_29.2; let a1_31 := a1_30.2; let a1_32 := a1_31.2; F β a0_0.1 a0_1.1 a0_2.1 a0_3.1 a0_4.1 a0_5.1 a0_6.1 a0_7.1 a0_8.1 a0_9.1 a0_10.1 a0_11.1 a0_12.1 a0_13.1 a0_14.1 a0_15.1 a0_16.1 a0_17.1 a0_18.1 a0_19.1 a0_20.1 a0_21.1 a0_22.1 a0_23.1 a0_24.1 a0_25.1 a0_26.1 a0_27.1 a0_28.1 a0_29.1 a0_30.1 a0_31.1 a0_32.1 a1_0.1 a1_1.1 a1_2.1 a1_3.1 a1_4.1 a1_5.1 a1_6.1 a1_7.1 a1_8.1 a1_9.1 a1_10.1 a1_11.1 a1_12.1 a1_13.1 a1_14.1 a1_15.1 a1_16.1 a1_17.1 a1_18.1 a1_19.1 a1_20.1 a1_21.1 a1_22.1 a1_23.1 a1_24.1 a1_25.1 a1_26.1 a1_27.1 a1_28.1 a1_29.1 a1_30.1 a1_31.1 a1_32.1 (fun y1 => k (.bool y1))
abbrev W9 (F : T9) : WT := wrap s9 (G9 F)
theorem k9 (F22 : T22) (F23 : T23) (F24 : T24) (β : Type) (e : argsT s9) (k : V → Option β) : fnK cfg (tabL [(22, W22 F22), (23, W23 F23), (24, W24 F24)]) noX 9 Tryz.f9 β (argsEnc s9 e) k = G9 (P9 F22 F23 F24 ) β e k := by kernel_rfl
theorem ok9 : FnOk D 9 (W9 F9) := fn_okW [(22, W22 F22), (23, W23 F23), (24, W24 F24)] noX (fun _ => rfl) Tryz.func9 rfl (tabL_cons ok22 (tabL_cons ok23 (tabL_cons ok24 tabL_nil))) (k9 F22 F23 F24 )
abbrev T3 : Type 1 := (β : Type) → List V → List V → List V → Int → List V → Int → Bool → List UInt8 → List UInt8 → Bool → List V → List V → List V → List UInt8 → List UInt8 → List V → Bool → List V → List V → List V → List V → List V → Int → Int → Int → Int → List V → List V → Bool → List V → List V → Int → Bool → (Bool → Option β) → Option β
def P3 (F5 : T5) (F7 : T7) (F6 : T6) (F8 : T8) (F9 : T9) : T3 := fun β aW_Net_Servers aW_Net_Cache_Entries aW_Net_Log aW_Net_Now aW_Tab_Visits aW_Tab_At aW_Hidden_Ready aW_Hidden_Page_Addr_Host aW_Hidden_Page_Addr_Path aW_Hidden_Page_Policy_Set aW_Hidden_Page_Policy_Scripts aW_Hidden_Page_Policy_Styles aW_Hidden_Page_Policy_Images aW_Hidden_Page_Policy_Nonce aW_Hidden_Page_Tok_Rest aW_Hidden_Page_Queue aW_Hidden_Page_Ended aW_Hidden_Page_Builder_Nodes aW_Hidden_Page_Builder_Open aW_Hidden_Page_Slots aW_Hidden_Page_Mods aW_Hidden_Page_Entries aW_Hidden_Page_Block aW_Hidden_Page_Inline aW_Hidden_Page_Deferred aW_Hidden_Page_Entered aW_Hidden_Page_Ran aW_Hidden_Page_Log aW_Hidden_Page_Loaded aW_Hidden_Taken aW_Hidden_Servers aW_Hidden_Now aW_Fast k =>
 F5 _ aW_Net_Servers aW_Net_Cache_Entries aW_Net_Log aW_Net_Now aW_Tab_Visits aW_Tab_At aW_Hidden_Ready aW_Hidden_Page_Addr_Host aW_Hidden_Page_Addr_Path aW_Hidden_Page_Policy_Set aW_Hidden_Page_Policy_Scripts aW_Hidden_Page_Policy_Styles aW_Hidden_Page_Policy_Images aW_Hidden_Page_Policy_Nonce aW_Hidden_Page_Tok_Rest aW_Hidden_Page_Queue aW_Hidden_Page_Ended aW_Hidden_Page_Builder_Nodes aW_Hidden_Page_Builder_Open aW_Hidden_Page_Slots aW_Hidden_Page_Mods aW_Hidden_Page_Entries aW_Hidden_Page_Block aW_Hidden_Page_Inline aW_Hidden_Page_Deferred aW_Hidden_Page_Entered aW_Hidden_Page_Ran aW_Hidden_Page_Log aW_Hidden_Page_Loaded aW_Hidden_Taken aW_Hidden_Servers aW_Hidden_Now aW_Fast 1048576 fun n1 =>
 br (decide (n1 < 0)) (
 k true) (
 F7 _ aW_Net_Servers aW_Net_Cache_Entries aW_Net_Log aW_Net_Now aW_Tab_Visits aW_Tab_At aW_Hidden_Ready aW_Hidden_Page_Addr_Host aW_Hidden_Page_Addr_Path aW_Hidden_Page_Policy_Set aW_Hidden_Page_Policy_Scripts aW_Hidden_Page_Policy_Styles aW_Hidden_Page_Policy_Images aW_Hidden_Page_Policy_Nonce aW_Hidden_Page_Tok_Rest aW_Hidden_Page_Queue aW_Hidden_Page_Ended aW_Hidden_Page_Builder_Nodes aW_Hidden_Page_Builder_Open aW_Hidden_Page_Slots aW_Hidden_Page_Mods aW_Hidden_Page_Entries aW_Hidden_Page_Block aW_Hidden_Page_Inline aW_Hidden_Page_Deferred aW_Hidden_Page_Entered aW_Hidden_Page_Ran aW_Hidden_Page_Log aW_Hidden_Page_Loaded aW_Hidden_Taken aW_Hidden_Servers aW_Hidden_Now aW_Fast fun l2 l3 l4 n5 l6 n7 b8 t9 t10 b11 l12 l13 l14 t15 t16 l17 b18 l19 l20 l21 l22 l23 n24 n25 n26 n27 l28 l29 b30 l31 l32 n33 b34 =>
 F6 _ l2 l3 l4 n5 l6 n7 b8 t9 t10 b11 l12 l13 l14 t15 t16 l17 b18 l19 l20 l21 l22 l23 n24 n25 n26 n27 l28 l29 b30 l31 l32 n33 b34 fun b35 =>
 F7 _ aW_Net_Servers aW_Net_Cache_Entries aW_Net_Log aW_Net_Now aW_Tab_Visits aW_Tab_At aW_Hidden_Ready aW_Hidden_Page_Addr_Host aW_Hidden_Page_Addr_Path aW_Hidden_Page_Policy_Set aW_Hidden_Page_Policy_Scripts aW_Hidden_Page_Policy_Styles aW_Hidden_Page_Policy_Images aW_Hidden_Page_Policy_Nonce aW_Hidden_Page_Tok_Rest aW_Hidden_Page_Queue aW_Hidden_Page_Ended aW_Hidden_Page_Builder_Nodes aW_Hidden_Page_Builder_Open aW_Hidden_Page_Slots aW_Hidden_Page_Mods aW_Hidden_Page_Entries aW_Hidden_Page_Block aW_Hidden_Page_Inline aW_Hidden_Page_Deferred aW_Hidden_Page_Entered aW_Hidden_Page_Ran aW_Hidden_Page_Log aW_Hidden_Page_Loaded aW_Hidden_Taken aW_Hidden_Servers aW_Hidden_Now aW_Fast fun l36 l37 l38 n39 l40 n41 b42 t43 t44 b45 l46 l47 l48 t49 t50 l51 b52 l53 l54 l55 l56 l57 n58 n59 n60 n61 l62 l63 b64 l65 l66 n67 b68 =>
 F8 _ l36 l37 l38 n39 l40 n41 b42 t43 t44 b45 l46 l47 l48 t49 t50 l51 b52 l53 l54 l55 l56 l57 n58 n59 n60 n61 l62 l63 b64 l65 l66 n67 b68 fun b69 =>
 br (!(b69 == b35)) (
 k false) (
 F7 _ aW_Net_Servers aW_Net_Cache_Entries aW_Net_Log aW_Net_Now aW_Tab_Visits aW_Tab_At aW_Hidden_Ready aW_Hidden_Page_Addr_Host aW_Hidden_Page_Addr_Path aW_Hidden_Page_Policy_Set aW_Hidden_Page_Policy_Scripts aW_Hidden_Page_Policy_Styles aW_Hidden_Page_Policy_Images aW_Hidden_Page_Policy_Nonce aW_Hidden_Page_Tok_Rest aW_Hidden_Page_Queue aW_Hidden_Page_Ended aW_Hidden_Page_Builder_Nodes aW_Hidden_Page_Builder_Open aW_Hidden_Page_Slots aW_Hidden_Page_Mods aW_Hidden_Page_Entries aW_Hidden_Page_Block aW_Hidden_Page_Inline aW_Hidden_Page_Deferred aW_Hidden_Page_Entered aW_Hidden_Page_Ran aW_Hidden_Page_Log aW_Hidden_Page_Loaded aW_Hidden_Taken aW_Hidden_Servers aW_Hidden_Now aW_Fast fun l70 l71 l72 n73 l74 n75 b76 t77 t78 b79 l80 l81 l82 t83 t84 l85 b86 l87 l88 l89 l90 l91 n92 n93 n94 n95 l96 l97 b98 l99 l100 n101 b102 =>
 F9 _ l36 l37 l38 n39 l40 n41 b42 t43 t44 b45 l46 l47 l48 t49 t50 l51 b52 l53 l54 l55 l56 l57 n58 n59 n60 n61 l62 l63 b64 l65 l66 n67 b68 l70 l71 l72 n73 l74 n75 b76 t77 t78 b79 l80 l81 l82 t83 t84 l85 b86 l87 l88 l89 l90 l91 n92 n93 n94 n95 l96 l97 b98 l99 l100 n101 b102 fun b103 =>
 br (!b103) (
 k false) (
 k true)))
def F3 : T3 := P3 F5 F7 F6 F8 F9
abbrev s3 : List (Bool × List CK) := [(true, [.sl 2 false, .sl 10 true, .sl 4 true, .int .i64, .sl 25 false, .int .i64, .bool, .str, .str, .bool, .sl 1 true, .sl 1 true, .sl 1 true, .str, .str, .sl 4 false, .bool, .sl 4 false, .sl 1 true, .sl 8 true, .sl 5 true, .sl 2 true, .int .i64, .int .i64, .int .i64, .int .i64, .sl 2 true, .sl 1 true, .bool, .sl 8 true, .sl 2 false, .int .i64, .bool])]
def G3 (F : T3) (β : Type) (e : (List V × List V × List V × Int × List V × Int × Bool × List UInt8 × List UInt8 × Bool × List V × List V × List V × List UInt8 × List UInt8 × List V × Bool × List V × List V × List V × List V × List V × Int × Int × Int × Int × List V × List V × Bool × List V × List V × Int × Bool × Unit) × Unit) (k : V → Option β) : Option β := let a0_0 := e.1; let a0_1 := a0_0.2; let a0_2 := a0_1.2; let a0_3 := a0_2.2; let a0_4 := a0_3.2; let a0_5 := a0_4.2; let a0_6 := a0_5.2; let a0_7 := a0_6.2; let a0_8 := a0_7.2; let a0_9 := a0_8.2; let a0_10 := a0_9.2; let a0_11 := a0_10.2; let a0_12 := a0_11.2; let a0_13 := a0_12.2; let a0_14 := a0_13.2; let a0_15 := a0_14.2; let a0_16 := a0_15.2; let a0_17 := a0_16.2; let a0_18 := a0_17.2; let a0_19 := a0_18.2; let a0_20 := a0_19.2; let a0_21 := a0_20.2; let a0_22 := a0_21.2; let a0_23 := a0_22.2; let a0_24 := a0_23.2; let a0_25 := a0_24.2; let a0_26 := a0_25.2; let a0_27 := a0_26.2; let a0_28 := a0_27.2; let a0_29 := a0_28.2; let a0_30 := a0_29.2; let a0_31 := a0_30.2; let a0_32 := a0_31.2; F β a0_0.1 a0_1.1 a0_2.1 a0_3.1 a0_4.1 a0_5.1 a0_6.1 a0_7.1 a0_8.1 a0_9.1 a0_10.1 a0_11.1 a0_12.1 a0_13.1 a0_14.1 a0_15.1 a0_16.1 a0_17.1 a0_18.1 a0_19.1 a0_20.1 a0_21.1 a0_22.1 a0_23.1 a0_24.1 a0_25.1 a0_26.1 a0_27.1 a0_28.1 a0_29.1 a0_30.1 a0_31.1 a0_32.1 (fun y1 => k (.bool y1))
abbrev W3 (F : T3) : WT := wrap s3 (G3 F)
theorem k3 (F5 : T5) (F7 : T7) (F6 : T6) (F8 : T8) (F9 : T9) (β : Type) (e : argsT s3) (k : V → Option β) : fnK cfg (tabL [(5, W5 F5), (7, W7 F7), (6, W6 F6), (8, W8 F8), (9, W9 F9)]) noX 3 Tryz.f3 β (argsEnc s3 e) k = G3 (P3 F5 F7 F6 F8 F9 ) β e k := by kernel_rfl
theorem ok3 : FnOk D 3 (W3 F3) := fn_okW [(5, W5 F5), (7, W7 F7), (6, W6 F6), (8, W8 F8), (9, W9 F9)] noX (fun _ => rfl) Tryz.func3 rfl (tabL_cons ok5 (tabL_cons ok7 (tabL_cons ok6 (tabL_cons ok8 (tabL_cons ok9 tabL_nil))))) (k3 F5 F7 F6 F8 F9 )
end
end Go.Am

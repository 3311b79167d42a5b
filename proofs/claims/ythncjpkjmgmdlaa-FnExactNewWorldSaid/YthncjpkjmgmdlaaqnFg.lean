/-
  Functions of the program, extracted by program (sym.py) out of their code: what each computes, and, by the kernel's reckoning, that the machine's looking form computes just that; so what the machine answers.
-/
import Derived.Test.YthncjpkjmgmdlaaqnAmCfg
import Derived.Test.YthncjpkjmgmdlaaqnAmEvOk2
import Derived.KernelRfl
set_option maxRecDepth 10000
set_option linter.unusedVariables false
namespace Go.Am
open Go Go.Proofs
noncomputable section
abbrev WT : Type 1 := (β : Type) → List V → (V → Option β) → Option β
abbrev T101 : Type 1 := (β : Type) → List UInt8 → List UInt8 → List UInt8 → List UInt8 → (Bool → Option β) → Option β
def P101 : T101 := fun β a_Host a_Path b_Host b_Path k =>
 br (!(a_Host == b_Host)) (
 k false) (
 br (!(a_Path == b_Path)) (
 k false) (
 k true))
def F101 : T101 := P101
abbrev s101 : List (Bool × List CK) := [(true, [.str, .str]), (true, [.str, .str])]
def G101 (F : T101) (β : Type) (e : (List UInt8 × List UInt8 × Unit) × (List UInt8 × List UInt8 × Unit) × Unit) (k : V → Option β) : Option β := F β e.1.1 e.1.2.1 e.2.1.1 e.2.1.2.1 (fun y1 => k (.bool y1))
abbrev W101 (F : T101) : WT := wrap s101 (G101 F)
theorem k101 (β : Type) (e : argsT s101) (k : V → Option β) : fnK cfg (tabL []) noX 101 Try.f101 β (argsEnc s101 e) k = G101 (P101 ) β e k := by kernel_rfl
theorem ok101 : FnOk D 101 (W101 F101) := fn_okW [] noX (fun _ => rfl) Try.func101 rfl (tabL_nil) (k101 )
abbrev T115 : Type 1 := (β : Type) → List V → List V → (Bool → Option β) → Option β
def P115 : T115 := fun β a b k =>
 br ((a.length : Int) != (b.length : Int)) (
 k false) (
 whileK (fun s1 =>
 br (decide ((lI s1 2) < ((lL s1 0).length : Int))) (
 chk (0 ≤ (lI s1 2)) <|
 idx false [.str] (lL s1 0) ((lI s1 2).toNat) fun (e2 : List UInt8 × Unit) =>
 chk (0 ≤ (lI s1 2)) <|
 idx false [.str] (lL s1 1) ((lI s1 2).toNat) fun (e3 : List UInt8 × Unit) =>
 br (!(e2.1 == e3.1)) (
 some (.inr (0, [.b false]))) (
 some (.inl [.l (lL s1 0), .l (lL s1 1), .i (IntKind.wrap .i64 ((lI s1 2) + 1))]))) (
 some (.inr (1, [])))) [.l a, .l b, .i 0] fun (r4 : Nat × List Leaf) =>
 if r4.1 = 0 then
 k (lB r4.2 0)
 else
 k true)
def F115 : T115 := P115
def X115 : Exits := fun i => lookN i [] [(4, [(.ret, xk 26 [(4, .bool false)] []), (.exit 0, xk 26 [] [])])]
abbrev s115 : List (Bool × List CK) := [(false, [.sl 1 true]), (false, [.sl 1 true])]
def G115 (F : T115) (β : Type) (e : (List V × Unit) × (List V × Unit) × Unit) (k : V → Option β) : Option β := F β e.1.1 e.2.1.1 (fun y1 => k (.bool y1))
abbrev W115 (F : T115) : WT := wrap s115 (G115 F)
theorem k115 (β : Type) (e : argsT s115) (k : V → Option β) : fnK cfg (tabL []) X115 115 Try.f115 β (argsEnc s115 e) k = G115 (P115 ) β e k := by kernel_rfl
theorem ok115 : FnOk D 115 (W115 F115) := fn_okW [] X115 (fun _ => rfl) Try.func115 rfl (tabL_nil) (k115 )
abbrev T108 : Type 1 := (β : Type) → Bool → List V → List V → List V → List UInt8 → Bool → List V → List V → List V → List UInt8 → (Bool → Option β) → Option β
def P108 (F115 : T115) : T108 := fun β a_Set a_Scripts a_Styles a_Images a_Nonce b_Set b_Scripts b_Styles b_Images b_Nonce k =>
 br (!(a_Set == b_Set)) (
 k false) (
 F115 _ a_Scripts b_Scripts fun b1 =>
 br (!b1) (
 k false) (
 F115 _ a_Styles b_Styles fun b2 =>
 br (!b2) (
 k false) (
 F115 _ a_Images b_Images fun b3 =>
 br (!b3) (
 k false) (
 br (!(a_Nonce == b_Nonce)) (
 k false) (
 k true)))))
def F108 : T108 := P108 F115
abbrev s108 : List (Bool × List CK) := [(true, [.bool, .sl 1 true, .sl 1 true, .sl 1 true, .str]), (true, [.bool, .sl 1 true, .sl 1 true, .sl 1 true, .str])]
def G108 (F : T108) (β : Type) (e : (Bool × List V × List V × List V × List UInt8 × Unit) × (Bool × List V × List V × List V × List UInt8 × Unit) × Unit) (k : V → Option β) : Option β := let a0_0 := e.1; let a0_1 := a0_0.2; let a0_2 := a0_1.2; let a0_3 := a0_2.2; let a0_4 := a0_3.2; let a1_0 := e.2.1; let a1_1 := a1_0.2; let a1_2 := a1_1.2; let a1_3 := a1_2.2; let a1_4 := a1_3.2; F β a0_0.1 a0_1.1 a0_2.1 a0_3.1 a0_4.1 a1_0.1 a1_1.1 a1_2.1 a1_3.1 a1_4.1 (fun y1 => k (.bool y1))
abbrev W108 (F : T108) : WT := wrap s108 (G108 F)
theorem k108 (F115 : T115) (β : Type) (e : argsT s108) (k : V → Option β) : fnK cfg (tabL [(115, W115 F115)]) noX 108 Try.f108 β (argsEnc s108 e) k = G108 (P108 F115 ) β e k := by kernel_rfl
theorem ok108 : FnOk D 108 (W108 F108) := fn_okW [(115, W115 F115)] noX (fun _ => rfl) Try.func108 rfl (tabL_cons ok115 tabL_nil) (k108 F115 )
abbrev T109 : Type 1 := (β : Type) → List UInt8 → List UInt8 → (Bool → Option β) → Option β
def P109 : T109 := fun β a_Rest b_Rest k =>
 br (!(a_Rest == b_Rest)) (
 k false) (
 k true)
def F109 : T109 := P109
abbrev s109 : List (Bool × List CK) := [(true, [.str]), (true, [.str])]
def G109 (F : T109) (β : Type) (e : (List UInt8 × Unit) × (List UInt8 × Unit) × Unit) (k : V → Option β) : Option β := F β e.1.1 e.2.1.1 (fun y1 => k (.bool y1))
abbrev W109 (F : T109) : WT := wrap s109 (G109 F)
theorem k109 (β : Type) (e : argsT s109) (k : V → Option β) : fnK cfg (tabL []) noX 109 Try.f109 β (argsEnc s109 e) k = G109 (P109 ) β e k := by kernel_rfl
theorem ok109 : FnOk D 109 (W109 F109) := fn_okW [] noX (fun _ => rfl) Try.func109 rfl (tabL_nil) (k109 )
abbrev T171 : Type 1 := (β : Type) → List UInt8 → List UInt8 → List UInt8 → List UInt8 → (Bool → Option β) → Option β
def P171 : T171 := fun β a_Name a_Value b_Name b_Value k =>
 br (!(a_Name == b_Name)) (
 k false) (
 br (!(a_Value == b_Value)) (
 k false) (
 k true))
def F171 : T171 := P171
abbrev s171 : List (Bool × List CK) := [(true, [.str, .str]), (true, [.str, .str])]
def G171 (F : T171) (β : Type) (e : (List UInt8 × List UInt8 × Unit) × (List UInt8 × List UInt8 × Unit) × Unit) (k : V → Option β) : Option β := F β e.1.1 e.1.2.1 e.2.1.1 e.2.1.2.1 (fun y1 => k (.bool y1))
abbrev W171 (F : T171) : WT := wrap s171 (G171 F)
theorem k171 (β : Type) (e : argsT s171) (k : V → Option β) : fnK cfg (tabL []) noX 171 Try.f171 β (argsEnc s171 e) k = G171 (P171 ) β e k := by kernel_rfl
theorem ok171 : FnOk D 171 (W171 F171) := fn_okW [] noX (fun _ => rfl) Try.func171 rfl (tabL_nil) (k171 )
abbrev T163 : Type 1 := (β : Type) → List V → List V → (Bool → Option β) → Option β
def P163 (F171 : T171) : T163 := fun β a b k =>
 br ((a.length : Int) != (b.length : Int)) (
 k false) (
 whileK (fun s1 =>
 br (decide ((lI s1 2) < ((lL s1 0).length : Int))) (
 chk (0 ≤ (lI s1 2)) <|
 idx true [.str, .str] (lL s1 0) ((lI s1 2).toNat) fun (e2 : List UInt8 × List UInt8 × Unit) =>
 chk (0 ≤ (lI s1 2)) <|
 idx true [.str, .str] (lL s1 1) ((lI s1 2).toNat) fun (e3 : List UInt8 × List UInt8 × Unit) =>
 F171 _ e2.1 e2.2.1 e3.1 e3.2.1 fun b4 =>
 br (!b4) (
 some (.inr (0, [.b false]))) (
 some (.inl [.l (lL s1 0), .l (lL s1 1), .i (IntKind.wrap .i64 ((lI s1 2) + 1))]))) (
 some (.inr (1, [])))) [.l a, .l b, .i 0] fun (r5 : Nat × List Leaf) =>
 if r5.1 = 0 then
 k (lB r5.2 0)
 else
 k true)
def F163 : T163 := P163 F171
def X163 : Exits := fun i => lookN i [] [(4, [(.ret, xk 27 [(4, .bool false)] []), (.exit 0, xk 27 [] [])])]
abbrev s163 : List (Bool × List CK) := [(false, [.sl 2 true]), (false, [.sl 2 true])]
def G163 (F : T163) (β : Type) (e : (List V × Unit) × (List V × Unit) × Unit) (k : V → Option β) : Option β := F β e.1.1 e.2.1.1 (fun y1 => k (.bool y1))
abbrev W163 (F : T163) : WT := wrap s163 (G163 F)
theorem k163 (F171 : T171) (β : Type) (e : argsT s163) (k : V → Option β) : fnK cfg (tabL [(171, W171 F171)]) X163 163 Try.f163 β (argsEnc s163 e) k = G163 (P163 F171 ) β e k := by kernel_rfl
theorem ok163 : FnOk D 163 (W163 F163) := fn_okW [(171, W171 F171)] X163 (fun _ => rfl) Try.func163 rfl (tabL_cons ok171 tabL_nil) (k163 F171 )
abbrev T146 : Type 1 := (β : Type) → Int → List UInt8 → List V → List UInt8 → Int → List UInt8 → List V → List UInt8 → (Bool → Option β) → Option β
def P146 (F163 : T163) : T146 := fun β a_Kind a_Name a_Attrs a_Text b_Kind b_Name b_Attrs b_Text k =>
 br (a_Kind != b_Kind) (
 k false) (
 br (!(a_Name == b_Name)) (
 k false) (
 F163 _ a_Attrs b_Attrs fun b1 =>
 br (!b1) (
 k false) (
 br (!(a_Text == b_Text)) (
 k false) (
 k true))))
def F146 : T146 := P146 F163
abbrev s146 : List (Bool × List CK) := [(true, [.int .i64, .str, .sl 2 true, .str]), (true, [.int .i64, .str, .sl 2 true, .str])]
def G146 (F : T146) (β : Type) (e : (Int × List UInt8 × List V × List UInt8 × Unit) × (Int × List UInt8 × List V × List UInt8 × Unit) × Unit) (k : V → Option β) : Option β := F β e.1.1 e.1.2.1 e.1.2.2.1 e.1.2.2.2.1 e.2.1.1 e.2.1.2.1 e.2.1.2.2.1 e.2.1.2.2.2.1 (fun y1 => k (.bool y1))
abbrev W146 (F : T146) : WT := wrap s146 (G146 F)
theorem k146 (F163 : T163) (β : Type) (e : argsT s146) (k : V → Option β) : fnK cfg (tabL [(163, W163 F163)]) noX 146 Try.f146 β (argsEnc s146 e) k = G146 (P146 F163 ) β e k := by kernel_rfl
theorem ok146 : FnOk D 146 (W146 F146) := fn_okW [(163, W163 F163)] noX (fun _ => rfl) Try.func146 rfl (tabL_cons ok163 tabL_nil) (k146 F163 )
abbrev T110 : Type 1 := (β : Type) → List V → List V → (Bool → Option β) → Option β
def P110 (F146 : T146) : T110 := fun β a b k =>
 br ((a.length : Int) != (b.length : Int)) (
 k false) (
 whileK (fun s1 =>
 br (decide ((lI s1 2) < ((lL s1 0).length : Int))) (
 chk (0 ≤ (lI s1 2)) <|
 idx true [.int .i64, .str, .sl 2 true, .str] (lL s1 0) ((lI s1 2).toNat) fun (e2 : Int × List UInt8 × List V × List UInt8 × Unit) =>
 chk (0 ≤ (lI s1 2)) <|
 idx true [.int .i64, .str, .sl 2 true, .str] (lL s1 1) ((lI s1 2).toNat) fun (e3 : Int × List UInt8 × List V × List UInt8 × Unit) =>
 F146 _ e2.1 e2.2.1 e2.2.2.1 e2.2.2.2.1 e3.1 e3.2.1 e3.2.2.1 e3.2.2.2.1 fun b4 =>
 br (!b4) (
 some (.inr (0, [.b false]))) (
 some (.inl [.l (lL s1 0), .l (lL s1 1), .i (IntKind.wrap .i64 ((lI s1 2) + 1))]))) (
 some (.inr (1, [])))) [.l a, .l b, .i 0] fun (r5 : Nat × List Leaf) =>
 if r5.1 = 0 then
 k (lB r5.2 0)
 else
 k true)
def F110 : T110 := P110 F146
def X110 : Exits := fun i => lookN i [] [(4, [(.ret, xk 27 [(4, .bool false)] []), (.exit 0, xk 27 [] [])])]
abbrev s110 : List (Bool × List CK) := [(false, [.sl 4 false]), (false, [.sl 4 false])]
def G110 (F : T110) (β : Type) (e : (List V × Unit) × (List V × Unit) × Unit) (k : V → Option β) : Option β := F β e.1.1 e.2.1.1 (fun y1 => k (.bool y1))
abbrev W110 (F : T110) : WT := wrap s110 (G110 F)
theorem k110 (F146 : T146) (β : Type) (e : argsT s110) (k : V → Option β) : fnK cfg (tabL [(146, W146 F146)]) X110 110 Try.f110 β (argsEnc s110 e) k = G110 (P110 F146 ) β e k := by kernel_rfl
theorem ok110 : FnOk D 110 (W110 F110) := fn_okW [(146, W146 F146)] X110 (fun _ => rfl) Try.func110 rfl (tabL_cons ok146 tabL_nil) (k110 F146 )
abbrev T164 : Type 1 := (β : Type) → List UInt8 → List UInt8 → Int → List V → List UInt8 → List UInt8 → Int → List V → (Bool → Option β) → Option β
def P164 (F163 : T163) : T164 := fun β a_Name a_Text a_Parent a_Attrs b_Name b_Text b_Parent b_Attrs k =>
 br (!(a_Name == b_Name)) (
 k false) (
 br (!(a_Text == b_Text)) (
 k false) (
 br (a_Parent != b_Parent) (
 k false) (
 F163 _ a_Attrs b_Attrs fun b1 =>
 br (!b1) (
 k false) (
 k true))))
def F164 : T164 := P164 F163
abbrev s164 : List (Bool × List CK) := [(true, [.str, .str, .int .i64, .sl 2 true]), (true, [.str, .str, .int .i64, .sl 2 true])]
def G164 (F : T164) (β : Type) (e : (List UInt8 × List UInt8 × Int × List V × Unit) × (List UInt8 × List UInt8 × Int × List V × Unit) × Unit) (k : V → Option β) : Option β := F β e.1.1 e.1.2.1 e.1.2.2.1 e.1.2.2.2.1 e.2.1.1 e.2.1.2.1 e.2.1.2.2.1 e.2.1.2.2.2.1 (fun y1 => k (.bool y1))
abbrev W164 (F : T164) : WT := wrap s164 (G164 F)
theorem k164 (F163 : T163) (β : Type) (e : argsT s164) (k : V → Option β) : fnK cfg (tabL [(163, W163 F163)]) noX 164 Try.f164 β (argsEnc s164 e) k = G164 (P164 F163 ) β e k := by kernel_rfl
theorem ok164 : FnOk D 164 (W164 F164) := fn_okW [(163, W163 F163)] noX (fun _ => rfl) Try.func164 rfl (tabL_cons ok163 tabL_nil) (k164 F163 )
abbrev T147 : Type 1 := (β : Type) → List V → List V → (Bool → Option β) → Option β
def P147 (F164 : T164) : T147 := fun β a b k =>
 br ((a.length : Int) != (b.length : Int)) (
 k false) (
 whileK (fun s1 =>
 br (decide ((lI s1 2) < ((lL s1 0).length : Int))) (
 chk (0 ≤ (lI s1 2)) <|
 idx true [.str, .str, .int .i64, .sl 2 true] (lL s1 0) ((lI s1 2).toNat) fun (e2 : List UInt8 × List UInt8 × Int × List V × Unit) =>
 chk (0 ≤ (lI s1 2)) <|
 idx true [.str, .str, .int .i64, .sl 2 true] (lL s1 1) ((lI s1 2).toNat) fun (e3 : List UInt8 × List UInt8 × Int × List V × Unit) =>
 F164 _ e2.1 e2.2.1 e2.2.2.1 e2.2.2.2.1 e3.1 e3.2.1 e3.2.2.1 e3.2.2.2.1 fun b4 =>
 br (!b4) (
 some (.inr (0, [.b false]))) (
 some (.inl [.l (lL s1 0), .l (lL s1 1), .i (IntKind.wrap .i64 ((lI s1 2) + 1))]))) (
 some (.inr (1, [])))) [.l a, .l b, .i 0] fun (r5 : Nat × List Leaf) =>
 if r5.1 = 0 then
 k (lB r5.2 0)
 else
 k true)
def F147 : T147 := P147 F164
def X147 : Exits := fun i => lookN i [] [(4, [(.ret, xk 27 [(4, .bool false)] []), (.exit 0, xk 27 [] [])])]
abbrev s147 : List (Bool × List CK) := [(false, [.sl 4 false]), (false, [.sl 4 false])]
def G147 (F : T147) (β : Type) (e : (List V × Unit) × (List V × Unit) × Unit) (k : V → Option β) : Option β := F β e.1.1 e.2.1.1 (fun y1 => k (.bool y1))
abbrev W147 (F : T147) : WT := wrap s147 (G147 F)
theorem k147 (F164 : T164) (β : Type) (e : argsT s147) (k : V → Option β) : fnK cfg (tabL [(164, W164 F164)]) X147 147 Try.f147 β (argsEnc s147 e) k = G147 (P147 F164 ) β e k := by kernel_rfl
theorem ok147 : FnOk D 147 (W147 F147) := fn_okW [(164, W164 F164)] X147 (fun _ => rfl) Try.func147 rfl (tabL_cons ok164 tabL_nil) (k147 F164 )
abbrev T148 : Type 1 := (β : Type) → List V → List V → (Bool → Option β) → Option β
def P148 : T148 := fun β a b k =>
 br ((a.length : Int) != (b.length : Int)) (
 k false) (
 whileK (fun s1 =>
 br (decide ((lI s1 2) < ((lL s1 0).length : Int))) (
 chk (0 ≤ (lI s1 2)) <|
 idx false [.int .i64] (lL s1 0) ((lI s1 2).toNat) fun (e2 : Int × Unit) =>
 chk (0 ≤ (lI s1 2)) <|
 idx false [.int .i64] (lL s1 1) ((lI s1 2).toNat) fun (e3 : Int × Unit) =>
 br (e2.1 != e3.1) (
 some (.inr (0, [.b false]))) (
 some (.inl [.l (lL s1 0), .l (lL s1 1), .i (IntKind.wrap .i64 ((lI s1 2) + 1))]))) (
 some (.inr (1, [])))) [.l a, .l b, .i 0] fun (r4 : Nat × List Leaf) =>
 if r4.1 = 0 then
 k (lB r4.2 0)
 else
 k true)
def F148 : T148 := P148
def X148 : Exits := fun i => lookN i [] [(4, [(.ret, xk 26 [(4, .bool false)] []), (.exit 0, xk 26 [] [])])]
abbrev s148 : List (Bool × List CK) := [(false, [.sl 1 true]), (false, [.sl 1 true])]
def G148 (F : T148) (β : Type) (e : (List V × Unit) × (List V × Unit) × Unit) (k : V → Option β) : Option β := F β e.1.1 e.2.1.1 (fun y1 => k (.bool y1))
abbrev W148 (F : T148) : WT := wrap s148 (G148 F)
theorem k148 (β : Type) (e : argsT s148) (k : V → Option β) : fnK cfg (tabL []) X148 148 Try.f148 β (argsEnc s148 e) k = G148 (P148 ) β e k := by kernel_rfl
theorem ok148 : FnOk D 148 (W148 F148) := fn_okW [] X148 (fun _ => rfl) Try.func148 rfl (tabL_nil) (k148 )
abbrev T111 : Type 1 := (β : Type) → List V → List V → List V → List V → (Bool → Option β) → Option β
def P111 (F147 : T147) (F148 : T148) : T111 := fun β a_Nodes a_Open b_Nodes b_Open k =>
 F147 _ a_Nodes b_Nodes fun b1 =>
 br (!b1) (
 k false) (
 F148 _ a_Open b_Open fun b2 =>
 br (!b2) (
 k false) (
 k true))
def F111 : T111 := P111 F147 F148
abbrev s111 : List (Bool × List CK) := [(true, [.sl 4 false, .sl 1 true]), (true, [.sl 4 false, .sl 1 true])]
def G111 (F : T111) (β : Type) (e : (List V × List V × Unit) × (List V × List V × Unit) × Unit) (k : V → Option β) : Option β := F β e.1.1 e.1.2.1 e.2.1.1 e.2.1.2.1 (fun y1 => k (.bool y1))
abbrev W111 (F : T111) : WT := wrap s111 (G111 F)
theorem k111 (F147 : T147) (F148 : T148) (β : Type) (e : argsT s111) (k : V → Option β) : fnK cfg (tabL [(147, W147 F147), (148, W148 F148)]) noX 111 Try.f111 β (argsEnc s111 e) k = G111 (P111 F147 F148 ) β e k := by kernel_rfl
theorem ok111 : FnOk D 111 (W111 F111) := fn_okW [(147, W147 F147), (148, W148 F148)] noX (fun _ => rfl) Try.func111 rfl (tabL_cons ok147 (tabL_cons ok148 tabL_nil)) (k111 F147 F148 )
abbrev T149 : Type 1 := (β : Type) → Int → List UInt8 → List UInt8 → List UInt8 → Int → Bool → Int → List UInt8 → Int → List UInt8 → List UInt8 → List UInt8 → Int → Bool → Int → List UInt8 → (Bool → Option β) → Option β
def P149 (F101 : T101) : T149 := fun β a_Mode a_To_Host a_To_Path a_Digest a_Node a_Done a_Code a_Body b_Mode b_To_Host b_To_Path b_Digest b_Node b_Done b_Code b_Body k =>
 br (a_Mode != b_Mode) (
 k false) (
 F101 _ a_To_Host a_To_Path b_To_Host b_To_Path fun b1 =>
 br (!b1) (
 k false) (
 br (!(a_Digest == b_Digest)) (
 k false) (
 br (a_Node != b_Node) (
 k false) (
 br (!(a_Done == b_Done)) (
 k false) (
 br (a_Code != b_Code) (
 k false) (
 br (!(a_Body == b_Body)) (
 k false) (
 k true)))))))
def F149 : T149 := P149 F101
abbrev s149 : List (Bool × List CK) := [(true, [.int .i64, .str, .str, .str, .int .i64, .bool, .int .i64, .str]), (true, [.int .i64, .str, .str, .str, .int .i64, .bool, .int .i64, .str])]
def G149 (F : T149) (β : Type) (e : (Int × List UInt8 × List UInt8 × List UInt8 × Int × Bool × Int × List UInt8 × Unit) × (Int × List UInt8 × List UInt8 × List UInt8 × Int × Bool × Int × List UInt8 × Unit) × Unit) (k : V → Option β) : Option β := let a0_0 := e.1; let a0_1 := a0_0.2; let a0_2 := a0_1.2; let a0_3 := a0_2.2; let a0_4 := a0_3.2; let a0_5 := a0_4.2; let a0_6 := a0_5.2; let a0_7 := a0_6.2; let a1_0 := e.2.1; let a1_1 := a1_0.2; let a1_2 := a1_1.2; let a1_3 := a1_2.2; let a1_4 := a1_3.2; let a1_5 := a1_4.2; let a1_6 := a1_5.2; let a1_7 := a1_6.2; F β a0_0.1 a0_1.1 a0_2.1 a0_3.1 a0_4.1 a0_5.1 a0_6.1 a0_7.1 a1_0.1 a1_1.1 a1_2.1 a1_3.1 a1_4.1 a1_5.1 a1_6.1 a1_7.1 (fun y1 => k (.bool y1))
abbrev W149 (F : T149) : WT := wrap s149 (G149 F)
theorem k149 (F101 : T101) (β : Type) (e : argsT s149) (k : V → Option β) : fnK cfg (tabL [(101, W101 F101)]) noX 149 Try.f149 β (argsEnc s149 e) k = G149 (P149 F101 ) β e k := by kernel_rfl
theorem ok149 : FnOk D 149 (W149 F149) := fn_okW [(101, W101 F101)] noX (fun _ => rfl) Try.func149 rfl (tabL_cons ok101 tabL_nil) (k149 F101 )
abbrev T112 : Type 1 := (β : Type) → List V → List V → (Bool → Option β) → Option β
def P112 (F149 : T149) : T112 := fun β a b k =>
 br ((a.length : Int) != (b.length : Int)) (
 k false) (
 whileK (fun s1 =>
 br (decide ((lI s1 2) < ((lL s1 0).length : Int))) (
 chk (0 ≤ (lI s1 2)) <|
 idx true [.int .i64, .str, .str, .str, .int .i64, .bool, .int .i64, .str] (lL s1 0) ((lI s1 2).toNat) fun (e2 : Int × List UInt8 × List UInt8 × List UInt8 × Int × Bool × Int × List UInt8 × Unit) =>
 chk (0 ≤ (lI s1 2)) <|
 idx true [.int .i64, .str, .str, .str, .int .i64, .bool, .int .i64, .str] (lL s1 1) ((lI s1 2).toNat) fun (e3 : Int × List UInt8 × List UInt8 × List UInt8 × Int × Bool × Int × List UInt8 × Unit) =>
 F149 _ e2.1 e2.2.1 e2.2.2.1 e2.2.2.2.1 e2.2.2.2.2.1 e2.2.2.2.2.2.1 e2.2.2.2.2.2.2.1 e2.2.2.2.2.2.2.2.1 e3.1 e3.2.1 e3.2.2.1 e3.2.2.2.1 e3.2.2.2.2.1 e3.2.2.2.2.2.1 e3.2.2.2.2.2.2.1 e3.2.2.2.2.2.2.2.1 fun b4 =>
 br (!b4) (
 some (.inr (0, [.b false]))) (
 some (.inl [.l (lL s1 0), .l (lL s1 1), .i (IntKind.wrap .i64 ((lI s1 2) + 1))]))) (
 some (.inr (1, [])))) [.l a, .l b, .i 0] fun (r5 : Nat × List Leaf) =>
 if r5.1 = 0 then
 k (lB r5.2 0)
 else
 k true)
def F112 : T112 := P112 F149
def X112 : Exits := fun i => lookN i [] [(4, [(.ret, xk 27 [(4, .bool false)] []), (.exit 0, xk 27 [] [])])]
abbrev s112 : List (Bool × List CK) := [(false, [.sl 8 true]), (false, [.sl 8 true])]
def G112 (F : T112) (β : Type) (e : (List V × Unit) × (List V × Unit) × Unit) (k : V → Option β) : Option β := F β e.1.1 e.2.1.1 (fun y1 => k (.bool y1))
abbrev W112 (F : T112) : WT := wrap s112 (G112 F)
theorem k112 (F149 : T149) (β : Type) (e : argsT s112) (k : V → Option β) : fnK cfg (tabL [(149, W149 F149)]) X112 112 Try.f112 β (argsEnc s112 e) k = G112 (P112 F149 ) β e k := by kernel_rfl
theorem ok112 : FnOk D 112 (W112 F112) := fn_okW [(149, W149 F149)] X112 (fun _ => rfl) Try.func112 rfl (tabL_cons ok149 tabL_nil) (k112 F149 )
abbrev T150 : Type 1 := (β : Type) → List UInt8 → List UInt8 → Bool → Int → List UInt8 → List UInt8 → List UInt8 → Bool → Int → List UInt8 → (Bool → Option β) → Option β
def P150 (F101 : T101) : T150 := fun β a_To_Host a_To_Path a_Done a_Code a_Body b_To_Host b_To_Path b_Done b_Code b_Body k =>
 F101 _ a_To_Host a_To_Path b_To_Host b_To_Path fun b1 =>
 br (!b1) (
 k false) (
 br (!(a_Done == b_Done)) (
 k false) (
 br (a_Code != b_Code) (
 k false) (
 br (!(a_Body == b_Body)) (
 k false) (
 k true))))
def F150 : T150 := P150 F101
abbrev s150 : List (Bool × List CK) := [(true, [.str, .str, .bool, .int .i64, .str]), (true, [.str, .str, .bool, .int .i64, .str])]
def G150 (F : T150) (β : Type) (e : (List UInt8 × List UInt8 × Bool × Int × List UInt8 × Unit) × (List UInt8 × List UInt8 × Bool × Int × List UInt8 × Unit) × Unit) (k : V → Option β) : Option β := let a0_0 := e.1; let a0_1 := a0_0.2; let a0_2 := a0_1.2; let a0_3 := a0_2.2; let a0_4 := a0_3.2; let a1_0 := e.2.1; let a1_1 := a1_0.2; let a1_2 := a1_1.2; let a1_3 := a1_2.2; let a1_4 := a1_3.2; F β a0_0.1 a0_1.1 a0_2.1 a0_3.1 a0_4.1 a1_0.1 a1_1.1 a1_2.1 a1_3.1 a1_4.1 (fun y1 => k (.bool y1))
abbrev W150 (F : T150) : WT := wrap s150 (G150 F)
theorem k150 (F101 : T101) (β : Type) (e : argsT s150) (k : V → Option β) : fnK cfg (tabL [(101, W101 F101)]) noX 150 Try.f150 β (argsEnc s150 e) k = G150 (P150 F101 ) β e k := by kernel_rfl
theorem ok150 : FnOk D 150 (W150 F150) := fn_okW [(101, W101 F101)] noX (fun _ => rfl) Try.func150 rfl (tabL_cons ok101 tabL_nil) (k150 F101 )
abbrev T113 : Type 1 := (β : Type) → List V → List V → (Bool → Option β) → Option β
def P113 (F150 : T150) : T113 := fun β a b k =>
 br ((a.length : Int) != (b.length : Int)) (
 k false) (
 whileK (fun s1 =>
 br (decide ((lI s1 2) < ((lL s1 0).length : Int))) (
 chk (0 ≤ (lI s1 2)) <|
 idx true [.str, .str, .bool, .int .i64, .str] (lL s1 0) ((lI s1 2).toNat) fun (e2 : List UInt8 × List UInt8 × Bool × Int × List UInt8 × Unit) =>
 chk (0 ≤ (lI s1 2)) <|
 idx true [.str, .str, .bool, .int .i64, .str] (lL s1 1) ((lI s1 2).toNat) fun (e3 : List UInt8 × List UInt8 × Bool × Int × List UInt8 × Unit) =>
 F150 _ e2.1 e2.2.1 e2.2.2.1 e2.2.2.2.1 e2.2.2.2.2.1 e3.1 e3.2.1 e3.2.2.1 e3.2.2.2.1 e3.2.2.2.2.1 fun b4 =>
 br (!b4) (
 some (.inr (0, [.b false]))) (
 some (.inl [.l (lL s1 0), .l (lL s1 1), .i (IntKind.wrap .i64 ((lI s1 2) + 1))]))) (
 some (.inr (1, [])))) [.l a, .l b, .i 0] fun (r5 : Nat × List Leaf) =>
 if r5.1 = 0 then
 k (lB r5.2 0)
 else
 k true)
def F113 : T113 := P113 F150
def X113 : Exits := fun i => lookN i [] [(4, [(.ret, xk 27 [(4, .bool false)] []), (.exit 0, xk 27 [] [])])]
abbrev s113 : List (Bool × List CK) := [(false, [.sl 5 true]), (false, [.sl 5 true])]
def G113 (F : T113) (β : Type) (e : (List V × Unit) × (List V × Unit) × Unit) (k : V → Option β) : Option β := F β e.1.1 e.2.1.1 (fun y1 => k (.bool y1))
abbrev W113 (F : T113) : WT := wrap s113 (G113 F)
theorem k113 (F150 : T150) (β : Type) (e : argsT s113) (k : V → Option β) : fnK cfg (tabL [(150, W150 F150)]) X113 113 Try.f113 β (argsEnc s113 e) k = G113 (P113 F150 ) β e k := by kernel_rfl
theorem ok113 : FnOk D 113 (W113 F113) := fn_okW [(150, W150 F150)] X113 (fun _ => rfl) Try.func113 rfl (tabL_cons ok150 tabL_nil) (k113 F150 )
abbrev T114 : Type 1 := (β : Type) → List V → List V → (Bool → Option β) → Option β
def P114 (F101 : T101) : T114 := fun β a b k =>
 br ((a.length : Int) != (b.length : Int)) (
 k false) (
 whileK (fun s1 =>
 br (decide ((lI s1 2) < ((lL s1 0).length : Int))) (
 chk (0 ≤ (lI s1 2)) <|
 idx true [.str, .str] (lL s1 0) ((lI s1 2).toNat) fun (e2 : List UInt8 × List UInt8 × Unit) =>
 chk (0 ≤ (lI s1 2)) <|
 idx true [.str, .str] (lL s1 1) ((lI s1 2).toNat) fun (e3 : List UInt8 × List UInt8 × Unit) =>
 F101 _ e2.1 e2.2.1 e3.1 e3.2.1 fun b4 =>
 br (!b4) (
 some (.inr (0, [.b false]))) (
 some (.inl [.l (lL s1 0), .l (lL s1 1), .i (IntKind.wrap .i64 ((lI s1 2) + 1))]))) (
 some (.inr (1, [])))) [.l a, .l b, .i 0] fun (r5 : Nat × List Leaf) =>
 if r5.1 = 0 then
 k (lB r5.2 0)
 else
 k true)
def F114 : T114 := P114 F101
def X114 : Exits := fun i => lookN i [] [(4, [(.ret, xk 27 [(4, .bool false)] []), (.exit 0, xk 27 [] [])])]
abbrev s114 : List (Bool × List CK) := [(false, [.sl 2 true]), (false, [.sl 2 true])]
def G114 (F : T114) (β : Type) (e : (List V × Unit) × (List V × Unit) × Unit) (k : V → Option β) : Option β := F β e.1.1 e.2.1.1 (fun y1 => k (.bool y1))
abbrev W114 (F : T114) : WT := wrap s114 (G114 F)
theorem k114 (F101 : T101) (β : Type) (e : argsT s114) (k : V → Option β) : fnK cfg (tabL [(101, W101 F101)]) X114 114 Try.f114 β (argsEnc s114 e) k = G114 (P114 F101 ) β e k := by kernel_rfl
theorem ok114 : FnOk D 114 (W114 F114) := fn_okW [(101, W101 F101)] X114 (fun _ => rfl) Try.func114 rfl (tabL_cons ok101 tabL_nil) (k114 F101 )
abbrev T78 : Type 1 := (β : Type) → List UInt8 → List UInt8 → Bool → List V → List V → List V → List UInt8 → List UInt8 → List V → Bool → List V → List V → List V → List V → List V → Int → Int → Int → Int → List V → List V → Bool → List UInt8 → List UInt8 → Bool → List V → List V → List V → List UInt8 → List UInt8 → List V → Bool → List V → List V → List V → List V → List V → Int → Int → Int → Int → List V → List V → Bool → (Bool → Option β) → Option β
def P78 (F101 : T101) (F108 : T108) (F109 : T109) (F110 : T110) (F111 : T111) (F112 : T112) (F113 : T113) (F114 : T114) (F115 : T115) : T78 := fun β a_Addr_Host a_Addr_Path a_Policy_Set a_Policy_Scripts a_Policy_Styles a_Policy_Images a_Policy_Nonce a_Tok_Rest a_Queue a_Ended a_Builder_Nodes a_Builder_Open a_Slots a_Mods a_Entries a_Block a_Inline a_Deferred a_Entered a_Ran a_Log a_Loaded b_Addr_Host b_Addr_Path b_Policy_Set b_Policy_Scripts b_Policy_Styles b_Policy_Images b_Policy_Nonce b_Tok_Rest b_Queue b_Ended b_Builder_Nodes b_Builder_Open b_Slots b_Mods b_Entries b_Block b_Inline b_Deferred b_Entered b_Ran b_Log b_Loaded k =>
 F101 _ a_Addr_Host a_Addr_Path b_Addr_Host b_Addr_Path fun b1 =>
 br (!b1) (
 k false) (
 F108 _ a_Policy_Set a_Policy_Scripts a_Policy_Styles a_Policy_Images a_Policy_Nonce b_Policy_Set b_Policy_Scripts b_Policy_Styles b_Policy_Images b_Policy_Nonce fun b2 =>
 br (!b2) (
 k false) (
 F109 _ a_Tok_Rest b_Tok_Rest fun b3 =>
 br (!b3) (
 k false) (
 F110 _ a_Queue b_Queue fun b4 =>
 br (!b4) (
 k false) (
 br (!(a_Ended == b_Ended)) (
 k false) (
 F111 _ a_Builder_Nodes a_Builder_Open b_Builder_Nodes b_Builder_Open fun b5 =>
 br (!b5) (
 k false) (
 F112 _ a_Slots b_Slots fun b6 =>
 br (!b6) (
 k false) (
 F113 _ a_Mods b_Mods fun b7 =>
 br (!b7) (
 k false) (
 F114 _ a_Entries b_Entries fun b8 =>
 br (!b8) (
 k false) (
 br (a_Block != b_Block) (
 k false) (
 br (a_Inline != b_Inline) (
 k false) (
 br (a_Deferred != b_Deferred) (
 k false) (
 br (a_Entered != b_Entered) (
 k false) (
 F114 _ a_Ran b_Ran fun b9 =>
 br (!b9) (
 k false) (
 F115 _ a_Log b_Log fun b10 =>
 br (!b10) (
 k false) (
 br (!(a_Loaded == b_Loaded)) (
 k false) (
 k true))))))))))))))))
def F78 : T78 := P78 F101 F108 F109 F110 F111 F112 F113 F114 F115
abbrev s78 : List (Bool × List CK) := [(true, [.str, .str, .bool, .sl 1 true, .sl 1 true, .sl 1 true, .str, .str, .sl 4 false, .bool, .sl 4 false, .sl 1 true, .sl 8 true, .sl 5 true, .sl 2 true, .int .i64, .int .i64, .int .i64, .int .i64, .sl 2 true, .sl 1 true, .bool]), (true, [.str, .str, .bool, .sl 1 true, .sl 1 true, .sl 1 true, .str, .str, .sl 4 false, .bool, .sl 4 false, .sl 1 true, .sl 8 true, .sl 5 true, .sl 2 true, .int .i64, .int .i64, .int .i64, .int .i64, .sl 2 true, .sl 1 true, .bool])]
def G78 (F : T78) (β : Type) (e : (List UInt8 × List UInt8 × Bool × List V × List V × List V × List UInt8 × List UInt8 × List V × Bool × List V × List V × List V × List V × List V × Int × Int × Int × Int × List V × List V × Bool × Unit) × (List UInt8 × List UInt8 × Bool × List V × List V × List V × List UInt8 × List UInt8 × List V × Bool × List V × List V × List V × List V × List V × Int × Int × Int × Int × List V × List V × Bool × Unit) × Unit) (k : V → Option β) : Option β := let a0_0 := e.1; let a0_1 := a0_0.2; let a0_2 := a0_1.2; let a0_3 := a0_2.2; let a0_4 := a0_3.2; let a0_5 := a0_4.2; let a0_6 := a0_5.2; let a0_7 := a0_6.2; let a0_8 := a0_7.2; let a0_9 := a0_8.2; let a0_10 := a0_9.2; let a0_11 := a0_10.2; let a0_12 := a0_11.2; let a0_13 := a0_12.2; let a0_14 := a0_13.2; let a0_15 := a0_14.2; let a0_16 := a0_15.2; let a0_17 := a0_16.2; let a0_18 := a0_17.2; let a0_19 := a0_18.2; let a0_20 := a0_19.2; let a0_21 := a0_20.2; let a1_0 := e.2.1; let a1_1 := a1_0.2; let a1_2 := a1_1.2; let a1_3 := a1_2.2; let a1_4 := a1_3.2; let a1_5 := a1_4.2; let a1_6 := a1_5.2; let a1_7 := a1_6.2; let a1_8 := a1_7.2; let a1_9 := a1_8.2; let a1_10 := a1_9.2; let a1_11 := a1_10.2; let a1_12 := a1_11.2; let a1_13 := a1_12.2; let a1_14 := a1_13.2; let a1_15 := a1_14.2; let a1_16 := a1_15.2; let a1_17 := a1_16.2; let a1_18 := a1_17.2; let a1_19 := a1_18.2; let a1_20 := a1_19.2; let a1_21 := a1_20.2; F β a0_0.1 a0_1.1 a0_2.1 a0_3.1 a0_4.1 a0_5.1 a0_6.1 a0_7.1 a0_8.1 a0_9.1 a0_10.1 a0_11.1 a0_12.1 a0_13.1 a0_14.1 a0_15.1 a0_16.1 a0_17.1 a0_18.1 a0_19.1 a0_20.1 a0_21.1 a1_0.1 a1_1.1 a1_2.1 a1_3.1 a1_4.1 a1_5.1 a1_6.1 a1_7.1 a1_8.1 a1_9.1 a1_10.1 a1_11.1 a1_12.1 a1_13.1 a1_14.1 a1_15.1 a1_16.1 a1_17.1 a1_18.1 a1_19.1 a1_20.1 a1_21.1 (fun y1 => k (.bool y1))
abbrev W78 (F : T78) : WT := wrap s78 (G78 F)
theorem k78 (F101 : T101) (F108 : T108) (F109 : T109) (F110 : T110) (F111 : T111) (F112 : T112) (F113 : T113) (F114 : T114) (F115 : T115) (β : Type) (e : argsT s78) (k : V → Option β) : fnK cfg (tabL [(101, W101 F101), (108, W108 F108), (109, W109 F109), (110, W110 F110), (111, W111 F111), (112, W112 F112), (113, W113 F113), (114, W114 F114), (115, W115 F115)]) noX 78 Try.f78 β (argsEnc s78 e) k = G78 (P78 F101 F108 F109 F110 F111 F112 F113 F114 F115 ) β e k := by kernel_rfl
theorem ok78 : FnOk D 78 (W78 F78) := fn_okW [(101, W101 F101), (108, W108 F108), (109, W109 F109), (110, W110 F110), (111, W111 F111), (112, W112 F112), (113, W113 F113), (114, W114 F114), (115, W115 F115)] noX (fun _ => rfl) Try.func78 rfl (tabL_cons ok101 (tabL_cons ok108 (tabL_cons ok109 (tabL_cons ok110 (tabL_cons ok111 (tabL_cons ok112 (tabL_cons ok113 (tabL_cons ok114 (tabL_cons ok115 tabL_nil))))))))) (k78 F101 F108 F109 F110 F111 F112 F113 F114 F115 )
abbrev T59 : Type 1 := (β : Type) → List UInt8 → List UInt8 → List UInt8 → List UInt8 → Bool → List V → List V → List V → List UInt8 → List UInt8 → List V → Bool → List V → List V → List V → List V → List V → Int → Int → Int → Int → List V → List V → Bool → Bool → List UInt8 → List UInt8 → List UInt8 → List UInt8 → Bool → List V → List V → List V → List UInt8 → List UInt8 → List V → Bool → List V → List V → List V → List V → List V → Int → Int → Int → Int → List V → List V → Bool → Bool → (Bool → Option β) → Option β
def P59 (F101 : T101) (F78 : T78) : T59 := fun β a_Addr_Host a_Addr_Path a_Page_Addr_Host a_Page_Addr_Path a_Page_Policy_Set a_Page_Policy_Scripts a_Page_Policy_Styles a_Page_Policy_Images a_Page_Policy_Nonce a_Page_Tok_Rest a_Page_Queue a_Page_Ended a_Page_Builder_Nodes a_Page_Builder_Open a_Page_Slots a_Page_Mods a_Page_Entries a_Page_Block a_Page_Inline a_Page_Deferred a_Page_Entered a_Page_Ran a_Page_Log a_Page_Loaded a_Kept b_Addr_Host b_Addr_Path b_Page_Addr_Host b_Page_Addr_Path b_Page_Policy_Set b_Page_Policy_Scripts b_Page_Policy_Styles b_Page_Policy_Images b_Page_Policy_Nonce b_Page_Tok_Rest b_Page_Queue b_Page_Ended b_Page_Builder_Nodes b_Page_Builder_Open b_Page_Slots b_Page_Mods b_Page_Entries b_Page_Block b_Page_Inline b_Page_Deferred b_Page_Entered b_Page_Ran b_Page_Log b_Page_Loaded b_Kept k =>
 F101 _ a_Addr_Host a_Addr_Path b_Addr_Host b_Addr_Path fun b1 =>
 br (!b1) (
 k false) (
 F78 _ a_Page_Addr_Host a_Page_Addr_Path a_Page_Policy_Set a_Page_Policy_Scripts a_Page_Policy_Styles a_Page_Policy_Images a_Page_Policy_Nonce a_Page_Tok_Rest a_Page_Queue a_Page_Ended a_Page_Builder_Nodes a_Page_Builder_Open a_Page_Slots a_Page_Mods a_Page_Entries a_Page_Block a_Page_Inline a_Page_Deferred a_Page_Entered a_Page_Ran a_Page_Log a_Page_Loaded b_Page_Addr_Host b_Page_Addr_Path b_Page_Policy_Set b_Page_Policy_Scripts b_Page_Policy_Styles b_Page_Policy_Images b_Page_Policy_Nonce b_Page_Tok_Rest b_Page_Queue b_Page_Ended b_Page_Builder_Nodes b_Page_Builder_Open b_Page_Slots b_Page_Mods b_Page_Entries b_Page_Block b_Page_Inline b_Page_Deferred b_Page_Entered b_Page_Ran b_Page_Log b_Page_Loaded fun b2 =>
 br (!b2) (
 k false) (
 br (!(a_Kept == b_Kept)) (
 k false) (
 k true)))
def F59 : T59 := P59 F101 F78
abbrev s59 : List (Bool × List CK) := [(true, [.str, .str, .str, .str, .bool, .sl 1 true, .sl 1 true, .sl 1 true, .str, .str, .sl 4 false, .bool, .sl 4 false, .sl 1 true, .sl 8 true, .sl 5 true, .sl 2 true, .int .i64, .int .i64, .int .i64, .int .i64, .sl 2 true, .sl 1 true, .bool, .bool]), (true, [.str, .str, .str, .str, .bool, .sl 1 true, .sl 1 true, .sl 1 true, .str, .str, .sl 4 false, .bool, .sl 4 false, .sl 1 true, .sl 8 true, .sl 5 true, .sl 2 true, .int .i64, .int .i64, .int .i64, .int .i64, .sl 2 true, .sl 1 true, .bool, .bool])]
def G59 (F : T59) (β : Type) (e : (List UInt8 × List UInt8 × List UInt8 × List UInt8 × Bool × List V × List V × List V × List UInt8 × List UInt8 × List V × Bool × List V × List V × List V × List V × List V × Int × Int × Int × Int × List V × List V × Bool × Bool × Unit) × (List UInt8 × List UInt8 × List UInt8 × List UInt8 × Bool × List V × List V × List V × List UInt8 × List UInt8 × List V × Bool × List V × List V × List V × List V × List V × Int × Int × Int × Int × List V × List V × Bool × Bool × Unit) × Unit) (k : V → Option β) : Option β := let a0_0 := e.1; let a0_1 := a0_0.2; let a0_2 := a0_1.2; let a0_3 := a0_2.2; let a0_4 := a0_3.2; let a0_5 := a0_4.2; let a0_6 := a0_5.2; let a0_7 := a0_6.2; let a0_8 := a0_7.2; let a0_9 := a0_8.2; let a0_10 := a0_9.2; let a0_11 := a0_10.2; let a0_12 := a0_11.2; let a0_13 := a0_12.2; let a0_14 := a0_13.2; let a0_15 := a0_14.2; let a0_16 := a0_15.2; let a0_17 := a0_16.2; let a0_18 := a0_17.2; let a0_19 := a0_18.2; let a0_20 := a0_19.2; let a0_21 := a0_20.2; let a0_22 := a0_21.2; let a0_23 := a0_22.2; let a0_24 := a0_23.2; let a1_0 := e.2.1; let a1_1 := a1_0.2; let a1_2 := a1_1.2; let a1_3 := a1_2.2; let a1_4 := a1_3.2; let a1_5 := a1_4.2; let a1_6 := a1_5.2; let a1_7 := a1_6.2; let a1_8 := a1_7.2; let a1_9 := a1_8.2; let a1_10 := a1_9.2; let a1_11 := a1_10.2; let a1_12 := a1_11.2; let a1_13 := a1_12.2; let a1_14 := a1_13.2; let a1_15 := a1_14.2; let a1_16 := a1_15.2; let a1_17 := a1_16.2; let a1_18 := a1_17.2; let a1_19 := a1_18.2; let a1_20 := a1_19.2; let a1_21 := a1_20.2; let a1_22 := a1_21.2; let a1_23 := a1_22.2; let a1_24 := a1_23.2; F β a0_0.1 a0_1.1 a0_2.1 a0_3.1 a0_4.1 a0_5.1 a0_6.1 a0_7.1 a0_8.1 a0_9.1 a0_10.1 a0_11.1 a0_12.1 a0_13.1 a0_14.1 a0_15.1 a0_16.1 a0_17.1 a0_18.1 a0_19.1 a0_20.1 a0_21.1 a0_22.1 a0_23.1 a0_24.1 a1_0.1 a1_1.1 a1_2.1 a1_3.1 a1_4.1 a1_5.1 a1_6.1 a1_7.1 a1_8.1 a1_9.1 a1_10.1 a1_11.1 a1_12.1 a1_13.1 a1_14.1 a1_15.1 a1_16.1 a1_17.1 a1_18.1 a1_19.1 a1_20.1 a1_21.1 a1_22.1 a1_23.1 a1_24.1 (fun y1 => k (.bool y1))
abbrev W59 (F : T59) : WT := wrap s59 (G59 F)
theorem k59 (F101 : T101) (F78 : T78) (β : Type) (e : argsT s59) (k : V → Option β) : fnK cfg (tabL [(101, W101 F101), (78, W78 F78)]) noX 59 Try.f59 β (argsEnc s59 e) k = G59 (P59 F101 F78 ) β e k := by kernel_rfl
theorem ok59 : FnOk D 59 (W59 F59) := fn_okW [(101, W101 F101), (78, W78 F78)] noX (fun _ => rfl) Try.func59 rfl (tabL_cons ok101 (tabL_cons ok78 tabL_nil)) (k59 F101 F78 )
abbrev T36 : Type 1 := (β : Type) → List V → List V → (Bool → Option β) → Option β
def P36 (F59 : T59) : T36 := fun β a b k =>
 br ((a.length : Int) != (b.length : Int)) (
 k false) (
 whileK (fun s1 =>
 br (decide ((lI s1 2) < ((lL s1 0).length : Int))) (
 chk (0 ≤ (lI s1 2)) <|
 idx true [.str, .str, .str, .str, .bool, .sl 1 true, .sl 1 true, .sl 1 true, .str, .str, .sl 4 false, .bool, .sl 4 false, .sl 1 true, .sl 8 true, .sl 5 true, .sl 2 true, .int .i64, .int .i64, .int .i64, .int .i64, .sl 2 true, .sl 1 true, .bool, .bool] (lL s1 0) ((lI s1 2).toNat) fun (e2 : List UInt8 × List UInt8 × List UInt8 × List UInt8 × Bool × List V × List V × List V × List UInt8 × List UInt8 × List V × Bool × List V × List V × List V × List V × List V × Int × Int × Int × Int × List V × List V × Bool × Bool × Unit) =>
 chk (0 ≤ (lI s1 2)) <|
 idx true [.str, .str, .str, .str, .bool, .sl 1 true, .sl 1 true, .sl 1 true, .str, .str, .sl 4 false, .bool, .sl 4 false, .sl 1 true, .sl 8 true, .sl 5 true, .sl 2 true, .int .i64, .int .i64, .int .i64, .int .i64, .sl 2 true, .sl 1 true, .bool, .bool] (lL s1 1) ((lI s1 2).toNat) fun (e3 : List UInt8 × List UInt8 × List UInt8 × List UInt8 × Bool × List V × List V × List V × List UInt8 × List UInt8 × List V × Bool × List V × List V × List V × List V × List V × Int × Int × Int × Int × List V × List V × Bool × Bool × Unit) =>
 F59 _ e2.1 e2.2.1 e2.2.2.1 e2.2.2.2.1 e2.2.2.2.2.1 e2.2.2.2.2.2.1 e2.2.2.2.2.2.2.1 e2.2.2.2.2.2.2.2.1 e2.2.2.2.2.2.2.2.2.1 e2.2.2.2.2.2.2.2.2.2.1 e2.2.2.2.2.2.2.2.2.2.2.1 e2.2.2.2.2.2.2.2.2.2.2.2.1 e2.2.2.2.2.2.2.2.2.2.2.2.2.1 e2.2.2.2.2.2.2.2.2.2.2.2.2.2.1 e2.2.2.2.2.2.2.2.2.2.2.2.2.2.2.1 e2.2.2.2.2.2.2.2.2.2.2.2.2.2.2.2.1 e2.2.2.2.2.2.2.2.2.2.2.2.2.2.2.2.2.1 e2.2.2.2.2.2.2.2.2.2.2.2.2.2.2.2.2.2.1 e2.2.2.2.2.2.2.2.2.2.2.2.2.2.2.2.2.2.2.1 e2.2.2.2.2.2.2.2.2.2.2.2.2.2.2.2.2.2.2.2.1 e2.2.2.2.2.2.2.2.2.2.2.2.2.2.2.2.2.2.2.2.2.1 e2.2.2.2.2.2.2.2.2.2.2.2.2.2.2.2.2.2.2.2.2.2.1 e2.2.2.2.2.2.2.2.2.2.2.2.2.2.2.2.2.2.2.2.2.2.2.1 e2.2.2.2.2.2.2.2.2.2.2.2.2.2.2.2.2.2.2.2.2.2.2.2.1 e2.2.2.2.2.2.2.2.2.2.2.2.2.2.2.2.2.2.2.2.2.2.2.2.2.1 e3.1 e3.2.1 e3.2.2.1 e3.2.2.2.1 e3.2.2.2.2.1 e3.2.2.2.2.2.1 e3.2.2.2.2.2.2.1 e3.2.2.2.2.2.2.2.1 e3.2.2.2.2.2.2.2.2.1 e3.2.2.2.2.2.2.2.2.2.1 e3.2.2.2.2.2.2.2.2.2.2.1 e3.2.2.2.2.2.2.2.2.2.2.2.1 e3.2.2.2.2.2.2.2.2.2.2.2.2.1 e3.2.2.2.2.2.2.2.2.2.2.2.2.2.1 e3.2.2.2.2.2.2.2.2.2.2.2.2.2.2.1 e3.2.2.2.2.2.2.2.2.2.2.2.2.2.2.2.1 e3.2.2.2.2.2.2.2.2.2.2.2.2.2.2.2.2.1 e3.2.2.2.2.2.2.2.2.2.2.2.2.2.2.2.2.2.1 e3.2.2.2.2.2.2.2.2.2.2.2.2.2.2.2.2.2.2.1 e3.2.2.2.2.2.2.2.2.2.2.2.2.2.2.2.2.2.2.2.1 e3.2.2.2.2.2.2.2.2.2.2.2.2.2.2.2.2.2.2.2.2.1 e3.2.2.2.2.2.2.2.2.2.2.2.2.2.2.2.2.2.2.2.2.2.1 e3.2.2.2.2.2.2.2.2.2.2.2.2.2.2.2.2.2.2.2.2.2.2.1 e3.2.2.2.2.2.2.2.2.2.2.2.2.2.2.2.2.2.2.2.2.2.2.2.1 e3.2.2.2.2.2.2.2.2.2.2.2.2.2.2.2.2.2.2.2.2.2.2.2.2.1 fun b4 =>
 br (!b4) (
 some (.inr (0, [.b false]))) (
 some (.inl [.l (lL s1 0), .l (lL s1 1), .i (IntKind.wrap .i64 ((lI s1 2) + 1))]))) (
 some (.inr (1, [])))) [.l a, .l b, .i 0] fun (r5 : Nat × List Leaf) =>
 if r5.1 = 0 then
 k (lB r5.2 0)
 else
 k true)
def F36 : T36 := P36 F59
def X36 : Exits := fun i => lookN i [] [(4, [(.ret, xk 27 [(4, .bool false)] []), (.exit 0, xk 27 [] [])])]
abbrev s36 : List (Bool × List CK) := [(false, [.sl 25 false]), (false, [.sl 25 false])]
def G36 (F : T36) (β : Type) (e : (List V × Unit) × (List V × Unit) × Unit) (k : V → Option β) : Option β := F β e.1.1 e.2.1.1 (fun y1 => k (.bool y1))
abbrev W36 (F : T36) : WT := wrap s36 (G36 F)
theorem k36 (F59 : T59) (β : Type) (e : argsT s36) (k : V → Option β) : fnK cfg (tabL [(59, W59 F59)]) X36 36 Try.f36 β (argsEnc s36 e) k = G36 (P36 F59 ) β e k := by kernel_rfl
theorem ok36 : FnOk D 36 (W36 F36) := fn_okW [(59, W59 F59)] X36 (fun _ => rfl) Try.func36 rfl (tabL_cons ok59 tabL_nil) (k36 F59 )
abbrev T15 : Type 1 := (β : Type) → List V → Int → List V → Int → (Bool → Option β) → Option β
def P15 (F36 : T36) : T15 := fun β a_Visits a_At b_Visits b_At k =>
 F36 _ a_Visits b_Visits fun b1 =>
 br (!b1) (
 k false) (
 br (a_At != b_At) (
 k false) (
 k true))
def F15 : T15 := P15 F36
abbrev s15 : List (Bool × List CK) := [(true, [.sl 25 false, .int .i64]), (true, [.sl 25 false, .int .i64])]
def G15 (F : T15) (β : Type) (e : (List V × Int × Unit) × (List V × Int × Unit) × Unit) (k : V → Option β) : Option β := F β e.1.1 e.1.2.1 e.2.1.1 e.2.1.2.1 (fun y1 => k (.bool y1))
abbrev W15 (F : T15) : WT := wrap s15 (G15 F)
theorem k15 (F36 : T36) (β : Type) (e : argsT s15) (k : V → Option β) : fnK cfg (tabL [(36, W36 F36)]) noX 15 Try.f15 β (argsEnc s15 e) k = G15 (P15 F36 ) β e k := by kernel_rfl
theorem ok15 : FnOk D 15 (W15 F15) := fn_okW [(36, W36 F36)] noX (fun _ => rfl) Try.func15 rfl (tabL_cons ok36 tabL_nil) (k15 F36 )
abbrev T143 : Type 1 := (β : Type) → Int → Int → List UInt8 → Int → Bool → List UInt8 → Int → (Int → Option β) → Option β
def P143 : T143 := fun β a_Status a_Kind a_Body a_Age a_Shares a_Policy left k =>
 br (decide (IntKind.wrap .i64 (left - (a_Body.length : Int)) < 0)) (
 k (-1)) (
 br (decide (IntKind.wrap .i64 ((IntKind.wrap .i64 (left - (a_Body.length : Int))) - (a_Policy.length : Int)) < 0)) (
 k (-1)) (
 k (IntKind.wrap .i64 ((IntKind.wrap .i64 (left - (a_Body.length : Int))) - (a_Policy.length : Int)))))
def F143 : T143 := P143
abbrev s143 : List (Bool × List CK) := [(true, [.int .i64, .int .i64, .str, .int .i64, .bool, .str]), (false, [.int .i64])]
def G143 (F : T143) (β : Type) (e : (Int × Int × List UInt8 × Int × Bool × List UInt8 × Unit) × (Int × Unit) × Unit) (k : V → Option β) : Option β := let a0_0 := e.1; let a0_1 := a0_0.2; let a0_2 := a0_1.2; let a0_3 := a0_2.2; let a0_4 := a0_3.2; let a0_5 := a0_4.2; F β a0_0.1 a0_1.1 a0_2.1 a0_3.1 a0_4.1 a0_5.1 e.2.1.1 (fun y1 => k (.int .i64 y1))
abbrev W143 (F : T143) : WT := wrap s143 (G143 F)
theorem k143 (β : Type) (e : argsT s143) (k : V → Option β) : fnK cfg (tabL []) noX 143 Try.f143 β (argsEnc s143 e) k = G143 (P143 ) β e k := by kernel_rfl
theorem ok143 : FnOk D 143 (W143 F143) := fn_okW [] noX (fun _ => rfl) Try.func143 rfl (tabL_nil) (k143 )
abbrev T104 : Type 1 := (β : Type) → List UInt8 → Int → Int → List UInt8 → Int → Bool → List UInt8 → Int → (Int → Option β) → Option β
def P104 (F143 : T143) : T104 := fun β a_Path a_Response_Status a_Response_Kind a_Response_Body a_Response_Age a_Response_Shares a_Response_Policy left k =>
 br (decide (IntKind.wrap .i64 (left - (a_Path.length : Int)) < 0)) (
 k (-1)) (
 F143 _ a_Response_Status a_Response_Kind a_Response_Body a_Response_Age a_Response_Shares a_Response_Policy (IntKind.wrap .i64 (left - (a_Path.length : Int))) fun n1 =>
 br (decide (n1 < 0)) (
 k (-1)) (
 k n1))
def F104 : T104 := P104 F143
abbrev s104 : List (Bool × List CK) := [(true, [.str, .int .i64, .int .i64, .str, .int .i64, .bool, .str]), (false, [.int .i64])]
def G104 (F : T104) (β : Type) (e : (List UInt8 × Int × Int × List UInt8 × Int × Bool × List UInt8 × Unit) × (Int × Unit) × Unit) (k : V → Option β) : Option β := let a0_0 := e.1; let a0_1 := a0_0.2; let a0_2 := a0_1.2; let a0_3 := a0_2.2; let a0_4 := a0_3.2; let a0_5 := a0_4.2; let a0_6 := a0_5.2; F β a0_0.1 a0_1.1 a0_2.1 a0_3.1 a0_4.1 a0_5.1 a0_6.1 e.2.1.1 (fun y1 => k (.int .i64 y1))
abbrev W104 (F : T104) : WT := wrap s104 (G104 F)
theorem k104 (F143 : T143) (β : Type) (e : argsT s104) (k : V → Option β) : fnK cfg (tabL [(143, W143 F143)]) noX 104 Try.f104 β (argsEnc s104 e) k = G104 (P104 F143 ) β e k := by kernel_rfl
theorem ok104 : FnOk D 104 (W104 F104) := fn_okW [(143, W143 F143)] noX (fun _ => rfl) Try.func104 rfl (tabL_cons ok143 tabL_nil) (k104 F143 )
abbrev T74 : Type 1 := (β : Type) → List V → Int → (Int → Option β) → Option β
def P74 (F104 : T104) : T74 := fun β a left k =>
 br (decide (IntKind.wrap .i64 (left - (a.length : Int)) < 0)) (
 k (-1)) (
 whileK (fun s1 =>
 br (decide ((lI s1 2) < ((lL s1 0).length : Int))) (
 chk (0 ≤ (lI s1 2)) <|
 idx true [.str, .int .i64, .int .i64, .str, .int .i64, .bool, .str] (lL s1 0) ((lI s1 2).toNat) fun (e2 : List UInt8 × Int × Int × List UInt8 × Int × Bool × List UInt8 × Unit) =>
 F104 _ e2.1 e2.2.1 e2.2.2.1 e2.2.2.2.1 e2.2.2.2.2.1 e2.2.2.2.2.2.1 e2.2.2.2.2.2.2.1 (lI s1 1) fun n3 =>
 br (decide (n3 < 0)) (
 some (.inr (0, [.i n3, .i (-1)]))) (
 some (.inl [.l (lL s1 0), .i n3, .i (IntKind.wrap .i64 ((lI s1 2) + 1))]))) (
 some (.inr (1, [.i (lI s1 1)])))) [.l a, .i (IntKind.wrap .i64 (left - (a.length : Int))), .i 0] fun (r4 : Nat × List Leaf) =>
 if r4.1 = 0 then
 k (lI r4.2 1)
 else
 k (lI r4.2 0))
def F74 : T74 := P74 F104
def X74 : Exits := fun i => lookN i [] [(5, [(.ret, xk 27 [(1, .int .i64 0), (4, .int .i64 0)] []), (.exit 0, xk 27 [(1, .int .i64 0)] [])])]
abbrev s74 : List (Bool × List CK) := [(false, [.sl 7 true]), (false, [.int .i64])]
def G74 (F : T74) (β : Type) (e : (List V × Unit) × (Int × Unit) × Unit) (k : V → Option β) : Option β := F β e.1.1 e.2.1.1 (fun y1 => k (.int .i64 y1))
abbrev W74 (F : T74) : WT := wrap s74 (G74 F)
theorem k74 (F104 : T104) (β : Type) (e : argsT s74) (k : V → Option β) : fnK cfg (tabL [(104, W104 F104)]) X74 74 Try.f74 β (argsEnc s74 e) k = G74 (P74 F104 ) β e k := by kernel_rfl
theorem ok74 : FnOk D 74 (W74 F74) := fn_okW [(104, W104 F104)] X74 (fun _ => rfl) Try.func74 rfl (tabL_cons ok104 tabL_nil) (k74 F104 )
abbrev T39 : Type 1 := (β : Type) → List UInt8 → List V → Int → (Int → Option β) → Option β
def P39 (F74 : T74) : T39 := fun β a_Host a_Files left k =>
 br (decide (IntKind.wrap .i64 (left - (a_Host.length : Int)) < 0)) (
 k (-1)) (
 F74 _ a_Files (IntKind.wrap .i64 (left - (a_Host.length : Int))) fun n1 =>
 br (decide (n1 < 0)) (
 k (-1)) (
 k n1))
def F39 : T39 := P39 F74
abbrev s39 : List (Bool × List CK) := [(true, [.str, .sl 7 true]), (false, [.int .i64])]
def G39 (F : T39) (β : Type) (e : (List UInt8 × List V × Unit) × (Int × Unit) × Unit) (k : V → Option β) : Option β := F β e.1.1 e.1.2.1 e.2.1.1 (fun y1 => k (.int .i64 y1))
abbrev W39 (F : T39) : WT := wrap s39 (G39 F)
theorem k39 (F74 : T74) (β : Type) (e : argsT s39) (k : V → Option β) : fnK cfg (tabL [(74, W74 F74)]) noX 39 Try.f39 β (argsEnc s39 e) k = G39 (P39 F74 ) β e k := by kernel_rfl
theorem ok39 : FnOk D 39 (W39 F39) := fn_okW [(74, W74 F74)] noX (fun _ => rfl) Try.func39 rfl (tabL_cons ok74 tabL_nil) (k39 F74 )
abbrev T18 : Type 1 := (β : Type) → List V → Int → (Int → Option β) → Option β
def P18 (F39 : T39) : T18 := fun β a left k =>
 br (decide (IntKind.wrap .i64 (left - (a.length : Int)) < 0)) (
 k (-1)) (
 whileK (fun s1 =>
 br (decide ((lI s1 2) < ((lL s1 0).length : Int))) (
 chk (0 ≤ (lI s1 2)) <|
 idx true [.str, .sl 7 true] (lL s1 0) ((lI s1 2).toNat) fun (e2 : List UInt8 × List V × Unit) =>
 F39 _ e2.1 e2.2.1 (lI s1 1) fun n3 =>
 br (decide (n3 < 0)) (
 some (.inr (0, [.i n3, .i (-1)]))) (
 some (.inl [.l (lL s1 0), .i n3, .i (IntKind.wrap .i64 ((lI s1 2) + 1))]))) (
 some (.inr (1, [.i (lI s1 1)])))) [.l a, .i (IntKind.wrap .i64 (left - (a.length : Int))), .i 0] fun (r4 : Nat × List Leaf) =>
 if r4.1 = 0 then
 k (lI r4.2 1)
 else
 k (lI r4.2 0))
def F18 : T18 := P18 F39
def X18 : Exits := fun i => lookN i [] [(5, [(.ret, xk 27 [(1, .int .i64 0), (4, .int .i64 0)] []), (.exit 0, xk 27 [(1, .int .i64 0)] [])])]
abbrev s18 : List (Bool × List CK) := [(false, [.sl 2 false]), (false, [.int .i64])]
def G18 (F : T18) (β : Type) (e : (List V × Unit) × (Int × Unit) × Unit) (k : V → Option β) : Option β := F β e.1.1 e.2.1.1 (fun y1 => k (.int .i64 y1))
abbrev W18 (F : T18) : WT := wrap s18 (G18 F)
theorem k18 (F39 : T39) (β : Type) (e : argsT s18) (k : V → Option β) : fnK cfg (tabL [(39, W39 F39)]) X18 18 Try.f18 β (argsEnc s18 e) k = G18 (P18 F39 ) β e k := by kernel_rfl
theorem ok18 : FnOk D 18 (W18 F18) := fn_okW [(39, W39 F39)] X18 (fun _ => rfl) Try.func18 rfl (tabL_cons ok39 tabL_nil) (k18 F39 )
abbrev T144 : Type 1 := (β : Type) → Int → Int → List UInt8 → Int → Bool → List UInt8 → (Int → Int → List UInt8 → Int → Bool → List UInt8 → Option β) → Option β
def P144 : T144 := fun β a_Status a_Kind a_Body a_Age a_Shares a_Policy k =>
 k a_Status a_Kind a_Body a_Age a_Shares a_Policy
def F144 : T144 := P144
abbrev s144 : List (Bool × List CK) := [(true, [.int .i64, .int .i64, .str, .int .i64, .bool, .str])]
def G144 (F : T144) (β : Type) (e : (Int × Int × List UInt8 × Int × Bool × List UInt8 × Unit) × Unit) (k : V → Option β) : Option β := let a0_0 := e.1; let a0_1 := a0_0.2; let a0_2 := a0_1.2; let a0_3 := a0_2.2; let a0_4 := a0_3.2; let a0_5 := a0_4.2; F β a0_0.1 a0_1.1 a0_2.1 a0_3.1 a0_4.1 a0_5.1 (fun y1 y2 y3 y4 y5 y6 => k (.agg [.int .i64 y1, .int .i64 y2, .str y3, .int .i64 y4, .bool y5, .str y6]))
abbrev W144 (F : T144) : WT := wrap s144 (G144 F)
theorem k144 (β : Type) (e : argsT s144) (k : V → Option β) : fnK cfg (tabL []) noX 144 Try.f144 β (argsEnc s144 e) k = G144 (P144 ) β e k := by kernel_rfl
theorem ok144 : FnOk D 144 (W144 F144) := fn_okW [] noX (fun _ => rfl) Try.func144 rfl (tabL_nil) (k144 )
abbrev T105 : Type 1 := (β : Type) → List UInt8 → Int → Int → List UInt8 → Int → Bool → List UInt8 → (List UInt8 → Int → Int → List UInt8 → Int → Bool → List UInt8 → Option β) → Option β
def P105 (F144 : T144) : T105 := fun β a_Path a_Response_Status a_Response_Kind a_Response_Body a_Response_Age a_Response_Shares a_Response_Policy k =>
 F144 _ a_Response_Status a_Response_Kind a_Response_Body a_Response_Age a_Response_Shares a_Response_Policy fun n1 n2 t3 n4 b5 t6 =>
 k a_Path n1 n2 t3 n4 b5 t6
def F105 : T105 := P105 F144
abbrev s105 : List (Bool × List CK) := [(true, [.str, .int .i64, .int .i64, .str, .int .i64, .bool, .str])]
def G105 (F : T105) (β : Type) (e : (List UInt8 × Int × Int × List UInt8 × Int × Bool × List UInt8 × Unit) × Unit) (k : V → Option β) : Option β := let a0_0 := e.1; let a0_1 := a0_0.2; let a0_2 := a0_1.2; let a0_3 := a0_2.2; let a0_4 := a0_3.2; let a0_5 := a0_4.2; let a0_6 := a0_5.2; F β a0_0.1 a0_1.1 a0_2.1 a0_3.1 a0_4.1 a0_5.1 a0_6.1 (fun y1 y2 y3 y4 y5 y6 y7 => k (.agg [.str y1, .int .i64 y2, .int .i64 y3, .str y4, .int .i64 y5, .bool y6, .str y7]))
abbrev W105 (F : T105) : WT := wrap s105 (G105 F)
theorem k105 (F144 : T144) (β : Type) (e : argsT s105) (k : V → Option β) : fnK cfg (tabL [(144, W144 F144)]) noX 105 Try.f105 β (argsEnc s105 e) k = G105 (P105 F144 ) β e k := by kernel_rfl
theorem ok105 : FnOk D 105 (W105 F105) := fn_okW [(144, W144 F144)] noX (fun _ => rfl) Try.func105 rfl (tabL_cons ok144 tabL_nil) (k105 F144 )
abbrev T75 : Type 1 := (β : Type) → List V → (List V → Option β) → Option β
def P75 (F105 : T105) : T75 := fun β a k =>
 chk (0 ≤ (a.length : Int) ∧ (a.length : Int) ≤ (a.length : Int) ∧ (a.length : Int) * 80 ≤ 140737488355328 ∧ (a.length : Int) ≤ 140737488355328) <|
 whileK (fun s1 =>
 br (decide ((lI s1 2) < ((lL s1 0).length : Int))) (
 chk (0 ≤ (lI s1 2)) <|
 idx true [.str, .int .i64, .int .i64, .str, .int .i64, .bool, .str] (lL s1 0) ((lI s1 2).toNat) fun (e2 : List UInt8 × Int × Int × List UInt8 × Int × Bool × List UInt8 × Unit) =>
 F105 _ e2.1 e2.2.1 e2.2.2.1 e2.2.2.2.1 e2.2.2.2.2.1 e2.2.2.2.2.2.1 e2.2.2.2.2.2.2.1 fun t3 n4 n5 t6 n7 b8 t9 =>
 chk (0 ≤ (lI s1 2) ∧ (lI s1 2).toNat < (lL s1 1).length) <|
 storeO (lL s1 1) ((lI s1 2).toNat) 0 [.str t3, .int .i64 n4, .int .i64 n5, .str t6, .int .i64 n7, .bool b8, .str t9] fun l10 =>
 some (.inl [.l (lL s1 0), .l l10, .i (IntKind.wrap .i64 ((lI s1 2) + 1))])) (
 some (.inr (0, [.l (lL s1 1)])))) [.l a, .l (List.replicate ((a.length : Int).toNat) (.agg [.str [], .int .i64 0, .int .i64 0, .str [], .int .i64 0, .bool false, .str []])), .i 0] fun (r11 : Nat × List Leaf) =>
 k (lL r11.2 0)
def F75 : T75 := P75 F105
def X75 : Exits := fun i => lookN i [] [(3, [(.exit 0, xk 23 [(3, .own 1000000 7 .flat [])] [])])]
abbrev s75 : List (Bool × List CK) := [(false, [.sl 7 true])]
def G75 (F : T75) (β : Type) (e : (List V × Unit) × Unit) (k : V → Option β) : Option β := F β e.1.1 (fun y1 => k (.own 0 7 .flat y1))
abbrev W75 (F : T75) : WT := wrap s75 (G75 F)
theorem k75 (F105 : T105) (β : Type) (e : argsT s75) (k : V → Option β) : fnK cfg (tabL [(105, W105 F105)]) X75 75 Try.f75 β (argsEnc s75 e) k = G75 (P75 F105 ) β e k := by kernel_rfl
theorem ok75 : FnOk D 75 (W75 F75) := fn_okW [(105, W105 F105)] X75 (fun _ => rfl) Try.func75 rfl (tabL_cons ok105 tabL_nil) (k75 F105 )
abbrev T42 : Type 1 := (β : Type) → List UInt8 → List V → (List UInt8 → List V → Option β) → Option β
def P42 (F75 : T75) : T42 := fun β a_Host a_Files k =>
 F75 _ a_Files fun l1 =>
 k a_Host l1
def F42 : T42 := P42 F75
abbrev s42 : List (Bool × List CK) := [(true, [.str, .sl 7 true])]
def G42 (F : T42) (β : Type) (e : (List UInt8 × List V × Unit) × Unit) (k : V → Option β) : Option β := F β e.1.1 e.1.2.1 (fun y1 y2 => k (.agg [.str y1, .own 1 7 .flat y2]))
abbrev W42 (F : T42) : WT := wrap s42 (G42 F)
theorem k42 (F75 : T75) (β : Type) (e : argsT s42) (k : V → Option β) : fnK cfg (tabL [(75, W75 F75)]) noX 42 Try.f42 β (argsEnc s42 e) k = G42 (P42 F75 ) β e k := by kernel_rfl
theorem ok42 : FnOk D 42 (W42 F42) := fn_okW [(75, W75 F75)] noX (fun _ => rfl) Try.func42 rfl (tabL_cons ok75 tabL_nil) (k42 F75 )
abbrev T20 : Type 1 := (β : Type) → List V → (List V → Option β) → Option β
def P20 (F42 : T42) : T20 := fun β a k =>
 chk (0 ≤ (a.length : Int) ∧ (a.length : Int) ≤ (a.length : Int) ∧ (a.length : Int) * 40 ≤ 140737488355328 ∧ (a.length : Int) ≤ 140737488355328) <|
 whileK (fun s1 =>
 br (decide ((lI s1 2) < ((lL s1 0).length : Int))) (
 chk (0 ≤ (lI s1 2)) <|
 idx true [.str, .sl 7 true] (lL s1 0) ((lI s1 2).toNat) fun (e2 : List UInt8 × List V × Unit) =>
 F42 _ e2.1 e2.2.1 fun t3 l4 =>
 chk (0 ≤ (lI s1 2) ∧ (lI s1 2).toNat < (lL s1 1).length) <|
 storeO (lL s1 1) ((lI s1 2).toNat) 0 [.str t3, .sl 7 true l4] fun l5 =>
 some (.inl [.l (lL s1 0), .l l5, .i (IntKind.wrap .i64 ((lI s1 2) + 1))])) (
 some (.inr (0, [.l (lL s1 1)])))) [.l a, .l (List.replicate ((a.length : Int).toNat) (.agg [.str [], .sl 7 true []])), .i 0] fun (r6 : Nat × List Leaf) =>
 k (lL r6.2 0)
def F20 : T20 := P20 F42
def X20 : Exits := fun i => lookN i [] [(3, [(.exit 0, xk 23 [(3, .own 1000000 2 .clean [])] [])])]
abbrev s20 : List (Bool × List CK) := [(false, [.sl 2 false])]
def G20 (F : T20) (β : Type) (e : (List V × Unit) × Unit) (k : V → Option β) : Option β := F β e.1.1 (fun y1 => k (.own 0 2 .clean y1))
abbrev W20 (F : T20) : WT := wrap s20 (G20 F)
theorem k20 (F42 : T42) (β : Type) (e : argsT s20) (k : V → Option β) : fnK cfg (tabL [(42, W42 F42)]) X20 20 Try.f20 β (argsEnc s20 e) k = G20 (P20 F42 ) β e k := by kernel_rfl
theorem ok20 : FnOk D 20 (W20 F20) := fn_okW [(42, W42 F42)] X20 (fun _ => rfl) Try.func20 rfl (tabL_cons ok42 tabL_nil) (k20 F42 )
abbrev T124 : Type 1 := (β : Type) → Int → Int → List UInt8 → Int → Bool → List UInt8 → Int → Int → List UInt8 → Int → Bool → List UInt8 → (Bool → Option β) → Option β
def P124 : T124 := fun β a_Status a_Kind a_Body a_Age a_Shares a_Policy b_Status b_Kind b_Body b_Age b_Shares b_Policy k =>
 br (a_Status != b_Status) (
 k false) (
 br (a_Kind != b_Kind) (
 k false) (
 br (!(a_Body == b_Body)) (
 k false) (
 br (a_Age != b_Age) (
 k false) (
 br (!(a_Shares == b_Shares)) (
 k false) (
 br (!(a_Policy == b_Policy)) (
 k false) (
 k true))))))
def F124 : T124 := P124
abbrev s124 : List (Bool × List CK) := [(true, [.int .i64, .int .i64, .str, .int .i64, .bool, .str]), (true, [.int .i64, .int .i64, .str, .int .i64, .bool, .str])]
def G124 (F : T124) (β : Type) (e : (Int × Int × List UInt8 × Int × Bool × List UInt8 × Unit) × (Int × Int × List UInt8 × Int × Bool × List UInt8 × Unit) × Unit) (k : V → Option β) : Option β := let a0_0 := e.1; let a0_1 := a0_0.2; let a0_2 := a0_1.2; let a0_3 := a0_2.2; let a0_4 := a0_3.2; let a0_5 := a0_4.2; let a1_0 := e.2.1; let a1_1 := a1_0.2; let a1_2 := a1_1.2; let a1_3 := a1_2.2; let a1_4 := a1_3.2; let a1_5 := a1_4.2; F β a0_0.1 a0_1.1 a0_2.1 a0_3.1 a0_4.1 a0_5.1 a1_0.1 a1_1.1 a1_2.1 a1_3.1 a1_4.1 a1_5.1 (fun y1 => k (.bool y1))
abbrev W124 (F : T124) : WT := wrap s124 (G124 F)
theorem k124 (β : Type) (e : argsT s124) (k : V → Option β) : fnK cfg (tabL []) noX 124 Try.f124 β (argsEnc s124 e) k = G124 (P124 ) β e k := by kernel_rfl
theorem ok124 : FnOk D 124 (W124 F124) := fn_okW [] noX (fun _ => rfl) Try.func124 rfl (tabL_nil) (k124 )
abbrev T90 : Type 1 := (β : Type) → List UInt8 → Int → Int → List UInt8 → Int → Bool → List UInt8 → List UInt8 → Int → Int → List UInt8 → Int → Bool → List UInt8 → (Bool → Option β) → Option β
def P90 (F124 : T124) : T90 := fun β a_Path a_Response_Status a_Response_Kind a_Response_Body a_Response_Age a_Response_Shares a_Response_Policy b_Path b_Response_Status b_Response_Kind b_Response_Body b_Response_Age b_Response_Shares b_Response_Policy k =>
 br (!(a_Path == b_Path)) (
 k false) (
 F124 _ a_Response_Status a_Response_Kind a_Response_Body a_Response_Age a_Response_Shares a_Response_Policy b_Response_Status b_Response_Kind b_Response_Body b_Response_Age b_Response_Shares b_Response_Policy fun b1 =>
 br (!b1) (
 k false) (
 k true))
def F90 : T90 := P90 F124
abbrev s90 : List (Bool × List CK) := [(true, [.str, .int .i64, .int .i64, .str, .int .i64, .bool, .str]), (true, [.str, .int .i64, .int .i64, .str, .int .i64, .bool, .str])]
def G90 (F : T90) (β : Type) (e : (List UInt8 × Int × Int × List UInt8 × Int × Bool × List UInt8 × Unit) × (List UInt8 × Int × Int × List UInt8 × Int × Bool × List UInt8 × Unit) × Unit) (k : V → Option β) : Option β := let a0_0 := e.1; let a0_1 := a0_0.2; let a0_2 := a0_1.2; let a0_3 := a0_2.2; let a0_4 := a0_3.2; let a0_5 := a0_4.2; let a0_6 := a0_5.2; let a1_0 := e.2.1; let a1_1 := a1_0.2; let a1_2 := a1_1.2; let a1_3 := a1_2.2; let a1_4 := a1_3.2; let a1_5 := a1_4.2; let a1_6 := a1_5.2; F β a0_0.1 a0_1.1 a0_2.1 a0_3.1 a0_4.1 a0_5.1 a0_6.1 a1_0.1 a1_1.1 a1_2.1 a1_3.1 a1_4.1 a1_5.1 a1_6.1 (fun y1 => k (.bool y1))
abbrev W90 (F : T90) : WT := wrap s90 (G90 F)
theorem k90 (F124 : T124) (β : Type) (e : argsT s90) (k : V → Option β) : fnK cfg (tabL [(124, W124 F124)]) noX 90 Try.f90 β (argsEnc s90 e) k = G90 (P90 F124 ) β e k := by kernel_rfl
theorem ok90 : FnOk D 90 (W90 F90) := fn_okW [(124, W124 F124)] noX (fun _ => rfl) Try.func90 rfl (tabL_cons ok124 tabL_nil) (k90 F124 )
abbrev T54 : Type 1 := (β : Type) → List V → List V → (Bool → Option β) → Option β
def P54 (F90 : T90) : T54 := fun β a b k =>
 br ((a.length : Int) != (b.length : Int)) (
 k false) (
 whileK (fun s1 =>
 br (decide ((lI s1 2) < ((lL s1 0).length : Int))) (
 chk (0 ≤ (lI s1 2)) <|
 idx true [.str, .int .i64, .int .i64, .str, .int .i64, .bool, .str] (lL s1 0) ((lI s1 2).toNat) fun (e2 : List UInt8 × Int × Int × List UInt8 × Int × Bool × List UInt8 × Unit) =>
 chk (0 ≤ (lI s1 2)) <|
 idx true [.str, .int .i64, .int .i64, .str, .int .i64, .bool, .str] (lL s1 1) ((lI s1 2).toNat) fun (e3 : List UInt8 × Int × Int × List UInt8 × Int × Bool × List UInt8 × Unit) =>
 F90 _ e2.1 e2.2.1 e2.2.2.1 e2.2.2.2.1 e2.2.2.2.2.1 e2.2.2.2.2.2.1 e2.2.2.2.2.2.2.1 e3.1 e3.2.1 e3.2.2.1 e3.2.2.2.1 e3.2.2.2.2.1 e3.2.2.2.2.2.1 e3.2.2.2.2.2.2.1 fun b4 =>
 br (!b4) (
 some (.inr (0, [.b false]))) (
 some (.inl [.l (lL s1 0), .l (lL s1 1), .i (IntKind.wrap .i64 ((lI s1 2) + 1))]))) (
 some (.inr (1, [])))) [.l a, .l b, .i 0] fun (r5 : Nat × List Leaf) =>
 if r5.1 = 0 then
 k (lB r5.2 0)
 else
 k true)
def F54 : T54 := P54 F90
def X54 : Exits := fun i => lookN i [] [(4, [(.ret, xk 27 [(4, .bool false)] []), (.exit 0, xk 27 [] [])])]
abbrev s54 : List (Bool × List CK) := [(false, [.sl 7 true]), (false, [.sl 7 true])]
def G54 (F : T54) (β : Type) (e : (List V × Unit) × (List V × Unit) × Unit) (k : V → Option β) : Option β := F β e.1.1 e.2.1.1 (fun y1 => k (.bool y1))
abbrev W54 (F : T54) : WT := wrap s54 (G54 F)
theorem k54 (F90 : T90) (β : Type) (e : argsT s54) (k : V → Option β) : fnK cfg (tabL [(90, W90 F90)]) X54 54 Try.f54 β (argsEnc s54 e) k = G54 (P54 F90 ) β e k := by kernel_rfl
theorem ok54 : FnOk D 54 (W54 F54) := fn_okW [(90, W90 F90)] X54 (fun _ => rfl) Try.func54 rfl (tabL_cons ok90 tabL_nil) (k54 F90 )
abbrev T27 : Type 1 := (β : Type) → List UInt8 → List V → List UInt8 → List V → (Bool → Option β) → Option β
def P27 (F54 : T54) : T27 := fun β a_Host a_Files b_Host b_Files k =>
 br (!(a_Host == b_Host)) (
 k false) (
 F54 _ a_Files b_Files fun b1 =>
 br (!b1) (
 k false) (
 k true))
def F27 : T27 := P27 F54
abbrev s27 : List (Bool × List CK) := [(true, [.str, .sl 7 true]), (true, [.str, .sl 7 true])]
def G27 (F : T27) (β : Type) (e : (List UInt8 × List V × Unit) × (List UInt8 × List V × Unit) × Unit) (k : V → Option β) : Option β := F β e.1.1 e.1.2.1 e.2.1.1 e.2.1.2.1 (fun y1 => k (.bool y1))
abbrev W27 (F : T27) : WT := wrap s27 (G27 F)
theorem k27 (F54 : T54) (β : Type) (e : argsT s27) (k : V → Option β) : fnK cfg (tabL [(54, W54 F54)]) noX 27 Try.f27 β (argsEnc s27 e) k = G27 (P27 F54 ) β e k := by kernel_rfl
theorem ok27 : FnOk D 27 (W27 F27) := fn_okW [(54, W54 F54)] noX (fun _ => rfl) Try.func27 rfl (tabL_cons ok54 tabL_nil) (k27 F54 )
abbrev T8 : Type 1 := (β : Type) → List V → List V → (Bool → Option β) → Option β
def P8 (F27 : T27) : T8 := fun β a b k =>
 br ((a.length : Int) != (b.length : Int)) (
 k false) (
 whileK (fun s1 =>
 br (decide ((lI s1 2) < ((lL s1 0).length : Int))) (
 chk (0 ≤ (lI s1 2)) <|
 idx true [.str, .sl 7 true] (lL s1 0) ((lI s1 2).toNat) fun (e2 : List UInt8 × List V × Unit) =>
 chk (0 ≤ (lI s1 2)) <|
 idx true [.str, .sl 7 true] (lL s1 1) ((lI s1 2).toNat) fun (e3 : List UInt8 × List V × Unit) =>
 F27 _ e2.1 e2.2.1 e3.1 e3.2.1 fun b4 =>
 br (!b4) (
 some (.inr (0, [.b false]))) (
 some (.inl [.l (lL s1 0), .l (lL s1 1), .i (IntKind.wrap .i64 ((lI s1 2) + 1))]))) (
 some (.inr (1, [])))) [.l a, .l b, .i 0] fun (r5 : Nat × List Leaf) =>
 if r5.1 = 0 then
 k (lB r5.2 0)
 else
 k true)
def F8 : T8 := P8 F27
def X8 : Exits := fun i => lookN i [] [(4, [(.ret, xk 27 [(4, .bool false)] []), (.exit 0, xk 27 [] [])])]
abbrev s8 : List (Bool × List CK) := [(false, [.sl 2 false]), (false, [.sl 2 false])]
def G8 (F : T8) (β : Type) (e : (List V × Unit) × (List V × Unit) × Unit) (k : V → Option β) : Option β := F β e.1.1 e.2.1.1 (fun y1 => k (.bool y1))
abbrev W8 (F : T8) : WT := wrap s8 (G8 F)
theorem k8 (F27 : T27) (β : Type) (e : argsT s8) (k : V → Option β) : fnK cfg (tabL [(27, W27 F27)]) X8 8 Try.f8 β (argsEnc s8 e) k = G8 (P8 F27 ) β e k := by kernel_rfl
theorem ok8 : FnOk D 8 (W8 F8) := fn_okW [(27, W27 F27)] X8 (fun _ => rfl) Try.func8 rfl (tabL_cons ok27 tabL_nil) (k8 F27 )
abbrev T145 : Type 1 := (β : Type) → List UInt8 → List UInt8 → List UInt8 → Int → Int → List UInt8 → Int → Bool → List UInt8 → Int → List UInt8 → List UInt8 → List UInt8 → Int → Int → List UInt8 → Int → Bool → List UInt8 → Int → (Bool → Option β) → Option β
def P145 (F101 : T101) (F124 : T124) : T145 := fun β a_Top a_To_Host a_To_Path a_Response_Status a_Response_Kind a_Response_Body a_Response_Age a_Response_Shares a_Response_Policy a_Until b_Top b_To_Host b_To_Path b_Response_Status b_Response_Kind b_Response_Body b_Response_Age b_Response_Shares b_Response_Policy b_Until k =>
 br (!(a_Top == b_Top)) (
 k false) (
 F101 _ a_To_Host a_To_Path b_To_Host b_To_Path fun b1 =>
 br (!b1) (
 k false) (
 F124 _ a_Response_Status a_Response_Kind a_Response_Body a_Response_Age a_Response_Shares a_Response_Policy b_Response_Status b_Response_Kind b_Response_Body b_Response_Age b_Response_Shares b_Response_Policy fun b2 =>
 br (!b2) (
 k false) (
 br (a_Until != b_Until) (
 k false) (
 k true))))
def F145 : T145 := P145 F101 F124
abbrev s145 : List (Bool × List CK) := [(true, [.str, .str, .str, .int .i64, .int .i64, .str, .int .i64, .bool, .str, .int .i64]), (true, [.str, .str, .str, .int .i64, .int .i64, .str, .int .i64, .bool, .str, .int .i64])]
def G145 (F : T145) (β : Type) (e : (List UInt8 × List UInt8 × List UInt8 × Int × Int × List UInt8 × Int × Bool × List UInt8 × Int × Unit) × (List UInt8 × List UInt8 × List UInt8 × Int × Int × List UInt8 × Int × Bool × List UInt8 × Int × Unit) × Unit) (k : V → Option β) : Option β := let a0_0 := e.1; let a0_1 := a0_0.2; let a0_2 := a0_1.2; let a0_3 := a0_2.2; let a0_4 := a0_3.2; let a0_5 := a0_4.2; let a0_6 := a0_5.2; let a0_7 := a0_6.2; let a0_8 := a0_7.2; let a0_9 := a0_8.2; let a1_0 := e.2.1; let a1_1 := a1_0.2; let a1_2 := a1_1.2; let a1_3 := a1_2.2; let a1_4 := a1_3.2; let a1_5 := a1_4.2; let a1_6 := a1_5.2; let a1_7 := a1_6.2; let a1_8 := a1_7.2; let a1_9 := a1_8.2; F β a0_0.1 a0_1.1 a0_2.1 a0_3.1 a0_4.1 a0_5.1 a0_6.1 a0_7.1 a0_8.1 a0_9.1 a1_0.1 a1_1.1 a1_2.1 a1_3.1 a1_4.1 a1_5.1 a1_6.1 a1_7.1 a1_8.1 a1_9.1 (fun y1 => k (.bool y1))
abbrev W145 (F : T145) : WT := wrap s145 (G145 F)
theorem k145 (F101 : T101) (F124 : T124) (β : Type) (e : argsT s145) (k : V → Option β) : fnK cfg (tabL [(101, W101 F101), (124, W124 F124)]) noX 145 Try.f145 β (argsEnc s145 e) k = G145 (P145 F101 F124 ) β e k := by kernel_rfl
theorem ok145 : FnOk D 145 (W145 F145) := fn_okW [(101, W101 F101), (124, W124 F124)] noX (fun _ => rfl) Try.func145 rfl (tabL_cons ok101 (tabL_cons ok124 tabL_nil)) (k145 F101 F124 )
abbrev T106 : Type 1 := (β : Type) → List V → List V → (Bool → Option β) → Option β
def P106 (F145 : T145) : T106 := fun β a b k =>
 br ((a.length : Int) != (b.length : Int)) (
 k false) (
 whileK (fun s1 =>
 br (decide ((lI s1 2) < ((lL s1 0).length : Int))) (
 chk (0 ≤ (lI s1 2)) <|
 idx true [.str, .str, .str, .int .i64, .int .i64, .str, .int .i64, .bool, .str, .int .i64] (lL s1 0) ((lI s1 2).toNat) fun (e2 : List UInt8 × List UInt8 × List UInt8 × Int × Int × List UInt8 × Int × Bool × List UInt8 × Int × Unit) =>
 chk (0 ≤ (lI s1 2)) <|
 idx true [.str, .str, .str, .int .i64, .int .i64, .str, .int .i64, .bool, .str, .int .i64] (lL s1 1) ((lI s1 2).toNat) fun (e3 : List UInt8 × List UInt8 × List UInt8 × Int × Int × List UInt8 × Int × Bool × List UInt8 × Int × Unit) =>
 F145 _ e2.1 e2.2.1 e2.2.2.1 e2.2.2.2.1 e2.2.2.2.2.1 e2.2.2.2.2.2.1 e2.2.2.2.2.2.2.1 e2.2.2.2.2.2.2.2.1 e2.2.2.2.2.2.2.2.2.1 e2.2.2.2.2.2.2.2.2.2.1 e3.1 e3.2.1 e3.2.2.1 e3.2.2.2.1 e3.2.2.2.2.1 e3.2.2.2.2.2.1 e3.2.2.2.2.2.2.1 e3.2.2.2.2.2.2.2.1 e3.2.2.2.2.2.2.2.2.1 e3.2.2.2.2.2.2.2.2.2.1 fun b4 =>
 br (!b4) (
 some (.inr (0, [.b false]))) (
 some (.inl [.l (lL s1 0), .l (lL s1 1), .i (IntKind.wrap .i64 ((lI s1 2) + 1))]))) (
 some (.inr (1, [])))) [.l a, .l b, .i 0] fun (r5 : Nat × List Leaf) =>
 if r5.1 = 0 then
 k (lB r5.2 0)
 else
 k true)
def F106 : T106 := P106 F145
def X106 : Exits := fun i => lookN i [] [(4, [(.ret, xk 27 [(4, .bool false)] []), (.exit 0, xk 27 [] [])])]
abbrev s106 : List (Bool × List CK) := [(false, [.sl 10 true]), (false, [.sl 10 true])]
def G106 (F : T106) (β : Type) (e : (List V × Unit) × (List V × Unit) × Unit) (k : V → Option β) : Option β := F β e.1.1 e.2.1.1 (fun y1 => k (.bool y1))
abbrev W106 (F : T106) : WT := wrap s106 (G106 F)
theorem k106 (F145 : T145) (β : Type) (e : argsT s106) (k : V → Option β) : fnK cfg (tabL [(145, W145 F145)]) X106 106 Try.f106 β (argsEnc s106 e) k = G106 (P106 F145 ) β e k := by kernel_rfl
theorem ok106 : FnOk D 106 (W106 F106) := fn_okW [(145, W145 F145)] X106 (fun _ => rfl) Try.func106 rfl (tabL_cons ok145 tabL_nil) (k106 F145 )
abbrev T76 : Type 1 := (β : Type) → List V → List V → (Bool → Option β) → Option β
def P76 (F106 : T106) : T76 := fun β a_Entries b_Entries k =>
 F106 _ a_Entries b_Entries fun b1 =>
 br (!b1) (
 k false) (
 k true)
def F76 : T76 := P76 F106
abbrev s76 : List (Bool × List CK) := [(true, [.sl 10 true]), (true, [.sl 10 true])]
def G76 (F : T76) (β : Type) (e : (List V × Unit) × (List V × Unit) × Unit) (k : V → Option β) : Option β := F β e.1.1 e.2.1.1 (fun y1 => k (.bool y1))
abbrev W76 (F : T76) : WT := wrap s76 (G76 F)
theorem k76 (F106 : T106) (β : Type) (e : argsT s76) (k : V → Option β) : fnK cfg (tabL [(106, W106 F106)]) noX 76 Try.f76 β (argsEnc s76 e) k = G76 (P76 F106 ) β e k := by kernel_rfl
theorem ok76 : FnOk D 76 (W76 F76) := fn_okW [(106, W106 F106)] noX (fun _ => rfl) Try.func76 rfl (tabL_cons ok106 tabL_nil) (k76 F106 )
abbrev T107 : Type 1 := (β : Type) → List UInt8 → List UInt8 → List UInt8 → Bool → List UInt8 → List UInt8 → List UInt8 → Bool → (Bool → Option β) → Option β
def P107 (F101 : T101) : T107 := fun β a_Top a_To_Host a_To_Path a_Guess b_Top b_To_Host b_To_Path b_Guess k =>
 br (!(a_Top == b_Top)) (
 k false) (
 F101 _ a_To_Host a_To_Path b_To_Host b_To_Path fun b1 =>
 br (!b1) (
 k false) (
 br (!(a_Guess == b_Guess)) (
 k false) (
 k true)))
def F107 : T107 := P107 F101
abbrev s107 : List (Bool × List CK) := [(true, [.str, .str, .str, .bool]), (true, [.str, .str, .str, .bool])]
def G107 (F : T107) (β : Type) (e : (List UInt8 × List UInt8 × List UInt8 × Bool × Unit) × (List UInt8 × List UInt8 × List UInt8 × Bool × Unit) × Unit) (k : V → Option β) : Option β := F β e.1.1 e.1.2.1 e.1.2.2.1 e.1.2.2.2.1 e.2.1.1 e.2.1.2.1 e.2.1.2.2.1 e.2.1.2.2.2.1 (fun y1 => k (.bool y1))
abbrev W107 (F : T107) : WT := wrap s107 (G107 F)
theorem k107 (F101 : T101) (β : Type) (e : argsT s107) (k : V → Option β) : fnK cfg (tabL [(101, W101 F101)]) noX 107 Try.f107 β (argsEnc s107 e) k = G107 (P107 F101 ) β e k := by kernel_rfl
theorem ok107 : FnOk D 107 (W107 F107) := fn_okW [(101, W101 F101)] noX (fun _ => rfl) Try.func107 rfl (tabL_cons ok101 tabL_nil) (k107 F101 )
abbrev T77 : Type 1 := (β : Type) → List V → List V → (Bool → Option β) → Option β
def P77 (F107 : T107) : T77 := fun β a b k =>
 br ((a.length : Int) != (b.length : Int)) (
 k false) (
 whileK (fun s1 =>
 br (decide ((lI s1 2) < ((lL s1 0).length : Int))) (
 chk (0 ≤ (lI s1 2)) <|
 idx true [.str, .str, .str, .bool] (lL s1 0) ((lI s1 2).toNat) fun (e2 : List UInt8 × List UInt8 × List UInt8 × Bool × Unit) =>
 chk (0 ≤ (lI s1 2)) <|
 idx true [.str, .str, .str, .bool] (lL s1 1) ((lI s1 2).toNat) fun (e3 : List UInt8 × List UInt8 × List UInt8 × Bool × Unit) =>
 F107 _ e2.1 e2.2.1 e2.2.2.1 e2.2.2.2.1 e3.1 e3.2.1 e3.2.2.1 e3.2.2.2.1 fun b4 =>
 br (!b4) (
 some (.inr (0, [.b false]))) (
 some (.inl [.l (lL s1 0), .l (lL s1 1), .i (IntKind.wrap .i64 ((lI s1 2) + 1))]))) (
 some (.inr (1, [])))) [.l a, .l b, .i 0] fun (r5 : Nat × List Leaf) =>
 if r5.1 = 0 then
 k (lB r5.2 0)
 else
 k true)
def F77 : T77 := P77 F107
def X77 : Exits := fun i => lookN i [] [(4, [(.ret, xk 27 [(4, .bool false)] []), (.exit 0, xk 27 [] [])])]
abbrev s77 : List (Bool × List CK) := [(false, [.sl 4 true]), (false, [.sl 4 true])]
def G77 (F : T77) (β : Type) (e : (List V × Unit) × (List V × Unit) × Unit) (k : V → Option β) : Option β := F β e.1.1 e.2.1.1 (fun y1 => k (.bool y1))
abbrev W77 (F : T77) : WT := wrap s77 (G77 F)
theorem k77 (F107 : T107) (β : Type) (e : argsT s77) (k : V → Option β) : fnK cfg (tabL [(107, W107 F107)]) X77 77 Try.f77 β (argsEnc s77 e) k = G77 (P77 F107 ) β e k := by kernel_rfl
theorem ok77 : FnOk D 77 (W77 F77) := fn_okW [(107, W107 F107)] X77 (fun _ => rfl) Try.func77 rfl (tabL_cons ok107 tabL_nil) (k77 F107 )
abbrev T45 : Type 1 := (β : Type) → List V → List V → List V → Int → List V → List V → List V → Int → (Bool → Option β) → Option β
def P45 (F8 : T8) (F76 : T76) (F77 : T77) : T45 := fun β a_Servers a_Cache_Entries a_Log a_Now b_Servers b_Cache_Entries b_Log b_Now k =>
 F8 _ a_Servers b_Servers fun b1 =>
 br (!b1) (
 k false) (
 F76 _ a_Cache_Entries b_Cache_Entries fun b2 =>
 br (!b2) (
 k false) (
 F77 _ a_Log b_Log fun b3 =>
 br (!b3) (
 k false) (
 br (a_Now != b_Now) (
 k false) (
 k true))))
def F45 : T45 := P45 F8 F76 F77
abbrev s45 : List (Bool × List CK) := [(true, [.sl 2 false, .sl 10 true, .sl 4 true, .int .i64]), (true, [.sl 2 false, .sl 10 true, .sl 4 true, .int .i64])]
def G45 (F : T45) (β : Type) (e : (List V × List V × List V × Int × Unit) × (List V × List V × List V × Int × Unit) × Unit) (k : V → Option β) : Option β := F β e.1.1 e.1.2.1 e.1.2.2.1 e.1.2.2.2.1 e.2.1.1 e.2.1.2.1 e.2.1.2.2.1 e.2.1.2.2.2.1 (fun y1 => k (.bool y1))
abbrev W45 (F : T45) : WT := wrap s45 (G45 F)
theorem k45 (F8 : T8) (F76 : T76) (F77 : T77) (β : Type) (e : argsT s45) (k : V → Option β) : fnK cfg (tabL [(8, W8 F8), (76, W76 F76), (77, W77 F77)]) noX 45 Try.f45 β (argsEnc s45 e) k = G45 (P45 F8 F76 F77 ) β e k := by kernel_rfl
theorem ok45 : FnOk D 45 (W45 F45) := fn_okW [(8, W8 F8), (76, W76 F76), (77, W77 F77)] noX (fun _ => rfl) Try.func45 rfl (tabL_cons ok8 (tabL_cons ok76 (tabL_cons ok77 tabL_nil))) (k45 F8 F76 F77 )
abbrev T116 : Type 1 := (β : Type) → List UInt8 → List UInt8 → Int → Int → List UInt8 → Int → Bool → List UInt8 → List UInt8 → List UInt8 → Int → Int → List UInt8 → Int → Bool → List UInt8 → (Bool → Option β) → Option β
def P116 (F101 : T101) (F124 : T124) : T116 := fun β a_To_Host a_To_Path a_Response_Status a_Response_Kind a_Response_Body a_Response_Age a_Response_Shares a_Response_Policy b_To_Host b_To_Path b_Response_Status b_Response_Kind b_Response_Body b_Response_Age b_Response_Shares b_Response_Policy k =>
 F101 _ a_To_Host a_To_Path b_To_Host b_To_Path fun b1 =>
 br (!b1) (
 k false) (
 F124 _ a_Response_Status a_Response_Kind a_Response_Body a_Response_Age a_Response_Shares a_Response_Policy b_Response_Status b_Response_Kind b_Response_Body b_Response_Age b_Response_Shares b_Response_Policy fun b2 =>
 br (!b2) (
 k false) (
 k true))
def F116 : T116 := P116 F101 F124
abbrev s116 : List (Bool × List CK) := [(true, [.str, .str, .int .i64, .int .i64, .str, .int .i64, .bool, .str]), (true, [.str, .str, .int .i64, .int .i64, .str, .int .i64, .bool, .str])]
def G116 (F : T116) (β : Type) (e : (List UInt8 × List UInt8 × Int × Int × List UInt8 × Int × Bool × List UInt8 × Unit) × (List UInt8 × List UInt8 × Int × Int × List UInt8 × Int × Bool × List UInt8 × Unit) × Unit) (k : V → Option β) : Option β := let a0_0 := e.1; let a0_1 := a0_0.2; let a0_2 := a0_1.2; let a0_3 := a0_2.2; let a0_4 := a0_3.2; let a0_5 := a0_4.2; let a0_6 := a0_5.2; let a0_7 := a0_6.2; let a1_0 := e.2.1; let a1_1 := a1_0.2; let a1_2 := a1_1.2; let a1_3 := a1_2.2; let a1_4 := a1_3.2; let a1_5 := a1_4.2; let a1_6 := a1_5.2; let a1_7 := a1_6.2; F β a0_0.1 a0_1.1 a0_2.1 a0_3.1 a0_4.1 a0_5.1 a0_6.1 a0_7.1 a1_0.1 a1_1.1 a1_2.1 a1_3.1 a1_4.1 a1_5.1 a1_6.1 a1_7.1 (fun y1 => k (.bool y1))
abbrev W116 (F : T116) : WT := wrap s116 (G116 F)
theorem k116 (F101 : T101) (F124 : T124) (β : Type) (e : argsT s116) (k : V → Option β) : fnK cfg (tabL [(101, W101 F101), (124, W124 F124)]) noX 116 Try.f116 β (argsEnc s116 e) k = G116 (P116 F101 F124 ) β e k := by kernel_rfl
theorem ok116 : FnOk D 116 (W116 F116) := fn_okW [(101, W101 F101), (124, W124 F124)] noX (fun _ => rfl) Try.func116 rfl (tabL_cons ok101 (tabL_cons ok124 tabL_nil)) (k116 F101 F124 )
abbrev T79 : Type 1 := (β : Type) → List V → List V → (Bool → Option β) → Option β
def P79 (F116 : T116) : T79 := fun β a b k =>
 br ((a.length : Int) != (b.length : Int)) (
 k false) (
 whileK (fun s1 =>
 br (decide ((lI s1 2) < ((lL s1 0).length : Int))) (
 chk (0 ≤ (lI s1 2)) <|
 idx true [.str, .str, .int .i64, .int .i64, .str, .int .i64, .bool, .str] (lL s1 0) ((lI s1 2).toNat) fun (e2 : List UInt8 × List UInt8 × Int × Int × List UInt8 × Int × Bool × List UInt8 × Unit) =>
 chk (0 ≤ (lI s1 2)) <|
 idx true [.str, .str, .int .i64, .int .i64, .str, .int .i64, .bool, .str] (lL s1 1) ((lI s1 2).toNat) fun (e3 : List UInt8 × List UInt8 × Int × Int × List UInt8 × Int × Bool × List UInt8 × Unit) =>
 F116 _ e2.1 e2.2.1 e2.2.2.1 e2.2.2.2.1 e2.2.2.2.2.1 e2.2.2.2.2.2.1 e2.2.2.2.2.2.2.1 e2.2.2.2.2.2.2.2.1 e3.1 e3.2.1 e3.2.2.1 e3.2.2.2.1 e3.2.2.2.2.1 e3.2.2.2.2.2.1 e3.2.2.2.2.2.2.1 e3.2.2.2.2.2.2.2.1 fun b4 =>
 br (!b4) (
 some (.inr (0, [.b false]))) (
 some (.inl [.l (lL s1 0), .l (lL s1 1), .i (IntKind.wrap .i64 ((lI s1 2) + 1))]))) (
 some (.inr (1, [])))) [.l a, .l b, .i 0] fun (r5 : Nat × List Leaf) =>
 if r5.1 = 0 then
 k (lB r5.2 0)
 else
 k true)
def F79 : T79 := P79 F116
def X79 : Exits := fun i => lookN i [] [(4, [(.ret, xk 27 [(4, .bool false)] []), (.exit 0, xk 27 [] [])])]
abbrev s79 : List (Bool × List CK) := [(false, [.sl 8 true]), (false, [.sl 8 true])]
def G79 (F : T79) (β : Type) (e : (List V × Unit) × (List V × Unit) × Unit) (k : V → Option β) : Option β := F β e.1.1 e.2.1.1 (fun y1 => k (.bool y1))
abbrev W79 (F : T79) : WT := wrap s79 (G79 F)
theorem k79 (F116 : T116) (β : Type) (e : argsT s79) (k : V → Option β) : fnK cfg (tabL [(116, W116 F116)]) X79 79 Try.f79 β (argsEnc s79 e) k = G79 (P79 F116 ) β e k := by kernel_rfl
theorem ok79 : FnOk D 79 (W79 F79) := fn_okW [(116, W116 F116)] X79 (fun _ => rfl) Try.func79 rfl (tabL_cons ok116 tabL_nil) (k79 F116 )
abbrev T46 : Type 1 := (β : Type) → Bool → List UInt8 → List UInt8 → Bool → List V → List V → List V → List UInt8 → List UInt8 → List V → Bool → List V → List V → List V → List V → List V → Int → Int → Int → Int → List V → List V → Bool → List V → List V → Int → Bool → List UInt8 → List UInt8 → Bool → List V → List V → List V → List UInt8 → List UInt8 → List V → Bool → List V → List V → List V → List V → List V → Int → Int → Int → Int → List V → List V → Bool → List V → List V → Int → (Bool → Option β) → Option β
def P46 (F78 : T78) (F79 : T79) (F8 : T8) : T46 := fun β a_Ready a_Page_Addr_Host a_Page_Addr_Path a_Page_Policy_Set a_Page_Policy_Scripts a_Page_Policy_Styles a_Page_Policy_Images a_Page_Policy_Nonce a_Page_Tok_Rest a_Page_Queue a_Page_Ended a_Page_Builder_Nodes a_Page_Builder_Open a_Page_Slots a_Page_Mods a_Page_Entries a_Page_Block a_Page_Inline a_Page_Deferred a_Page_Entered a_Page_Ran a_Page_Log a_Page_Loaded a_Taken a_Servers a_Now b_Ready b_Page_Addr_Host b_Page_Addr_Path b_Page_Policy_Set b_Page_Policy_Scripts b_Page_Policy_Styles b_Page_Policy_Images b_Page_Policy_Nonce b_Page_Tok_Rest b_Page_Queue b_Page_Ended b_Page_Builder_Nodes b_Page_Builder_Open b_Page_Slots b_Page_Mods b_Page_Entries b_Page_Block b_Page_Inline b_Page_Deferred b_Page_Entered b_Page_Ran b_Page_Log b_Page_Loaded b_Taken b_Servers b_Now k =>
 br (!(a_Ready == b_Ready)) (
 k false) (
 F78 _ a_Page_Addr_Host a_Page_Addr_Path a_Page_Policy_Set a_Page_Policy_Scripts a_Page_Policy_Styles a_Page_Policy_Images a_Page_Policy_Nonce a_Page_Tok_Rest a_Page_Queue a_Page_Ended a_Page_Builder_Nodes a_Page_Builder_Open a_Page_Slots a_Page_Mods a_Page_Entries a_Page_Block a_Page_Inline a_Page_Deferred a_Page_Entered a_Page_Ran a_Page_Log a_Page_Loaded b_Page_Addr_Host b_Page_Addr_Path b_Page_Policy_Set b_Page_Policy_Scripts b_Page_Policy_Styles b_Page_Policy_Images b_Page_Policy_Nonce b_Page_Tok_Rest b_Page_Queue b_Page_Ended b_Page_Builder_Nodes b_Page_Builder_Open b_Page_Slots b_Page_Mods b_Page_Entries b_Page_Block b_Page_Inline b_Page_Deferred b_Page_Entered b_Page_Ran b_Page_Log b_Page_Loaded fun b1 =>
 br (!b1) (
 k false) (
 F79 _ a_Taken b_Taken fun b2 =>
 br (!b2) (
 k false) (
 F8 _ a_Servers b_Servers fun b3 =>
 br (!b3) (
 k false) (
 br (a_Now != b_Now) (
 k false) (
 k true)))))
def F46 : T46 := P46 F78 F79 F8
abbrev s46 : List (Bool × List CK) := [(true, [.bool, .str, .str, .bool, .sl 1 true, .sl 1 true, .sl 1 true, .str, .str, .sl 4 false, .bool, .sl 4 false, .sl 1 true, .sl 8 true, .sl 5 true, .sl 2 true, .int .i64, .int .i64, .int .i64, .int .i64, .sl 2 true, .sl 1 true, .bool, .sl 8 true, .sl 2 false, .int .i64]), (true, [.bool, .str, .str, .bool, .sl 1 true, .sl 1 true, .sl 1 true, .str, .str, .sl 4 false, .bool, .sl 4 false, .sl 1 true, .sl 8 true, .sl 5 true, .sl 2 true, .int .i64, .int .i64, .int .i64, .int .i64, .sl 2 true, .sl 1 true, .bool, .sl 8 true, .sl 2 false, .int .i64])]
def G46 (F : T46) (β : Type) (e : (Bool × List UInt8 × List UInt8 × Bool × List V × List V × List V × List UInt8 × List UInt8 × List V × Bool × List V × List V × List V × List V × List V × Int × Int × Int × Int × List V × List V × Bool × List V × List V × Int × Unit) × (Bool × List UInt8 × List UInt8 × Bool × List V × List V × List V × List UInt8 × List UInt8 × List V × Bool × List V × List V × List V × List V × List V × Int × Int × Int × Int × List V × List V × Bool × List V × List V × Int × Unit) × Unit) (k : V → Option β) : Option β := let a0_0 := e.1; let a0_1 := a0_0.2; let a0_2 := a0_1.2; let a0_3 := a0_2.2; let a0_4 := a0_3.2; let a0_5 := a0_4.2; let a0_6 := a0_5.2; let a0_7 := a0_6.2; let a0_8 := a0_7.2; let a0_9 := a0_8.2; let a0_10 := a0_9.2; let a0_11 := a0_10.2; let a0_12 := a0_11.2; let a0_13 := a0_12.2; let a0_14 := a0_13.2; let a0_15 := a0_14.2; let a0_16 := a0_15.2; let a0_17 := a0_16.2; let a0_18 := a0_17.2; let a0_19 := a0_18.2; let a0_20 := a0_19.2; let a0_21 := a0_20.2; let a0_22 := a0_21.2; let a0_23 := a0_22.2; let a0_24 := a0_23.2; let a0_25 := a0_24.2; let a1_0 := e.2.1; let a1_1 := a1_0.2; let a1_2 := a1_1.2; let a1_3 := a1_2.2; let a1_4 := a1_3.2; let a1_5 := a1_4.2; let a1_6 := a1_5.2; let a1_7 := a1_6.2; let a1_8 := a1_7.2; let a1_9 := a1_8.2; let a1_10 := a1_9.2; let a1_11 := a1_10.2; let a1_12 := a1_11.2; let a1_13 := a1_12.2; let a1_14 := a1_13.2; let a1_15 := a1_14.2; let a1_16 := a1_15.2; let a1_17 := a1_16.2; let a1_18 := a1_17.2; let a1_19 := a1_18.2; let a1_20 := a1_19.2; let a1_21 := a1_20.2; let a1_22 := a1_21.2; let a1_23 := a1_22.2; let a1_24 := a1_23.2; let a1_25 := a1_24.2; F β a0_0.1 a0_1.1 a0_2.1 a0_3.1 a0_4.1 a0_5.1 a0_6.1 a0_7.1 a0_8.1 a0_9.1 a0_10.1 a0_11.1 a0_12.1 a0_13.1 a0_14.1 a0_15.1 a0_16.1 a0_17.1 a0_18.1 a0_19.1 a0_20.1 a0_21.1 a0_22.1 a0_23.1 a0_24.1 a0_25.1 a1_0.1 a1_1.1 a1_2.1 a1_3.1 a1_4.1 a1_5.1 a1_6.1 a1_7.1 a1_8.1 a1_9.1 a1_10.1 a1_11.1 a1_12.1 a1_13.1 a1_14.1 a1_15.1 a1_16.1 a1_17.1 a1_18.1 a1_19.1 a1_20.1 a1_21.1 a1_22.1 a1_23.1 a1_24.1 a1_25.1 (fun y1 => k (.bool y1))
abbrev W46 (F : T46) : WT := wrap s46 (G46 F)
theorem k46 (F78 : T78) (F79 : T79) (F8 : T8) (β : Type) (e : argsT s46) (k : V → Option β) : fnK cfg (tabL [(78, W78 F78), (79, W79 F79), (8, W8 F8)]) noX 46 Try.f46 β (argsEnc s46 e) k = G46 (P46 F78 F79 F8 ) β e k := by kernel_rfl
theorem ok46 : FnOk D 46 (W46 F46) := fn_okW [(78, W78 F78), (79, W79 F79), (8, W8 F8)] noX (fun _ => rfl) Try.func46 rfl (tabL_cons ok78 (tabL_cons ok79 (tabL_cons ok8 tabL_nil))) (k46 F78 F79 F8 )
abbrev T22 : Type 1 := (β : Type) → List V → List V → List V → Int → List V → Int → Bool → List UInt8 → List UInt8 → Bool → List V → List V → List V → List UInt8 → List UInt8 → List V → Bool → List V → List V → List V → List V → List V → Int → Int → Int → Int → List V → List V → Bool → List V → List V → Int → Bool → List V → List V → List V → Int → List V → Int → Bool → List UInt8 → List UInt8 → Bool → List V → List V → List V → List UInt8 → List UInt8 → List V → Bool → List V → List V → List V → List V → List V → Int → Int → Int → Int → List V → List V → Bool → List V → List V → Int → Bool → (Bool → Option β) → Option β
def P22 (F45 : T45) (F15 : T15) (F46 : T46) : T22 := fun β a_Net_Servers a_Net_Cache_Entries a_Net_Log a_Net_Now a_Tab_Visits a_Tab_At a_Hidden_Ready a_Hidden_Page_Addr_Host a_Hidden_Page_Addr_Path a_Hidden_Page_Policy_Set a_Hidden_Page_Policy_Scripts a_Hidden_Page_Policy_Styles a_Hidden_Page_Policy_Images a_Hidden_Page_Policy_Nonce a_Hidden_Page_Tok_Rest a_Hidden_Page_Queue a_Hidden_Page_Ended a_Hidden_Page_Builder_Nodes a_Hidden_Page_Builder_Open a_Hidden_Page_Slots a_Hidden_Page_Mods a_Hidden_Page_Entries a_Hidden_Page_Block a_Hidden_Page_Inline a_Hidden_Page_Deferred a_Hidden_Page_Entered a_Hidden_Page_Ran a_Hidden_Page_Log a_Hidden_Page_Loaded a_Hidden_Taken a_Hidden_Servers a_Hidden_Now a_Fast b_Net_Servers b_Net_Cache_Entries b_Net_Log b_Net_Now b_Tab_Visits b_Tab_At b_Hidden_Ready b_Hidden_Page_Addr_Host b_Hidden_Page_Addr_Path b_Hidden_Page_Policy_Set b_Hidden_Page_Policy_Scripts b_Hidden_Page_Policy_Styles b_Hidden_Page_Policy_Images b_Hidden_Page_Policy_Nonce b_Hidden_Page_Tok_Rest b_Hidden_Page_Queue b_Hidden_Page_Ended b_Hidden_Page_Builder_Nodes b_Hidden_Page_Builder_Open b_Hidden_Page_Slots b_Hidden_Page_Mods b_Hidden_Page_Entries b_Hidden_Page_Block b_Hidden_Page_Inline b_Hidden_Page_Deferred b_Hidden_Page_Entered b_Hidden_Page_Ran b_Hidden_Page_Log b_Hidden_Page_Loaded b_Hidden_Taken b_Hidden_Servers b_Hidden_Now b_Fast k =>
 F45 _ a_Net_Servers a_Net_Cache_Entries a_Net_Log a_Net_Now b_Net_Servers b_Net_Cache_Entries b_Net_Log b_Net_Now fun b1 =>
 br (!b1) (
 k false) (
 F15 _ a_Tab_Visits a_Tab_At b_Tab_Visits b_Tab_At fun b2 =>
 br (!b2) (
 k false) (
 F46 _ a_Hidden_Ready a_Hidden_Page_Addr_Host a_Hidden_Page_Addr_Path a_Hidden_Page_Policy_Set a_Hidden_Page_Policy_Scripts a_Hidden_Page_Policy_Styles a_Hidden_Page_Policy_Images a_Hidden_Page_Policy_Nonce a_Hidden_Page_Tok_Rest a_Hidden_Page_Queue a_Hidden_Page_Ended a_Hidden_Page_Builder_Nodes a_Hidden_Page_Builder_Open a_Hidden_Page_Slots a_Hidden_Page_Mods a_Hidden_Page_Entries a_Hidden_Page_Block a_Hidden_Page_Inline a_Hidden_Page_Deferred a_Hidden_Page_Entered a_Hidden_Page_Ran a_Hidden_Page_Log a_Hidden_Page_Loaded a_Hidden_Taken a_Hidden_Servers a_Hidden_Now b_Hidden_Ready b_Hidden_Page_Addr_Host b_Hidden_Page_Addr_Path b_Hidden_Page_Policy_Set b_Hidden_Page_Policy_Scripts b_Hidden_Page_Policy_Styles b_Hidden_Page_Policy_Images b_Hidden_Page_Policy_Nonce b_Hidden_Page_Tok_Rest b_Hidden_Page_Queue b_Hidden_Page_Ended b_Hidden_Page_Builder_Nodes b_Hidden_Page_Builder_Open b_Hidden_Page_Slots b_Hidden_Page_Mods b_Hidden_Page_Entries b_Hidden_Page_Block b_Hidden_Page_Inline b_Hidden_Page_Deferred b_Hidden_Page_Entered b_Hidden_Page_Ran b_Hidden_Page_Log b_Hidden_Page_Loaded b_Hidden_Taken b_Hidden_Servers b_Hidden_Now fun b3 =>
 br (!b3) (
 k false) (
 br (!(a_Fast == b_Fast)) (
 k false) (
 k true))))
def F22 : T22 := P22 F45 F15 F46
abbrev s22 : List (Bool × List CK) := [(true, [.sl 2 false, .sl 10 true, .sl 4 true, .int .i64, .sl 25 false, .int .i64, .bool, .str, .str, .bool, .sl 1 true, .sl 1 true, .sl 1 true, .str, .str, .sl 4 false, .bool, .sl 4 false, .sl 1 true, .sl 8 true, .sl 5 true, .sl 2 true, .int .i64, .int .i64, .int .i64, .int .i64, .sl 2 true, .sl 1 true, .bool, .sl 8 true, .sl 2 false, .int .i64, .bool]), (true, [.sl 2 false, .sl 10 true, .sl 4 true, .int .i64, .sl 25 false, .int .i64, .bool, .str, .str, .bool, .sl 1 true, .sl 1 true, .sl 1 true, .str, .str, .sl 4 false, .bool, .sl 4 false, .sl 1 true, .sl 8 true, .sl 5 true, .sl 2 true, .int .i64, .int .i64, .int .i64, .int .i64, .sl 2 true, .sl 1 true, .bool, .sl 8 true, .sl 2 false, .int .i64, .bool])]
def G22 (F : T22) (β : Type) (e : (List V × List V × List V × Int × List V × Int × Bool × List UInt8 × List UInt8 × Bool × List V × List V × List V × List UInt8 × List UInt8 × List V × Bool × List V × List V × List V × List V × List V × Int × Int × Int × Int × List V × List V × Bool × List V × List V × Int × Bool × Unit) × (List V × List V × List V × Int × List V × Int × Bool × List UInt8 × List UInt8 × Bool × List V × List V × List V × List UInt8 × List UInt8 × List V × Bool × List V × List V × List V × List V × List V × Int × Int × Int × Int × List V × List V × Bool × List V × List V × Int × Bool × Unit) × Unit) (k : V → Option β) : Option β := let a0_0 := e.1; let a0_1 := a0_0.2; let a0_2 := a0_1.2; let a0_3 := a0_2.2; let a0_4 := a0_3.2; let a0_5 := a0_4.2; let a0_6 := a0_5.2; let a0_7 := a0_6.2; let a0_8 := a0_7.2; let a0_9 := a0_8.2; let a0_10 := a0_9.2; let a0_11 := a0_10.2; let a0_12 := a0_11.2; let a0_13 := a0_12.2; let a0_14 := a0_13.2; let a0_15 := a0_14.2; let a0_16 := a0_15.2; let a0_17 := a0_16.2; let a0_18 := a0_17.2; let a0_19 := a0_18.2; let a0_20 := a0_19.2; let a0_21 := a0_20.2; let a0_22 := a0_21.2; let a0_23 := a0_22.2; let a0_24 := a0_23.2; let a0_25 := a0_24.2; let a0_26 := a0_25.2; let a0_27 := a0_26.2; let a0_28 := a0_27.2; let a0_29 := a0_28.2; let a0_30 := a0_29.2; let a0_31 := a0_30.2; let a0_32 := a0_31.2; let a1_0 := e.2.1; let a1_1 := a1_0.2; let a1_2 := a1_1.2; let a1_3 := a1_2.2; let a1_4 := a1_3.2; let a1_5 := a1_4.2; let a1_6 := a1_5.2; let a1_7 := a1_6.2; let a1_8 := a1_7.2; let a1_9 := a1_8.2; let a1_10 := a1_9.2; let a1_11 := a1_10.2; let a1_12 := a1_11.2; let a1_13 := a1_12.2; let a1_14 := a1_13.2; let a1_15 := a1_14.2; let a1_16 := a1_15.2; let a1_17 := a1_16.2; let a1_18 := a1_17.2; let a1_19 := a1_18.2; let a1_20 := a1_19.2; let a1_21 := a1_20.2; let a1_22 := a1_21.2; let a1_23 := a1_22.2; let a1_24 := a1_23.2; let a1_25 := a1_24.2; let a1_26 := a1_25.2; let a1_27 := a1_26.2; let a1_28 := a1_27.2; let a1_29 := a1_28.2; let a1_30 := a1_29.2; let a1_31 := a1_30.2; let a1_32 := a1_31.2; F β a0_0.1 a0_1.1 a0_2.1 a0_3.1 a0_4.1 a0_5.1 a0_6.1 a0_7.1 a0_8.1 a0_9.1 a0_10.1 a0_11.1 a0_12.1 a0_13.1 a0_14.1 a0_15.1 a0_16.1 a0_17.1 a0_18.1 a0_19.1 a0_20.1 a0_21.1 a0_22.1 a0_23.1 a0_24.1 a0_25.1 a0_26.1 a0_27.1 a0_28.1 a0_29.1 a0_30.1 a0_31.1 a0_32.1 a1_0.1 a1_1.1 a1_2.1 a1_3.1 a1_4.1 a1_5.1 a1_6.1 a1_7.1 a1_8.1 a1_9.1 a1_10.1 a1_11.1 a1_12.1 a1_13.1 a1_14.1 a1_15.1 a1_16.1 a1_17.1 a1_18.1 a1_19.1 a1_20.1 a1_21.1 a1_22.1 a1_23.1 a1_24.1 a1_25.1 a1_26.1 a1_27.1 a1_28.1 a1_29.1 a1_30.1 a1_31.1 a1_32.1 (fun y1 => k (.bool y1))
abbrev W22 (F : T22) : WT := wrap s22 (G22 F)
theorem k22 (F45 : T45) (F15 : T15) (F46 : T46) (β : Type) (e : argsT s22) (k : V → Option β) : fnK cfg (tabL [(45, W45 F45), (15, W15 F15), (46, W46 F46)]) noX 22 Try.f22 β (argsEnc s22 e) k = G22 (P22 F45 F15 F46 ) β e k := by kernel_rfl
theorem ok22 : FnOk D 22 (W22 F22) := fn_okW [(45, W45 F45), (15, W15 F15), (46, W46 F46)] noX (fun _ => rfl) Try.func22 rfl (tabL_cons ok45 (tabL_cons ok15 (tabL_cons ok46 tabL_nil))) (k22 F45 F15 F46 )
abbrev T40 : Type 1 := (β : Type) → List V → (List V → Option β) → Option β
def P40 : T40 := fun β l k =>
 whileK (fun s1 =>
 br (decide ((lI s1 2) < ((lL s1 0).length : Int))) (
 chk (0 ≤ (lI s1 2)) <|
 idx true [.str, .sl 7 true] (lL s1 0) ((lI s1 2).toNat) fun (e2 : List UInt8 × List V × Unit) =>
 chk (0 ≤ (lI s1 2)) <|
 idx true [.str, .sl 7 true] (lL s1 0) ((lI s1 2).toNat) fun (e3 : List UInt8 × List V × Unit) =>
 chk ((([] : List V).length + e3.2.1.length) * 80 ≤ 140737488355328 ∧ ([] : List V).length + e3.2.1.length ≤ 140737488355328) <|
 chk (((lL s1 1).length + ([.agg [.str e2.1, .sl 7 true (([] : List V) ++ e3.2.1)]] : List V).length) * 40 ≤ 140737488355328 ∧ (lL s1 1).length + ([.agg [.str e2.1, .sl 7 true (([] : List V) ++ e3.2.1)]] : List V).length ≤ 140737488355328) <|
 some (.inl [.l (lL s1 0), .l ((lL s1 1) ++ ([.agg [.str e2.1, .sl 7 true (([] : List V) ++ e3.2.1)]] : List V)), .i (IntKind.wrap .i64 ((lI s1 2) + 1))])) (
 some (.inr (0, [.l (lL s1 1)])))) [.l l, .l [], .i 0] fun (r4 : Nat × List Leaf) =>
 k (lL r4.2 0)
def F40 : T40 := P40
def X40 : Exits := fun i => lookN i [] [(3, [(.exit 0, xk 29 [(3, .own 1000000 2 .clean [])] [])])]
abbrev s40 : List (Bool × List CK) := [(false, [.sl 2 false])]
def G40 (F : T40) (β : Type) (e : (List V × Unit) × Unit) (k : V → Option β) : Option β := F β e.1.1 (fun y1 => k (.own 0 2 .clean y1))
abbrev W40 (F : T40) : WT := wrap s40 (G40 F)
theorem k40 (β : Type) (e : argsT s40) (k : V → Option β) : fnK cfg (tabL []) X40 40 Try.f40 β (argsEnc s40 e) k = G40 (P40 ) β e k := by kernel_rfl
theorem ok40 : FnOk D 40 (W40 F40) := fn_okW [] X40 (fun _ => rfl) Try.func40 rfl (tabL_nil) (k40 )
abbrev T41 : Type 1 := (β : Type) → (List V → Int → Option β) → Option β
def P41 : T41 := fun β  k =>
 k [] (-1)
def F41 : T41 := P41
abbrev s41 : List (Bool × List CK) := []
def G41 (F : T41) (β : Type) (e : Unit) (k : V → Option β) : Option β := F β  (fun y1 y2 => k (.agg [.own 0 25 .clean y1, .int .i64 y2]))
abbrev W41 (F : T41) : WT := wrap s41 (G41 F)
theorem k41 (β : Type) (e : argsT s41) (k : V → Option β) : fnK cfg (tabL []) noX 41 Try.f41 β (argsEnc s41 e) k = G41 (P41 ) β e k := by kernel_rfl
theorem ok41 : FnOk D 41 (W41 F41) := fn_okW [] noX (fun _ => rfl) Try.func41 rfl (tabL_nil) (k41 )
abbrev T19 : Type 1 := (β : Type) → List V → Bool → (List V → List V → List V → Int → List V → Int → Bool → List UInt8 → List UInt8 → Bool → List V → List V → List V → List UInt8 → List UInt8 → List V → Bool → List V → List V → List V → List V → List V → Int → Int → Int → Int → List V → List V → Bool → List V → List V → Int → Bool → Option β) → Option β
def P19 (F40 : T40) (F41 : T41) : T19 := fun β l fast k =>
 F40 _ l fun l1 =>
 F41 _  fun l2 n3 =>
 k l1 [] [] 0 l2 n3 false [] [] false [] [] [] [] [] [] false [] [] [] [] [] 0 0 0 0 [] [] false [] [] 0 fast
def F19 : T19 := P19 F40 F41
abbrev s19 : List (Bool × List CK) := [(false, [.sl 2 false]), (false, [.bool])]
def G19 (F : T19) (β : Type) (e : (List V × Unit) × (Bool × Unit) × Unit) (k : V → Option β) : Option β := F β e.1.1 e.2.1.1 (fun y1 y2 y3 y4 y5 y6 y7 y8 y9 y10 y11 y12 y13 y14 y15 y16 y17 y18 y19 y20 y21 y22 y23 y24 y25 y26 y27 y28 y29 y30 y31 y32 y33 => k (.agg [.own 0 2 .clean y1, .own 1 10 .flat y2, .own 2 4 .flat y3, .int .i64 y4, .own 4 25 .clean y5, .int .i64 y6, .bool y7, .str y8, .str y9, .bool y10, .own 10 1 .flat y11, .own 11 1 .flat y12, .own 12 1 .flat y13, .str y14, .str y15, .own 15 4 .clean y16, .bool y17, .own 17 4 .clean y18, .own 18 1 .flat y19, .own 19 8 .flat y20, .own 20 5 .flat y21, .own 21 2 .flat y22, .int .i64 y23, .int .i64 y24, .int .i64 y25, .int .i64 y26, .own 26 2 .flat y27, .own 27 1 .flat y28, .bool y29, .own 29 8 .flat y30, .own 30 2 .clean y31, .int .i64 y32, .bool y33]))
abbrev W19 (F : T19) : WT := wrap s19 (G19 F)
theorem k19 (F40 : T40) (F41 : T41) (β : Type) (e : argsT s19) (k : V → Option β) : fnK cfg (tabL [(40, W40 F40), (41, W41 F41)]) noX 19 Try.f19 β (argsEnc s19 e) k = G19 (P19 F40 F41 ) β e k := by kernel_rfl
theorem ok19 : FnOk D 19 (W19 F19) := fn_okW [(40, W40 F40), (41, W41 F41)] noX (fun _ => rfl) Try.func19 rfl (tabL_cons ok40 (tabL_cons ok41 tabL_nil)) (k19 F40 F41 )
abbrev T43 : Type 1 := (β : Type) → List V → (List V → Option β) → Option β
def P43 : T43 := fun β l k =>
 whileK (fun s1 =>
 br (decide ((lI s1 3) < (lI s1 2))) (
 chk (0 ≤ (lI s1 3)) <|
 idx true [.str, .sl 7 true] (lL s1 1) ((lI s1 3).toNat) fun (e2 : List UInt8 × List V × Unit) =>
 chk ((([] : List V).length + e2.2.1.length) * 80 ≤ 140737488355328 ∧ ([] : List V).length + e2.2.1.length ≤ 140737488355328) <|
 chk (((lL s1 0).length + ([.agg [.str e2.1, .sl 7 true (([] : List V) ++ e2.2.1)]] : List V).length) * 40 ≤ 140737488355328 ∧ (lL s1 0).length + ([.agg [.str e2.1, .sl 7 true (([] : List V) ++ e2.2.1)]] : List V).length ≤ 140737488355328) <|
 some (.inl [.l ((lL s1 0) ++ ([.agg [.str e2.1, .sl 7 true (([] : List V) ++ e2.2.1)]] : List V)), .l (lL s1 1), .i (lI s1 2), .i (IntKind.wrap .i64 ((lI s1 3) + 1))])) (
 some (.inr (0, [.l (lL s1 0)])))) [.l [], .l l, .i (l.length : Int), .i 0] fun (r3 : Nat × List Leaf) =>
 k (lL r3.2 0)
def F43 : T43 := P43
def X43 : Exits := fun i => lookN i [] [(3, [(.exit 0, xk 25 [(3, .own 1000000 2 .clean [])] [])])]
abbrev s43 : List (Bool × List CK) := [(false, [.sl 2 false])]
def G43 (F : T43) (β : Type) (e : (List V × Unit) × Unit) (k : V → Option β) : Option β := F β e.1.1 (fun y1 => k (.own 0 2 .clean y1))
abbrev W43 (F : T43) : WT := wrap s43 (G43 F)
theorem k43 (β : Type) (e : argsT s43) (k : V → Option β) : fnK cfg (tabL []) X43 43 Try.f43 β (argsEnc s43 e) k = G43 (P43 ) β e k := by kernel_rfl
theorem ok43 : FnOk D 43 (W43 F43) := fn_okW [] X43 (fun _ => rfl) Try.func43 rfl (tabL_nil) (k43 )
abbrev T44 : Type 1 := (β : Type) → (List V → Int → Option β) → Option β
def P44 : T44 := fun β  k =>
 k [] (-1)
def F44 : T44 := P44
abbrev s44 : List (Bool × List CK) := []
def G44 (F : T44) (β : Type) (e : Unit) (k : V → Option β) : Option β := F β  (fun y1 y2 => k (.agg [.own 0 25 .clean y1, .int .i64 y2]))
abbrev W44 (F : T44) : WT := wrap s44 (G44 F)
theorem k44 (β : Type) (e : argsT s44) (k : V → Option β) : fnK cfg (tabL []) noX 44 Try.f44 β (argsEnc s44 e) k = G44 (P44 ) β e k := by kernel_rfl
theorem ok44 : FnOk D 44 (W44 F44) := fn_okW [] noX (fun _ => rfl) Try.func44 rfl (tabL_nil) (k44 )
abbrev T21 : Type 1 := (β : Type) → List V → Bool → (List V → List V → List V → Int → List V → Int → Bool → List UInt8 → List UInt8 → Bool → List V → List V → List V → List UInt8 → List UInt8 → List V → Bool → List V → List V → List V → List V → List V → Int → Int → Int → Int → List V → List V → Bool → List V → List V → Int → Bool → Option β) → Option β
def P21 (F43 : T43) (F44 : T44) : T21 := fun β l fast k =>
 F43 _ l fun l1 =>
 F44 _  fun l2 n3 =>
 k l1 [] [] 0 l2 n3 false [] [] false [] [] [] [] [] [] false [] [] [] [] [] 0 0 0 0 [] [] false [] [] 0 fast
def F21 : T21 := P21 F43 F44
abbrev s21 : List (Bool × List CK) := [(false, [.sl 2 false]), (false, [.bool])]
def G21 (F : T21) (β : Type) (e : (List V × Unit) × (Bool × Unit) × Unit) (k : V → Option β) : Option β := F β e.1.1 e.2.1.1 (fun y1 y2 y3 y4 y5 y6 y7 y8 y9 y10 y11 y12 y13 y14 y15 y16 y17 y18 y19 y20 y21 y22 y23 y24 y25 y26 y27 y28 y29 y30 y31 y32 y33 => k (.agg [.own 0 2 .clean y1, .own 1 10 .flat y2, .own 2 4 .flat y3, .int .i64 y4, .own 4 25 .clean y5, .int .i64 y6, .bool y7, .str y8, .str y9, .bool y10, .own 10 1 .flat y11, .own 11 1 .flat y12, .own 12 1 .flat y13, .str y14, .str y15, .own 15 4 .clean y16, .bool y17, .own 17 4 .clean y18, .own 18 1 .flat y19, .own 19 8 .flat y20, .own 20 5 .flat y21, .own 21 2 .flat y22, .int .i64 y23, .int .i64 y24, .int .i64 y25, .int .i64 y26, .own 26 2 .flat y27, .own 27 1 .flat y28, .bool y29, .own 29 8 .flat y30, .own 30 2 .clean y31, .int .i64 y32, .bool y33]))
abbrev W21 (F : T21) : WT := wrap s21 (G21 F)
theorem k21 (F43 : T43) (F44 : T44) (β : Type) (e : argsT s21) (k : V → Option β) : fnK cfg (tabL [(43, W43 F43), (44, W44 F44)]) noX 21 Try.f21 β (argsEnc s21 e) k = G21 (P21 F43 F44 ) β e k := by kernel_rfl
theorem ok21 : FnOk D 21 (W21 F21) := fn_okW [(43, W43 F43), (44, W44 F44)] noX (fun _ => rfl) Try.func21 rfl (tabL_cons ok43 (tabL_cons ok44 tabL_nil)) (k21 F43 F44 )
abbrev T28 : Type 1 := (β : Type) → Int → (List UInt8 → Option β) → Option β
def P28 : T28 := fun β xk k =>
 br (decide (xk ≤ 0)) (
 k [109, 48]) (
 whileK (fun s1 =>
 br (decide ((lI s1 0) > 0)) (
 strO [.int .u8 (IntKind.wrap .u8 (IntKind.wrap .i64 (48 + (Int.tmod (lI s1 0) 10))))] fun t2 =>
 chk (t2.length + (lS s1 1).length ≤ 9223372036854775807) <|
 some (.inl [.i (IntKind.wrap .i64 (Int.tdiv (lI s1 0) 10)), .s (t2 ++ (lS s1 1))])) (
 some (.inr (0, [.s (lS s1 1)])))) [.i xk, .s []] fun (r3 : Nat × List Leaf) =>
 chk (([109] : List UInt8).length + (lS r3.2 0).length ≤ 9223372036854775807) <|
 k ([109] ++ (lS r3.2 0)))
def F28 : T28 := P28
def X28 : Exits := fun i => lookN i [] [(4, [(.exit 0, xk 20 [(3, .str [])] [])])]
abbrev s28 : List (Bool × List CK) := [(false, [.int .i64])]
def G28 (F : T28) (β : Type) (e : (Int × Unit) × Unit) (k : V → Option β) : Option β := F β e.1.1 (fun y1 => k (.str y1))
abbrev W28 (F : T28) : WT := wrap s28 (G28 F)
theorem k28 (β : Type) (e : argsT s28) (k : V → Option β) : fnK cfg (tabL []) X28 28 Try.f28 β (argsEnc s28 e) k = G28 (P28 ) β e k := by kernel_rfl
theorem ok28 : FnOk D 28 (W28 F28) := fn_okW [] X28 (fun _ => rfl) Try.func28 rfl (tabL_nil) (k28 )
end
end Go.Am

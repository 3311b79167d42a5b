/-
  Functions of the program, extracted by program (sym.py) out of their code: what each computes, and, by the kernel's reckoning, that the machine's looking form computes just that; so what the machine answers.
-/
import Derived.Test.YtlbilfobehdidaaAmCfg
import Derived.Test.YtlbilfobehdidaaAmEvOk2
import Derived.KernelRfl
set_option maxRecDepth 10000
set_option linter.unusedVariables false
namespace Go.Am
open Go Go.Proofs
noncomputable section
abbrev WT : Type 1 := (β : Type) → List V → (V → Option β) → Option β
/-- laws.szStringS -/
abbrev T30 : Type 1 := (β : Type) → List V → Int → (Int → Option β) → Option β
def P30 : T30 := fun β a left k =>
 br (decide (IntKind.wrap .i64 (left - (a.length : Int)) < 0)) (
 k (-1)) (
 whileK (fun s1 =>
 br (decide ((lI s1 2) < ((lL s1 0).length : Int))) (
 chk (0 ≤ (lI s1 2)) <|
 idx false [.str] (lL s1 0) ((lI s1 2).toNat) fun (e2 : List UInt8 × Unit) =>
 br (decide (IntKind.wrap .i64 ((lI s1 1) - (e2.1.length : Int)) < 0)) (
 some (.inr (0, [.i (IntKind.wrap .i64 ((lI s1 1) - (e2.1.length : Int))), .i (-1)]))) (
 some (.inl [.l (lL s1 0), .i (IntKind.wrap .i64 ((lI s1 1) - (e2.1.length : Int))), .i (IntKind.wrap .i64 ((lI s1 2) + 1))]))) (
 some (.inr (1, [.i (lI s1 1)])))) [.l a, .i (IntKind.wrap .i64 (left - (a.length : Int))), .i 0] fun (r3 : Nat × List Leaf) =>
 if r3.1 = 0 then
 k (lI r3.2 1)
 else
 k (lI r3.2 0))
def F30 : T30 := P30 
def X30 : Exits := fun i => lookN i [] [(5, [(.ret, xk 28 [(1, .int .i64 0), (4, .int .i64 0)] []), (.exit 0, xk 28 [(1, .int .i64 0)] [])])]
abbrev s30 : List (Bool × List CK) := [(false, [.sl 1 true]), (false, [.int .i64])]
def G30 (F : T30) (β : Type) (e : (List V × Unit) × (Int × Unit) × Unit) (k : V → Option β) : Option β := F β e.1.1 e.2.1.1 (fun y1 => k (.int .i64 y1))
abbrev W30 (F : T30) : WT := wrap s30 (G30 F)
theorem k30 (β : Type) (e : argsT s30) (k : V → Option β) : fnK cfg (tabL []) X30 30 Try.f30 β (argsEnc s30 e) k = G30 (P30 ) β e k := by kernel_rfl
theorem ok30 : FnOk D 30 (W30 F30) := fn_okW [] X30 (fun _ => rfl) Try.func30 rfl (tabL_nil) (k30 )

/-- laws.toStringS -/
abbrev T32 : Type 1 := (β : Type) → List V → (List V → Option β) → Option β
def P32 : T32 := fun β a k =>
 chk (0 ≤ (a.length : Int) ∧ (a.length : Int) ≤ (a.length : Int) ∧ (a.length : Int) * 16 ≤ 140737488355328 ∧ (a.length : Int) ≤ 140737488355328) <|
 whileK (fun s1 =>
 br (decide ((lI s1 2) < ((lL s1 0).length : Int))) (
 chk (0 ≤ (lI s1 2)) <|
 idx false [.str] (lL s1 0) ((lI s1 2).toNat) fun (e2 : List UInt8 × Unit) =>
 chk (0 ≤ (lI s1 2) ∧ (lI s1 2).toNat < (lL s1 1).length) <|
 storeO (lL s1 1) ((lI s1 2).toNat) 0 [.str e2.1] fun l3 =>
 some (.inl [.l (lL s1 0), .l l3, .i (IntKind.wrap .i64 ((lI s1 2) + 1))])) (
 some (.inr (0, [.l (lL s1 1)])))) [.l a, .l (List.replicate ((a.length : Int).toNat) (.str [])), .i 0] fun (r4 : Nat × List Leaf) =>
 k (lL r4.2 0)
def F32 : T32 := P32 
def X32 : Exits := fun i => lookN i [] [(3, [(.exit 0, xk 22 [(3, .own 1000000 1 .flat [])] [])])]
abbrev s32 : List (Bool × List CK) := [(false, [.sl 1 true])]
def G32 (F : T32) (β : Type) (e : (List V × Unit) × Unit) (k : V → Option β) : Option β := F β e.1.1 (fun y1 => k (.own 0 1 .flat y1))
abbrev W32 (F : T32) : WT := wrap s32 (G32 F)
theorem k32 (β : Type) (e : argsT s32) (k : V → Option β) : fnK cfg (tabL []) X32 32 Try.f32 β (argsEnc s32 e) k = G32 (P32 ) β e k := by kernel_rfl
theorem ok32 : FnOk D 32 (W32 F32) := fn_okW [] X32 (fun _ => rfl) Try.func32 rfl (tabL_nil) (k32 )

/-- spec.l39Join -/
abbrev T45 : Type 1 := (β : Type) → List V → List UInt8 → (List UInt8 → Option β) → Option β
def P45 : T45 := fun β l xby k =>
 br ((l.length : Int) == 0) (
 k [45]) (
 idx false [.str] l 0 fun (e1 : List UInt8 × Unit) =>
 whileK (fun s2 =>
 br (decide ((lI s2 3) < ((lL s2 0).length : Int))) (
 chk ((lS s2 2).length + (lS s2 1).length ≤ 9223372036854775807) <|
 chk (0 ≤ (lI s2 3)) <|
 idx false [.str] (lL s2 0) ((lI s2 3).toNat) fun (e3 : List UInt8 × Unit) =>
 chk (((lS s2 2) ++ (lS s2 1)).length + e3.1.length ≤ 9223372036854775807) <|
 some (.inl [.l (lL s2 0), .s (lS s2 1), .s (((lS s2 2) ++ (lS s2 1)) ++ e3.1), .i (IntKind.wrap .i64 ((lI s2 3) + 1))])) (
 some (.inr (0, [.s (lS s2 2)])))) [.l l, .s xby, .s e1.1, .i 1] fun (r4 : Nat × List Leaf) =>
 k (lS r4.2 0))
def F45 : T45 := P45 
def X45 : Exits := fun i => lookN i [] [(5, [(.exit 0, xk 28 [(5, .str [])] [])])]
abbrev s45 : List (Bool × List CK) := [(false, [.sl 1 true]), (false, [.str])]
def G45 (F : T45) (β : Type) (e : (List V × Unit) × (List UInt8 × Unit) × Unit) (k : V → Option β) : Option β := F β e.1.1 e.2.1.1 (fun y1 => k (.str y1))
abbrev W45 (F : T45) : WT := wrap s45 (G45 F)
theorem k45 (β : Type) (e : argsT s45) (k : V → Option β) : fnK cfg (tabL []) X45 45 Try.f45 β (argsEnc s45 e) k = G45 (P45 ) β e k := by kernel_rfl
theorem ok45 : FnOk D 45 (W45 F45) := fn_okW [] X45 (fun _ => rfl) Try.func45 rfl (tabL_nil) (k45 )

/-- spec.FormatLog -/
abbrev T31 : Type 1 := (β : Type) → List V → (List UInt8 → Option β) → Option β
def P31 (F45 : T45) : T31 := fun β l k =>
 F45 _ l [59, 32] fun t1 =>
 k t1
def F31 : T31 := P31 F45 
abbrev s31 : List (Bool × List CK) := [(false, [.sl 1 true])]
def G31 (F : T31) (β : Type) (e : (List V × Unit) × Unit) (k : V → Option β) : Option β := F β e.1.1 (fun y1 => k (.str y1))
abbrev W31 (F : T31) : WT := wrap s31 (G31 F)
theorem k31 (F45 : T45) (β : Type) (e : argsT s31) (k : V → Option β) : fnK cfg (tabL [(45, W45 F45)]) noX 31 Try.f31 β (argsEnc s31 e) k = G31 (P31 F45 ) β e k := by kernel_rfl
theorem ok31 : FnOk D 31 (W31 F31) := fn_okW [(45, W45 F45)] noX (fun _ => rfl) Try.func31 rfl (tabL_cons ok45 tabL_nil) (k31 F45 )

/-- strings.Join -/
abbrev T46 : Type 1 := (β : Type) → List V → List UInt8 → (List UInt8 → Option β) → Option β
def F46 : T46 := joinK
abbrev s46 : List (Bool × List CK) := [(false, [.sl 1 true]), (false, [.str])]
def G46 (F : T46) (β : Type) (e : (List V × Unit) × (List UInt8 × Unit) × Unit) (k : V → Option β) : Option β := F β e.1.1 e.2.1.1 (fun y1 => k (.str y1))
abbrev W46 (F : T46) : WT := wrap s46 (G46 F)
theorem ok46 : FnOk D 46 (W46 F46) := ok_join (fun _ => rfl)

/-- impl.FormatLog -/
abbrev T33 : Type 1 := (β : Type) → List V → (List UInt8 → Option β) → Option β
def P33 (F46 : T46) : T33 := fun β l k =>
 br ((l.length : Int) == 0) (
 k [45]) (
 F46 _ l [59, 32] fun t1 =>
 k t1)
def F33 : T33 := P33 F46 
abbrev s33 : List (Bool × List CK) := [(false, [.sl 1 true])]
def G33 (F : T33) (β : Type) (e : (List V × Unit) × Unit) (k : V → Option β) : Option β := F β e.1.1 (fun y1 => k (.str y1))
abbrev W33 (F : T33) : WT := wrap s33 (G33 F)
theorem k33 (F46 : T46) (β : Type) (e : argsT s33) (k : V → Option β) : fnK cfg (tabL [(46, W46 F46)]) noX 33 Try.f33 β (argsEnc s33 e) k = G33 (P33 F46 ) β e k := by kernel_rfl
theorem ok33 : FnOk D 33 (W33 F33) := fn_okW [(46, W46 F46)] noX (fun _ => rfl) Try.func33 rfl (tabL_cons ok46 tabL_nil) (k33 F46 )

/-- laws.eqStringS -/
abbrev T34 : Type 1 := (β : Type) → List V → List V → (Bool → Option β) → Option β
def P34 : T34 := fun β a b k =>
 br ((a.length : Int) != (b.length : Int)) (
 k false) (
 whileK (fun s1 =>
 br (decide ((lI s1 2) < ((lL s1 0).length : Int))) (
 chk (0 ≤ (lI s1 2)) <|
 idx false [.str] (lL s1 0) ((lI s1 2).toNat) fun (e2 : List UInt8 × Unit) =>
 chk (0 ≤ (lI s1 2)) <|
 idx false [.str] (lL s1 1) ((lI s1 2).toNat) fun (e3 : List UInt8 × Unit) =>
 br (!(e2.1 == e3.1)) (
 some (.inr (0, [.b false]))) (
 some (.inl [.l (lL s1 0), .l (lL s1 1), .i (IntKind.wrap .i64 ((lI s1 2) + 1))]))) (
 some (.inr (1, [])))) [.l a, .l b, .i 0] fun (r4 : Nat × List Leaf) =>
 if r4.1 = 0 then
 k (lB r4.2 0)
 else
 k true)
def F34 : T34 := P34 
def X34 : Exits := fun i => lookN i [] [(4, [(.ret, xk 26 [(4, .bool false)] []), (.exit 0, xk 26 [] [])])]
abbrev s34 : List (Bool × List CK) := [(false, [.sl 1 true]), (false, [.sl 1 true])]
def G34 (F : T34) (β : Type) (e : (List V × Unit) × (List V × Unit) × Unit) (k : V → Option β) : Option β := F β e.1.1 e.2.1.1 (fun y1 => k (.bool y1))
abbrev W34 (F : T34) : WT := wrap s34 (G34 F)
theorem k34 (β : Type) (e : argsT s34) (k : V → Option β) : fnK cfg (tabL []) X34 34 Try.f34 β (argsEnc s34 e) k = G34 (P34 ) β e k := by kernel_rfl
theorem ok34 : FnOk D 34 (W34 F34) := fn_okW [] X34 (fun _ => rfl) Try.func34 rfl (tabL_nil) (k34 )

/-- laws.FnExactFormatLog -/
abbrev T9 : Type 1 := (β : Type) → List V → (Bool → Option β) → Option β
def P9 (F30 : T30) (F32 : T32) (F31 : T31) (F33 : T33) (F34 : T34) : T9 := fun β aL k =>
 F30 _ aL 1048576 fun n1 =>
 br (decide (n1 < 0)) (
 k true) (
 F32 _ aL fun l2 =>
 F31 _ l2 fun t3 =>
 F32 _ aL fun l4 =>
 F33 _ l4 fun t5 =>
 br (!(t5 == t3)) (
 k false) (
 F32 _ aL fun l6 =>
 F34 _ l4 l6 fun b7 =>
 br (!b7) (
 k false) (
 k true)))
def F9 : T9 := P9 F30 F32 F31 F33 F34 
abbrev s9 : List (Bool × List CK) := [(false, [.sl 1 true])]
def G9 (F : T9) (β : Type) (e : (List V × Unit) × Unit) (k : V → Option β) : Option β := F β e.1.1 (fun y1 => k (.bool y1))
abbrev W9 (F : T9) : WT := wrap s9 (G9 F)
theorem k9 (F30 : T30) (F32 : T32) (F31 : T31) (F33 : T33) (F34 : T34) (β : Type) (e : argsT s9) (k : V → Option β) : fnK cfg (tabL [(30, W30 F30), (32, W32 F32), (31, W31 F31), (33, W33 F33), (34, W34 F34)]) noX 9 Try.f9 β (argsEnc s9 e) k = G9 (P9 F30 F32 F31 F33 F34 ) β e k := by kernel_rfl
theorem ok9 : FnOk D 9 (W9 F9) := fn_okW [(30, W30 F30), (32, W32 F32), (31, W31 F31), (33, W33 F33), (34, W34 F34)] noX (fun _ => rfl) Try.func9 rfl (tabL_cons ok30 (tabL_cons ok32 (tabL_cons ok31 (tabL_cons ok33 (tabL_cons ok34 tabL_nil))))) (k9 F30 F32 F31 F33 F34 )

end
end Go.Am

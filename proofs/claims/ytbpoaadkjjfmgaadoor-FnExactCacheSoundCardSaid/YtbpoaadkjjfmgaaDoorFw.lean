/-
  Functions of the program, extracted by program (sym.py) out of their code: what each computes, and, by the kernel's reckoning, that the machine's looking form computes just that; so what the machine answers.
-/
import Derived.Test.YtbpoaadkjjfmgaaDoorAmCfg
import Derived.Test.YtbpoaadkjjfmgaaDoorAmEvOk2
import Derived.KernelRfl
set_option maxRecDepth 10000
set_option linter.unusedVariables false
namespace Go.Am
open Go Go.Proofs
noncomputable section
abbrev WT : Type 1 := (β : Type) → List V → (V → Option β) → Option β
/-- laws.szResponse -/
abbrev T53 : Type 1 := (β : Type) → Int → Int → List UInt8 → Int → Bool → List UInt8 → Int → (Int → Option β) → Option β
def P53 : T53 := fun β a_Status a_Kind a_Body a_Age a_Shares a_Policy left k =>
 br (decide (IntKind.wrap .i64 (left - (a_Body.length : Int)) < 0)) (
 k (-1)) (
 br (decide (IntKind.wrap .i64 ((IntKind.wrap .i64 (left - (a_Body.length : Int))) - (a_Policy.length : Int)) < 0)) (
 k (-1)) (
 k (IntKind.wrap .i64 ((IntKind.wrap .i64 (left - (a_Body.length : Int))) - (a_Policy.length : Int)))))
def F53 : T53 := P53 
abbrev s53 : List (Bool × List CK) := [(true, [.int .i64, .int .i64, .str, .int .i64, .bool, .str]), (false, [.int .i64])]
def G53 (F : T53) (β : Type) (e : (Int × Int × List UInt8 × Int × Bool × List UInt8 × Unit) × (Int × Unit) × Unit) (k : V → Option β) : Option β := let a0_0 := e.1; let a0_1 := a0_0.2; let a0_2 := a0_1.2; let a0_3 := a0_2.2; let a0_4 := a0_3.2; let a0_5 := a0_4.2; F β a0_0.1 a0_1.1 a0_2.1 a0_3.1 a0_4.1 a0_5.1 e.2.1.1 (fun y1 => k (.int .i64 y1))
abbrev W53 (F : T53) : WT := wrap s53 (G53 F)
theorem k53 (β : Type) (e : argsT s53) (k : V → Option β) : fnK cfg (tabL []) noX 53 Tryd.f53 β (argsEnc s53 e) k = G53 (P53 ) β e k := by kernel_rfl
theorem ok53 : FnOk D 53 (W53 F53) := fn_okW [] noX (fun _ => rfl) Tryd.func53 rfl (tabL_nil) (k53 )

/-- laws.szFile -/
abbrev T52 : Type 1 := (β : Type) → List UInt8 → Int → Int → List UInt8 → Int → Bool → List UInt8 → Int → (Int → Option β) → Option β
def P52 (F53 : T53) : T52 := fun β a_Path a_Response_Status a_Response_Kind a_Response_Body a_Response_Age a_Response_Shares a_Response_Policy left k =>
 br (decide (IntKind.wrap .i64 (left - (a_Path.length : Int)) < 0)) (
 k (-1)) (
 F53 _ a_Response_Status a_Response_Kind a_Response_Body a_Response_Age a_Response_Shares a_Response_Policy (IntKind.wrap .i64 (left - (a_Path.length : Int))) fun n1 =>
 br (decide (n1 < 0)) (
 k (-1)) (
 k n1))
def F52 : T52 := P52 F53 
abbrev s52 : List (Bool × List CK) := [(true, [.str, .int .i64, .int .i64, .str, .int .i64, .bool, .str]), (false, [.int .i64])]
def G52 (F : T52) (β : Type) (e : (List UInt8 × Int × Int × List UInt8 × Int × Bool × List UInt8 × Unit) × (Int × Unit) × Unit) (k : V → Option β) : Option β := let a0_0 := e.1; let a0_1 := a0_0.2; let a0_2 := a0_1.2; let a0_3 := a0_2.2; let a0_4 := a0_3.2; let a0_5 := a0_4.2; let a0_6 := a0_5.2; F β a0_0.1 a0_1.1 a0_2.1 a0_3.1 a0_4.1 a0_5.1 a0_6.1 e.2.1.1 (fun y1 => k (.int .i64 y1))
abbrev W52 (F : T52) : WT := wrap s52 (G52 F)
theorem k52 (F53 : T53) (β : Type) (e : argsT s52) (k : V → Option β) : fnK cfg (tabL [(53, W53 F53)]) noX 52 Tryd.f52 β (argsEnc s52 e) k = G52 (P52 F53 ) β e k := by kernel_rfl
theorem ok52 : FnOk D 52 (W52 F52) := fn_okW [(53, W53 F53)] noX (fun _ => rfl) Tryd.func52 rfl (tabL_cons ok53 tabL_nil) (k52 F53 )

/-- laws.szFileS -/
abbrev T37 : Type 1 := (β : Type) → List V → Int → (Int → Option β) → Option β
def P37 (F52 : T52) : T37 := fun β a left k =>
 br (decide (IntKind.wrap .i64 (left - (a.length : Int)) < 0)) (
 k (-1)) (
 whileK (fun s1 =>
 br (decide ((lI s1 2) < ((lL s1 0).length : Int))) (
 chk (0 ≤ (lI s1 2)) <|
 idx true [.str, .int .i64, .int .i64, .str, .int .i64, .bool, .str] (lL s1 0) ((lI s1 2).toNat) fun (e2 : List UInt8 × Int × Int × List UInt8 × Int × Bool × List UInt8 × Unit) =>
 F52 _ e2.1 e2.2.1 e2.2.2.1 e2.2.2.2.1 e2.2.2.2.2.1 e2.2.2.2.2.2.1 e2.2.2.2.2.2.2.1 (lI s1 1) fun n3 =>
 br (decide (n3 < 0)) (
 some (.inr (0, [.i n3, .i (-1)]))) (
 some (.inl [.l (lL s1 0), .i n3, .i (IntKind.wrap .i64 ((lI s1 2) + 1))]))) (
 some (.inr (1, [.i (lI s1 1)])))) [.l a, .i (IntKind.wrap .i64 (left - (a.length : Int))), .i 0] fun (r4 : Nat × List Leaf) =>
 if r4.1 = 0 then
 k (lI r4.2 1)
 else
 k (lI r4.2 0))
def F37 : T37 := P37 F52 
def X37 : Exits := fun i => lookN i [] [(5, [(.ret, xk 27 [(1, .int .i64 0), (4, .int .i64 0)] []), (.exit 0, xk 27 [(1, .int .i64 0)] [])])]
abbrev s37 : List (Bool × List CK) := [(false, [.sl 7 true]), (false, [.int .i64])]
def G37 (F : T37) (β : Type) (e : (List V × Unit) × (Int × Unit) × Unit) (k : V → Option β) : Option β := F β e.1.1 e.2.1.1 (fun y1 => k (.int .i64 y1))
abbrev W37 (F : T37) : WT := wrap s37 (G37 F)
theorem k37 (F52 : T52) (β : Type) (e : argsT s37) (k : V → Option β) : fnK cfg (tabL [(52, W52 F52)]) X37 37 Tryd.f37 β (argsEnc s37 e) k = G37 (P37 F52 ) β e k := by kernel_rfl
theorem ok37 : FnOk D 37 (W37 F37) := fn_okW [(52, W52 F52)] X37 (fun _ => rfl) Tryd.func37 rfl (tabL_cons ok52 tabL_nil) (k37 F52 )

/-- laws.szServer -/
abbrev T20 : Type 1 := (β : Type) → List UInt8 → List V → Int → (Int → Option β) → Option β
def P20 (F37 : T37) : T20 := fun β a_Host a_Files left k =>
 br (decide (IntKind.wrap .i64 (left - (a_Host.length : Int)) < 0)) (
 k (-1)) (
 F37 _ a_Files (IntKind.wrap .i64 (left - (a_Host.length : Int))) fun n1 =>
 br (decide (n1 < 0)) (
 k (-1)) (
 k n1))
def F20 : T20 := P20 F37 
abbrev s20 : List (Bool × List CK) := [(true, [.str, .sl 7 true]), (false, [.int .i64])]
def G20 (F : T20) (β : Type) (e : (List UInt8 × List V × Unit) × (Int × Unit) × Unit) (k : V → Option β) : Option β := F β e.1.1 e.1.2.1 e.2.1.1 (fun y1 => k (.int .i64 y1))
abbrev W20 (F : T20) : WT := wrap s20 (G20 F)
theorem k20 (F37 : T37) (β : Type) (e : argsT s20) (k : V → Option β) : fnK cfg (tabL [(37, W37 F37)]) noX 20 Tryd.f20 β (argsEnc s20 e) k = G20 (P20 F37 ) β e k := by kernel_rfl
theorem ok20 : FnOk D 20 (W20 F20) := fn_okW [(37, W37 F37)] noX (fun _ => rfl) Tryd.func20 rfl (tabL_cons ok37 tabL_nil) (k20 F37 )

/-- laws.szServerS -/
abbrev T9 : Type 1 := (β : Type) → List V → Int → (Int → Option β) → Option β
def P9 (F20 : T20) : T9 := fun β a left k =>
 br (decide (IntKind.wrap .i64 (left - (a.length : Int)) < 0)) (
 k (-1)) (
 whileK (fun s1 =>
 br (decide ((lI s1 2) < ((lL s1 0).length : Int))) (
 chk (0 ≤ (lI s1 2)) <|
 idx true [.str, .sl 7 true] (lL s1 0) ((lI s1 2).toNat) fun (e2 : List UInt8 × List V × Unit) =>
 F20 _ e2.1 e2.2.1 (lI s1 1) fun n3 =>
 br (decide (n3 < 0)) (
 some (.inr (0, [.i n3, .i (-1)]))) (
 some (.inl [.l (lL s1 0), .i n3, .i (IntKind.wrap .i64 ((lI s1 2) + 1))]))) (
 some (.inr (1, [.i (lI s1 1)])))) [.l a, .i (IntKind.wrap .i64 (left - (a.length : Int))), .i 0] fun (r4 : Nat × List Leaf) =>
 if r4.1 = 0 then
 k (lI r4.2 1)
 else
 k (lI r4.2 0))
def F9 : T9 := P9 F20 
def X9 : Exits := fun i => lookN i [] [(5, [(.ret, xk 27 [(1, .int .i64 0), (4, .int .i64 0)] []), (.exit 0, xk 27 [(1, .int .i64 0)] [])])]
abbrev s9 : List (Bool × List CK) := [(false, [.sl 2 false]), (false, [.int .i64])]
def G9 (F : T9) (β : Type) (e : (List V × Unit) × (Int × Unit) × Unit) (k : V → Option β) : Option β := F β e.1.1 e.2.1.1 (fun y1 => k (.int .i64 y1))
abbrev W9 (F : T9) : WT := wrap s9 (G9 F)
theorem k9 (F20 : T20) (β : Type) (e : argsT s9) (k : V → Option β) : fnK cfg (tabL [(20, W20 F20)]) X9 9 Tryd.f9 β (argsEnc s9 e) k = G9 (P9 F20 ) β e k := by kernel_rfl
theorem ok9 : FnOk D 9 (W9 F9) := fn_okW [(20, W20 F20)] X9 (fun _ => rfl) Tryd.func9 rfl (tabL_cons ok20 tabL_nil) (k9 F20 )

/-- laws.szAddr -/
abbrev T39 : Type 1 := (β : Type) → List UInt8 → List UInt8 → Int → (Int → Option β) → Option β
def P39 : T39 := fun β a_Host a_Path left k =>
 br (decide (IntKind.wrap .i64 (left - (a_Host.length : Int)) < 0)) (
 k (-1)) (
 br (decide (IntKind.wrap .i64 ((IntKind.wrap .i64 (left - (a_Host.length : Int))) - (a_Path.length : Int)) < 0)) (
 k (-1)) (
 k (IntKind.wrap .i64 ((IntKind.wrap .i64 (left - (a_Host.length : Int))) - (a_Path.length : Int)))))
def F39 : T39 := P39 
abbrev s39 : List (Bool × List CK) := [(true, [.str, .str]), (false, [.int .i64])]
def G39 (F : T39) (β : Type) (e : (List UInt8 × List UInt8 × Unit) × (Int × Unit) × Unit) (k : V → Option β) : Option β := F β e.1.1 e.1.2.1 e.2.1.1 (fun y1 => k (.int .i64 y1))
abbrev W39 (F : T39) : WT := wrap s39 (G39 F)
theorem k39 (β : Type) (e : argsT s39) (k : V → Option β) : fnK cfg (tabL []) noX 39 Tryd.f39 β (argsEnc s39 e) k = G39 (P39 ) β e k := by kernel_rfl
theorem ok39 : FnOk D 39 (W39 F39) := fn_okW [] noX (fun _ => rfl) Tryd.func39 rfl (tabL_nil) (k39 )

/-- laws.szEntry -/
abbrev T38 : Type 1 := (β : Type) → List UInt8 → List UInt8 → List UInt8 → Int → Int → List UInt8 → Int → Bool → List UInt8 → Int → Int → (Int → Option β) → Option β
def P38 (F39 : T39) (F53 : T53) : T38 := fun β a_Top a_To_Host a_To_Path a_Response_Status a_Response_Kind a_Response_Body a_Response_Age a_Response_Shares a_Response_Policy a_Until left k =>
 br (decide (IntKind.wrap .i64 (left - (a_Top.length : Int)) < 0)) (
 k (-1)) (
 F39 _ a_To_Host a_To_Path (IntKind.wrap .i64 (left - (a_Top.length : Int))) fun n1 =>
 br (decide (n1 < 0)) (
 k (-1)) (
 F53 _ a_Response_Status a_Response_Kind a_Response_Body a_Response_Age a_Response_Shares a_Response_Policy n1 fun n2 =>
 br (decide (n2 < 0)) (
 k (-1)) (
 k n2)))
def F38 : T38 := P38 F39 F53 
abbrev s38 : List (Bool × List CK) := [(true, [.str, .str, .str, .int .i64, .int .i64, .str, .int .i64, .bool, .str, .int .i64]), (false, [.int .i64])]
def G38 (F : T38) (β : Type) (e : (List UInt8 × List UInt8 × List UInt8 × Int × Int × List UInt8 × Int × Bool × List UInt8 × Int × Unit) × (Int × Unit) × Unit) (k : V → Option β) : Option β := let a0_0 := e.1; let a0_1 := a0_0.2; let a0_2 := a0_1.2; let a0_3 := a0_2.2; let a0_4 := a0_3.2; let a0_5 := a0_4.2; let a0_6 := a0_5.2; let a0_7 := a0_6.2; let a0_8 := a0_7.2; let a0_9 := a0_8.2; F β a0_0.1 a0_1.1 a0_2.1 a0_3.1 a0_4.1 a0_5.1 a0_6.1 a0_7.1 a0_8.1 a0_9.1 e.2.1.1 (fun y1 => k (.int .i64 y1))
abbrev W38 (F : T38) : WT := wrap s38 (G38 F)
theorem k38 (F39 : T39) (F53 : T53) (β : Type) (e : argsT s38) (k : V → Option β) : fnK cfg (tabL [(39, W39 F39), (53, W53 F53)]) noX 38 Tryd.f38 β (argsEnc s38 e) k = G38 (P38 F39 F53 ) β e k := by kernel_rfl
theorem ok38 : FnOk D 38 (W38 F38) := fn_okW [(39, W39 F39), (53, W53 F53)] noX (fun _ => rfl) Tryd.func38 rfl (tabL_cons ok39 (tabL_cons ok53 tabL_nil)) (k38 F39 F53 )

/-- laws.szEntryS -/
abbrev T21 : Type 1 := (β : Type) → List V → Int → (Int → Option β) → Option β
def P21 (F38 : T38) : T21 := fun β a left k =>
 br (decide (IntKind.wrap .i64 (left - (a.length : Int)) < 0)) (
 k (-1)) (
 whileK (fun s1 =>
 br (decide ((lI s1 2) < ((lL s1 0).length : Int))) (
 chk (0 ≤ (lI s1 2)) <|
 idx true [.str, .str, .str, .int .i64, .int .i64, .str, .int .i64, .bool, .str, .int .i64] (lL s1 0) ((lI s1 2).toNat) fun (e2 : List UInt8 × List UInt8 × List UInt8 × Int × Int × List UInt8 × Int × Bool × List UInt8 × Int × Unit) =>
 F38 _ e2.1 e2.2.1 e2.2.2.1 e2.2.2.2.1 e2.2.2.2.2.1 e2.2.2.2.2.2.1 e2.2.2.2.2.2.2.1 e2.2.2.2.2.2.2.2.1 e2.2.2.2.2.2.2.2.2.1 e2.2.2.2.2.2.2.2.2.2.1 (lI s1 1) fun n3 =>
 br (decide (n3 < 0)) (
 some (.inr (0, [.i n3, .i (-1)]))) (
 some (.inl [.l (lL s1 0), .i n3, .i (IntKind.wrap .i64 ((lI s1 2) + 1))]))) (
 some (.inr (1, [.i (lI s1 1)])))) [.l a, .i (IntKind.wrap .i64 (left - (a.length : Int))), .i 0] fun (r4 : Nat × List Leaf) =>
 if r4.1 = 0 then
 k (lI r4.2 1)
 else
 k (lI r4.2 0))
def F21 : T21 := P21 F38 
def X21 : Exits := fun i => lookN i [] [(5, [(.ret, xk 27 [(1, .int .i64 0), (4, .int .i64 0)] []), (.exit 0, xk 27 [(1, .int .i64 0)] [])])]
abbrev s21 : List (Bool × List CK) := [(false, [.sl 10 true]), (false, [.int .i64])]
def G21 (F : T21) (β : Type) (e : (List V × Unit) × (Int × Unit) × Unit) (k : V → Option β) : Option β := F β e.1.1 e.2.1.1 (fun y1 => k (.int .i64 y1))
abbrev W21 (F : T21) : WT := wrap s21 (G21 F)
theorem k21 (F38 : T38) (β : Type) (e : argsT s21) (k : V → Option β) : fnK cfg (tabL [(38, W38 F38)]) X21 21 Tryd.f21 β (argsEnc s21 e) k = G21 (P21 F38 ) β e k := by kernel_rfl
theorem ok21 : FnOk D 21 (W21 F21) := fn_okW [(38, W38 F38)] X21 (fun _ => rfl) Tryd.func21 rfl (tabL_cons ok38 tabL_nil) (k21 F38 )

/-- laws.szCache -/
abbrev T10 : Type 1 := (β : Type) → List V → Int → (Int → Option β) → Option β
def P10 (F21 : T21) : T10 := fun β a_Entries left k =>
 F21 _ a_Entries left fun n1 =>
 br (decide (n1 < 0)) (
 k (-1)) (
 k n1)
def F10 : T10 := P10 F21 
abbrev s10 : List (Bool × List CK) := [(true, [.sl 10 true]), (false, [.int .i64])]
def G10 (F : T10) (β : Type) (e : (List V × Unit) × (Int × Unit) × Unit) (k : V → Option β) : Option β := F β e.1.1 e.2.1.1 (fun y1 => k (.int .i64 y1))
abbrev W10 (F : T10) : WT := wrap s10 (G10 F)
theorem k10 (F21 : T21) (β : Type) (e : argsT s10) (k : V → Option β) : fnK cfg (tabL [(21, W21 F21)]) noX 10 Tryd.f10 β (argsEnc s10 e) k = G10 (P10 F21 ) β e k := by kernel_rfl
theorem ok10 : FnOk D 10 (W10 F10) := fn_okW [(21, W21 F21)] noX (fun _ => rfl) Tryd.func10 rfl (tabL_cons ok21 tabL_nil) (k10 F21 )

/-- laws.szSent -/
abbrev T22 : Type 1 := (β : Type) → List UInt8 → List UInt8 → List UInt8 → Bool → Int → (Int → Option β) → Option β
def P22 (F39 : T39) : T22 := fun β a_Top a_To_Host a_To_Path a_Guess left k =>
 br (decide (IntKind.wrap .i64 (left - (a_Top.length : Int)) < 0)) (
 k (-1)) (
 F39 _ a_To_Host a_To_Path (IntKind.wrap .i64 (left - (a_Top.length : Int))) fun n1 =>
 br (decide (n1 < 0)) (
 k (-1)) (
 k n1))
def F22 : T22 := P22 F39 
abbrev s22 : List (Bool × List CK) := [(true, [.str, .str, .str, .bool]), (false, [.int .i64])]
def G22 (F : T22) (β : Type) (e : (List UInt8 × List UInt8 × List UInt8 × Bool × Unit) × (Int × Unit) × Unit) (k : V → Option β) : Option β := F β e.1.1 e.1.2.1 e.1.2.2.1 e.1.2.2.2.1 e.2.1.1 (fun y1 => k (.int .i64 y1))
abbrev W22 (F : T22) : WT := wrap s22 (G22 F)
theorem k22 (F39 : T39) (β : Type) (e : argsT s22) (k : V → Option β) : fnK cfg (tabL [(39, W39 F39)]) noX 22 Tryd.f22 β (argsEnc s22 e) k = G22 (P22 F39 ) β e k := by kernel_rfl
theorem ok22 : FnOk D 22 (W22 F22) := fn_okW [(39, W39 F39)] noX (fun _ => rfl) Tryd.func22 rfl (tabL_cons ok39 tabL_nil) (k22 F39 )

/-- laws.szSentS -/
abbrev T11 : Type 1 := (β : Type) → List V → Int → (Int → Option β) → Option β
def P11 (F22 : T22) : T11 := fun β a left k =>
 br (decide (IntKind.wrap .i64 (left - (a.length : Int)) < 0)) (
 k (-1)) (
 whileK (fun s1 =>
 br (decide ((lI s1 2) < ((lL s1 0).length : Int))) (
 chk (0 ≤ (lI s1 2)) <|
 idx true [.str, .str, .str, .bool] (lL s1 0) ((lI s1 2).toNat) fun (e2 : List UInt8 × List UInt8 × List UInt8 × Bool × Unit) =>
 F22 _ e2.1 e2.2.1 e2.2.2.1 e2.2.2.2.1 (lI s1 1) fun n3 =>
 br (decide (n3 < 0)) (
 some (.inr (0, [.i n3, .i (-1)]))) (
 some (.inl [.l (lL s1 0), .i n3, .i (IntKind.wrap .i64 ((lI s1 2) + 1))]))) (
 some (.inr (1, [.i (lI s1 1)])))) [.l a, .i (IntKind.wrap .i64 (left - (a.length : Int))), .i 0] fun (r4 : Nat × List Leaf) =>
 if r4.1 = 0 then
 k (lI r4.2 1)
 else
 k (lI r4.2 0))
def F11 : T11 := P11 F22 
def X11 : Exits := fun i => lookN i [] [(5, [(.ret, xk 27 [(1, .int .i64 0), (4, .int .i64 0)] []), (.exit 0, xk 27 [(1, .int .i64 0)] [])])]
abbrev s11 : List (Bool × List CK) := [(false, [.sl 4 true]), (false, [.int .i64])]
def G11 (F : T11) (β : Type) (e : (List V × Unit) × (Int × Unit) × Unit) (k : V → Option β) : Option β := F β e.1.1 e.2.1.1 (fun y1 => k (.int .i64 y1))
abbrev W11 (F : T11) : WT := wrap s11 (G11 F)
theorem k11 (F22 : T22) (β : Type) (e : argsT s11) (k : V → Option β) : fnK cfg (tabL [(22, W22 F22)]) X11 11 Tryd.f11 β (argsEnc s11 e) k = G11 (P11 F22 ) β e k := by kernel_rfl
theorem ok11 : FnOk D 11 (W11 F11) := fn_okW [(22, W22 F22)] X11 (fun _ => rfl) Tryd.func11 rfl (tabL_cons ok22 tabL_nil) (k11 F22 )

/-- laws.szNet -/
abbrev T4 : Type 1 := (β : Type) → List V → List V → List V → Int → Int → (Int → Option β) → Option β
def P4 (F9 : T9) (F10 : T10) (F11 : T11) : T4 := fun β a_Servers a_Cache_Entries a_Log a_Now left k =>
 F9 _ a_Servers left fun n1 =>
 br (decide (n1 < 0)) (
 k (-1)) (
 F10 _ a_Cache_Entries n1 fun n2 =>
 br (decide (n2 < 0)) (
 k (-1)) (
 F11 _ a_Log n2 fun n3 =>
 br (decide (n3 < 0)) (
 k (-1)) (
 k n3)))
def F4 : T4 := P4 F9 F10 F11 
abbrev s4 : List (Bool × List CK) := [(true, [.sl 2 false, .sl 10 true, .sl 4 true, .int .i64]), (false, [.int .i64])]
def G4 (F : T4) (β : Type) (e : (List V × List V × List V × Int × Unit) × (Int × Unit) × Unit) (k : V → Option β) : Option β := F β e.1.1 e.1.2.1 e.1.2.2.1 e.1.2.2.2.1 e.2.1.1 (fun y1 => k (.int .i64 y1))
abbrev W4 (F : T4) : WT := wrap s4 (G4 F)
theorem k4 (F9 : T9) (F10 : T10) (F11 : T11) (β : Type) (e : argsT s4) (k : V → Option β) : fnK cfg (tabL [(9, W9 F9), (10, W10 F10), (11, W11 F11)]) noX 4 Tryd.f4 β (argsEnc s4 e) k = G4 (P4 F9 F10 F11 ) β e k := by kernel_rfl
theorem ok4 : FnOk D 4 (W4 F4) := fn_okW [(9, W9 F9), (10, W10 F10), (11, W11 F11)] noX (fun _ => rfl) Tryd.func4 rfl (tabL_cons ok9 (tabL_cons ok10 (tabL_cons ok11 tabL_nil))) (k4 F9 F10 F11 )

/-- laws.toResponse -/
abbrev T57 : Type 1 := (β : Type) → Int → Int → List UInt8 → Int → Bool → List UInt8 → (Int → Int → List UInt8 → Int → Bool → List UInt8 → Option β) → Option β
def P57 : T57 := fun β a_Status a_Kind a_Body a_Age a_Shares a_Policy k =>
 k a_Status a_Kind a_Body a_Age a_Shares a_Policy
def F57 : T57 := P57 
abbrev s57 : List (Bool × List CK) := [(true, [.int .i64, .int .i64, .str, .int .i64, .bool, .str])]
def G57 (F : T57) (β : Type) (e : (Int × Int × List UInt8 × Int × Bool × List UInt8 × Unit) × Unit) (k : V → Option β) : Option β := let a0_0 := e.1; let a0_1 := a0_0.2; let a0_2 := a0_1.2; let a0_3 := a0_2.2; let a0_4 := a0_3.2; let a0_5 := a0_4.2; F β a0_0.1 a0_1.1 a0_2.1 a0_3.1 a0_4.1 a0_5.1 (fun y1 y2 y3 y4 y5 y6 => k (.agg [.int .i64 y1, .int .i64 y2, .str y3, .int .i64 y4, .bool y5, .str y6]))
abbrev W57 (F : T57) : WT := wrap s57 (G57 F)
theorem k57 (β : Type) (e : argsT s57) (k : V → Option β) : fnK cfg (tabL []) noX 57 Tryd.f57 β (argsEnc s57 e) k = G57 (P57 ) β e k := by kernel_rfl
theorem ok57 : FnOk D 57 (W57 F57) := fn_okW [] noX (fun _ => rfl) Tryd.func57 rfl (tabL_nil) (k57 )

/-- laws.toFile -/
abbrev T56 : Type 1 := (β : Type) → List UInt8 → Int → Int → List UInt8 → Int → Bool → List UInt8 → (List UInt8 → Int → Int → List UInt8 → Int → Bool → List UInt8 → Option β) → Option β
def P56 (F57 : T57) : T56 := fun β a_Path a_Response_Status a_Response_Kind a_Response_Body a_Response_Age a_Response_Shares a_Response_Policy k =>
 F57 _ a_Response_Status a_Response_Kind a_Response_Body a_Response_Age a_Response_Shares a_Response_Policy fun n1 n2 t3 n4 b5 t6 =>
 k a_Path n1 n2 t3 n4 b5 t6
def F56 : T56 := P56 F57 
abbrev s56 : List (Bool × List CK) := [(true, [.str, .int .i64, .int .i64, .str, .int .i64, .bool, .str])]
def G56 (F : T56) (β : Type) (e : (List UInt8 × Int × Int × List UInt8 × Int × Bool × List UInt8 × Unit) × Unit) (k : V → Option β) : Option β := let a0_0 := e.1; let a0_1 := a0_0.2; let a0_2 := a0_1.2; let a0_3 := a0_2.2; let a0_4 := a0_3.2; let a0_5 := a0_4.2; let a0_6 := a0_5.2; F β a0_0.1 a0_1.1 a0_2.1 a0_3.1 a0_4.1 a0_5.1 a0_6.1 (fun y1 y2 y3 y4 y5 y6 y7 => k (.agg [.str y1, .int .i64 y2, .int .i64 y3, .str y4, .int .i64 y5, .bool y6, .str y7]))
abbrev W56 (F : T56) : WT := wrap s56 (G56 F)
theorem k56 (F57 : T57) (β : Type) (e : argsT s56) (k : V → Option β) : fnK cfg (tabL [(57, W57 F57)]) noX 56 Tryd.f56 β (argsEnc s56 e) k = G56 (P56 F57 ) β e k := by kernel_rfl
theorem ok56 : FnOk D 56 (W56 F56) := fn_okW [(57, W57 F57)] noX (fun _ => rfl) Tryd.func56 rfl (tabL_cons ok57 tabL_nil) (k56 F57 )

/-- laws.toFileS -/
abbrev T42 : Type 1 := (β : Type) → List V → (List V → Option β) → Option β
def P42 (F56 : T56) : T42 := fun β a k =>
 chk (0 ≤ (a.length : Int) ∧ (a.length : Int) ≤ (a.length : Int) ∧ (a.length : Int) * 80 ≤ 140737488355328 ∧ (a.length : Int) ≤ 140737488355328) <|
 whileK (fun s1 =>
 br (decide ((lI s1 2) < ((lL s1 0).length : Int))) (
 chk (0 ≤ (lI s1 2)) <|
 idx true [.str, .int .i64, .int .i64, .str, .int .i64, .bool, .str] (lL s1 0) ((lI s1 2).toNat) fun (e2 : List UInt8 × Int × Int × List UInt8 × Int × Bool × List UInt8 × Unit) =>
 F56 _ e2.1 e2.2.1 e2.2.2.1 e2.2.2.2.1 e2.2.2.2.2.1 e2.2.2.2.2.2.1 e2.2.2.2.2.2.2.1 fun t3 n4 n5 t6 n7 b8 t9 =>
 chk (0 ≤ (lI s1 2) ∧ (lI s1 2).toNat < (lL s1 1).length) <|
 storeO (lL s1 1) ((lI s1 2).toNat) 0 [.str t3, .int .i64 n4, .int .i64 n5, .str t6, .int .i64 n7, .bool b8, .str t9] fun l10 =>
 some (.inl [.l (lL s1 0), .l l10, .i (IntKind.wrap .i64 ((lI s1 2) + 1))])) (
 some (.inr (0, [.l (lL s1 1)])))) [.l a, .l (List.replicate ((a.length : Int).toNat) (.agg [.str [], .int .i64 0, .int .i64 0, .str [], .int .i64 0, .bool false, .str []])), .i 0] fun (r11 : Nat × List Leaf) =>
 k (lL r11.2 0)
def F42 : T42 := P42 F56 
def X42 : Exits := fun i => lookN i [] [(3, [(.exit 0, xk 23 [(3, .own 1000000 7 .flat [])] [])])]
abbrev s42 : List (Bool × List CK) := [(false, [.sl 7 true])]
def G42 (F : T42) (β : Type) (e : (List V × Unit) × Unit) (k : V → Option β) : Option β := F β e.1.1 (fun y1 => k (.own 0 7 .flat y1))
abbrev W42 (F : T42) : WT := wrap s42 (G42 F)
theorem k42 (F56 : T56) (β : Type) (e : argsT s42) (k : V → Option β) : fnK cfg (tabL [(56, W56 F56)]) X42 42 Tryd.f42 β (argsEnc s42 e) k = G42 (P42 F56 ) β e k := by kernel_rfl
theorem ok42 : FnOk D 42 (W42 F42) := fn_okW [(56, W56 F56)] X42 (fun _ => rfl) Tryd.func42 rfl (tabL_cons ok56 tabL_nil) (k42 F56 )

/-- laws.toServer -/
abbrev T27 : Type 1 := (β : Type) → List UInt8 → List V → (List UInt8 → List V → Option β) → Option β
def P27 (F42 : T42) : T27 := fun β a_Host a_Files k =>
 F42 _ a_Files fun l1 =>
 k a_Host l1
def F27 : T27 := P27 F42 
abbrev s27 : List (Bool × List CK) := [(true, [.str, .sl 7 true])]
def G27 (F : T27) (β : Type) (e : (List UInt8 × List V × Unit) × Unit) (k : V → Option β) : Option β := F β e.1.1 e.1.2.1 (fun y1 y2 => k (.agg [.str y1, .own 1 7 .flat y2]))
abbrev W27 (F : T27) : WT := wrap s27 (G27 F)
theorem k27 (F42 : T42) (β : Type) (e : argsT s27) (k : V → Option β) : fnK cfg (tabL [(42, W42 F42)]) noX 27 Tryd.f27 β (argsEnc s27 e) k = G27 (P27 F42 ) β e k := by kernel_rfl
theorem ok27 : FnOk D 27 (W27 F27) := fn_okW [(42, W42 F42)] noX (fun _ => rfl) Tryd.func27 rfl (tabL_cons ok42 tabL_nil) (k27 F42 )

/-- laws.toServerS -/
abbrev T13 : Type 1 := (β : Type) → List V → (List V → Option β) → Option β
def P13 (F27 : T27) : T13 := fun β a k =>
 chk (0 ≤ (a.length : Int) ∧ (a.length : Int) ≤ (a.length : Int) ∧ (a.length : Int) * 40 ≤ 140737488355328 ∧ (a.length : Int) ≤ 140737488355328) <|
 whileK (fun s1 =>
 br (decide ((lI s1 2) < ((lL s1 0).length : Int))) (
 chk (0 ≤ (lI s1 2)) <|
 idx true [.str, .sl 7 true] (lL s1 0) ((lI s1 2).toNat) fun (e2 : List UInt8 × List V × Unit) =>
 F27 _ e2.1 e2.2.1 fun t3 l4 =>
 chk (0 ≤ (lI s1 2) ∧ (lI s1 2).toNat < (lL s1 1).length) <|
 storeO (lL s1 1) ((lI s1 2).toNat) 0 [.str t3, .sl 7 true l4] fun l5 =>
 some (.inl [.l (lL s1 0), .l l5, .i (IntKind.wrap .i64 ((lI s1 2) + 1))])) (
 some (.inr (0, [.l (lL s1 1)])))) [.l a, .l (List.replicate ((a.length : Int).toNat) (.agg [.str [], .sl 7 true []])), .i 0] fun (r6 : Nat × List Leaf) =>
 k (lL r6.2 0)
def F13 : T13 := P13 F27 
def X13 : Exits := fun i => lookN i [] [(3, [(.exit 0, xk 23 [(3, .own 1000000 2 .clean [])] [])])]
abbrev s13 : List (Bool × List CK) := [(false, [.sl 2 false])]
def G13 (F : T13) (β : Type) (e : (List V × Unit) × Unit) (k : V → Option β) : Option β := F β e.1.1 (fun y1 => k (.own 0 2 .clean y1))
abbrev W13 (F : T13) : WT := wrap s13 (G13 F)
theorem k13 (F27 : T27) (β : Type) (e : argsT s13) (k : V → Option β) : fnK cfg (tabL [(27, W27 F27)]) X13 13 Tryd.f13 β (argsEnc s13 e) k = G13 (P13 F27 ) β e k := by kernel_rfl
theorem ok13 : FnOk D 13 (W13 F13) := fn_okW [(27, W27 F27)] X13 (fun _ => rfl) Tryd.func13 rfl (tabL_cons ok27 tabL_nil) (k13 F27 )

/-- laws.toAddr -/
abbrev T44 : Type 1 := (β : Type) → List UInt8 → List UInt8 → (List UInt8 → List UInt8 → Option β) → Option β
def P44 : T44 := fun β a_Host a_Path k =>
 k a_Host a_Path
def F44 : T44 := P44 
abbrev s44 : List (Bool × List CK) := [(true, [.str, .str])]
def G44 (F : T44) (β : Type) (e : (List UInt8 × List UInt8 × Unit) × Unit) (k : V → Option β) : Option β := F β e.1.1 e.1.2.1 (fun y1 y2 => k (.agg [.str y1, .str y2]))
abbrev W44 (F : T44) : WT := wrap s44 (G44 F)
theorem k44 (β : Type) (e : argsT s44) (k : V → Option β) : fnK cfg (tabL []) noX 44 Tryd.f44 β (argsEnc s44 e) k = G44 (P44 ) β e k := by kernel_rfl
theorem ok44 : FnOk D 44 (W44 F44) := fn_okW [] noX (fun _ => rfl) Tryd.func44 rfl (tabL_nil) (k44 )

/-- laws.toEntry -/
abbrev T43 : Type 1 := (β : Type) → List UInt8 → List UInt8 → List UInt8 → Int → Int → List UInt8 → Int → Bool → List UInt8 → Int → (List UInt8 → List UInt8 → List UInt8 → Int → Int → List UInt8 → Int → Bool → List UInt8 → Int → Option β) → Option β
def P43 (F44 : T44) (F57 : T57) : T43 := fun β a_Top a_To_Host a_To_Path a_Response_Status a_Response_Kind a_Response_Body a_Response_Age a_Response_Shares a_Response_Policy a_Until k =>
 F44 _ a_To_Host a_To_Path fun t1 t2 =>
 F57 _ a_Response_Status a_Response_Kind a_Response_Body a_Response_Age a_Response_Shares a_Response_Policy fun n3 n4 t5 n6 b7 t8 =>
 k a_Top t1 t2 n3 n4 t5 n6 b7 t8 a_Until
def F43 : T43 := P43 F44 F57 
abbrev s43 : List (Bool × List CK) := [(true, [.str, .str, .str, .int .i64, .int .i64, .str, .int .i64, .bool, .str, .int .i64])]
def G43 (F : T43) (β : Type) (e : (List UInt8 × List UInt8 × List UInt8 × Int × Int × List UInt8 × Int × Bool × List UInt8 × Int × Unit) × Unit) (k : V → Option β) : Option β := let a0_0 := e.1; let a0_1 := a0_0.2; let a0_2 := a0_1.2; let a0_3 := a0_2.2; let a0_4 := a0_3.2; let a0_5 := a0_4.2; let a0_6 := a0_5.2; let a0_7 := a0_6.2; let a0_8 := a0_7.2; let a0_9 := a0_8.2; F β a0_0.1 a0_1.1 a0_2.1 a0_3.1 a0_4.1 a0_5.1 a0_6.1 a0_7.1 a0_8.1 a0_9.1 (fun y1 y2 y3 y4 y5 y6 y7 y8 y9 y10 => k (.agg [.str y1, .str y2, .str y3, .int .i64 y4, .int .i64 y5, .str y6, .int .i64 y7, .bool y8, .str y9, .int .i64 y10]))
abbrev W43 (F : T43) : WT := wrap s43 (G43 F)
theorem k43 (F44 : T44) (F57 : T57) (β : Type) (e : argsT s43) (k : V → Option β) : fnK cfg (tabL [(44, W44 F44), (57, W57 F57)]) noX 43 Tryd.f43 β (argsEnc s43 e) k = G43 (P43 F44 F57 ) β e k := by kernel_rfl
theorem ok43 : FnOk D 43 (W43 F43) := fn_okW [(44, W44 F44), (57, W57 F57)] noX (fun _ => rfl) Tryd.func43 rfl (tabL_cons ok44 (tabL_cons ok57 tabL_nil)) (k43 F44 F57 )

/-- laws.toEntryS -/
abbrev T28 : Type 1 := (β : Type) → List V → (List V → Option β) → Option β
def P28 (F43 : T43) : T28 := fun β a k =>
 chk (0 ≤ (a.length : Int) ∧ (a.length : Int) ≤ (a.length : Int) ∧ (a.length : Int) * 120 ≤ 140737488355328 ∧ (a.length : Int) ≤ 140737488355328) <|
 whileK (fun s1 =>
 br (decide ((lI s1 2) < ((lL s1 0).length : Int))) (
 chk (0 ≤ (lI s1 2)) <|
 idx true [.str, .str, .str, .int .i64, .int .i64, .str, .int .i64, .bool, .str, .int .i64] (lL s1 0) ((lI s1 2).toNat) fun (e2 : List UInt8 × List UInt8 × List UInt8 × Int × Int × List UInt8 × Int × Bool × List UInt8 × Int × Unit) =>
 F43 _ e2.1 e2.2.1 e2.2.2.1 e2.2.2.2.1 e2.2.2.2.2.1 e2.2.2.2.2.2.1 e2.2.2.2.2.2.2.1 e2.2.2.2.2.2.2.2.1 e2.2.2.2.2.2.2.2.2.1 e2.2.2.2.2.2.2.2.2.2.1 fun t3 t4 t5 n6 n7 t8 n9 b10 t11 n12 =>
 chk (0 ≤ (lI s1 2) ∧ (lI s1 2).toNat < (lL s1 1).length) <|
 storeO (lL s1 1) ((lI s1 2).toNat) 0 [.str t3, .str t4, .str t5, .int .i64 n6, .int .i64 n7, .str t8, .int .i64 n9, .bool b10, .str t11, .int .i64 n12] fun l13 =>
 some (.inl [.l (lL s1 0), .l l13, .i (IntKind.wrap .i64 ((lI s1 2) + 1))])) (
 some (.inr (0, [.l (lL s1 1)])))) [.l a, .l (List.replicate ((a.length : Int).toNat) (.agg [.str [], .str [], .str [], .int .i64 0, .int .i64 0, .str [], .int .i64 0, .bool false, .str [], .int .i64 0])), .i 0] fun (r14 : Nat × List Leaf) =>
 k (lL r14.2 0)
def F28 : T28 := P28 F43 
def X28 : Exits := fun i => lookN i [] [(3, [(.exit 0, xk 23 [(3, .own 1000000 10 .flat [])] [])])]
abbrev s28 : List (Bool × List CK) := [(false, [.sl 10 true])]
def G28 (F : T28) (β : Type) (e : (List V × Unit) × Unit) (k : V → Option β) : Option β := F β e.1.1 (fun y1 => k (.own 0 10 .flat y1))
abbrev W28 (F : T28) : WT := wrap s28 (G28 F)
theorem k28 (F43 : T43) (β : Type) (e : argsT s28) (k : V → Option β) : fnK cfg (tabL [(43, W43 F43)]) X28 28 Tryd.f28 β (argsEnc s28 e) k = G28 (P28 F43 ) β e k := by kernel_rfl
theorem ok28 : FnOk D 28 (W28 F28) := fn_okW [(43, W43 F43)] X28 (fun _ => rfl) Tryd.func28 rfl (tabL_cons ok43 tabL_nil) (k28 F43 )

/-- laws.toCache -/
abbrev T14 : Type 1 := (β : Type) → List V → (List V → Option β) → Option β
def P14 (F28 : T28) : T14 := fun β a_Entries k =>
 F28 _ a_Entries fun l1 =>
 k l1
def F14 : T14 := P14 F28 
abbrev s14 : List (Bool × List CK) := [(true, [.sl 10 true])]
def G14 (F : T14) (β : Type) (e : (List V × Unit) × Unit) (k : V → Option β) : Option β := F β e.1.1 (fun y1 => k (.agg [.own 0 10 .flat y1]))
abbrev W14 (F : T14) : WT := wrap s14 (G14 F)
theorem k14 (F28 : T28) (β : Type) (e : argsT s14) (k : V → Option β) : fnK cfg (tabL [(28, W28 F28)]) noX 14 Tryd.f14 β (argsEnc s14 e) k = G14 (P14 F28 ) β e k := by kernel_rfl
theorem ok14 : FnOk D 14 (W14 F14) := fn_okW [(28, W28 F28)] noX (fun _ => rfl) Tryd.func14 rfl (tabL_cons ok28 tabL_nil) (k14 F28 )

/-- laws.toSent -/
abbrev T29 : Type 1 := (β : Type) → List UInt8 → List UInt8 → List UInt8 → Bool → (List UInt8 → List UInt8 → List UInt8 → Bool → Option β) → Option β
def P29 (F44 : T44) : T29 := fun β a_Top a_To_Host a_To_Path a_Guess k =>
 F44 _ a_To_Host a_To_Path fun t1 t2 =>
 k a_Top t1 t2 a_Guess
def F29 : T29 := P29 F44 
abbrev s29 : List (Bool × List CK) := [(true, [.str, .str, .str, .bool])]
def G29 (F : T29) (β : Type) (e : (List UInt8 × List UInt8 × List UInt8 × Bool × Unit) × Unit) (k : V → Option β) : Option β := F β e.1.1 e.1.2.1 e.1.2.2.1 e.1.2.2.2.1 (fun y1 y2 y3 y4 => k (.agg [.str y1, .str y2, .str y3, .bool y4]))
abbrev W29 (F : T29) : WT := wrap s29 (G29 F)
theorem k29 (F44 : T44) (β : Type) (e : argsT s29) (k : V → Option β) : fnK cfg (tabL [(44, W44 F44)]) noX 29 Tryd.f29 β (argsEnc s29 e) k = G29 (P29 F44 ) β e k := by kernel_rfl
theorem ok29 : FnOk D 29 (W29 F29) := fn_okW [(44, W44 F44)] noX (fun _ => rfl) Tryd.func29 rfl (tabL_cons ok44 tabL_nil) (k29 F44 )

/-- laws.toSentS -/
abbrev T15 : Type 1 := (β : Type) → List V → (List V → Option β) → Option β
def P15 (F29 : T29) : T15 := fun β a k =>
 chk (0 ≤ (a.length : Int) ∧ (a.length : Int) ≤ (a.length : Int) ∧ (a.length : Int) * 56 ≤ 140737488355328 ∧ (a.length : Int) ≤ 140737488355328) <|
 whileK (fun s1 =>
 br (decide ((lI s1 2) < ((lL s1 0).length : Int))) (
 chk (0 ≤ (lI s1 2)) <|
 idx true [.str, .str, .str, .bool] (lL s1 0) ((lI s1 2).toNat) fun (e2 : List UInt8 × List UInt8 × List UInt8 × Bool × Unit) =>
 F29 _ e2.1 e2.2.1 e2.2.2.1 e2.2.2.2.1 fun t3 t4 t5 b6 =>
 chk (0 ≤ (lI s1 2) ∧ (lI s1 2).toNat < (lL s1 1).length) <|
 storeO (lL s1 1) ((lI s1 2).toNat) 0 [.str t3, .str t4, .str t5, .bool b6] fun l7 =>
 some (.inl [.l (lL s1 0), .l l7, .i (IntKind.wrap .i64 ((lI s1 2) + 1))])) (
 some (.inr (0, [.l (lL s1 1)])))) [.l a, .l (List.replicate ((a.length : Int).toNat) (.agg [.str [], .str [], .str [], .bool false])), .i 0] fun (r8 : Nat × List Leaf) =>
 k (lL r8.2 0)
def F15 : T15 := P15 F29 
def X15 : Exits := fun i => lookN i [] [(3, [(.exit 0, xk 23 [(3, .own 1000000 4 .flat [])] [])])]
abbrev s15 : List (Bool × List CK) := [(false, [.sl 4 true])]
def G15 (F : T15) (β : Type) (e : (List V × Unit) × Unit) (k : V → Option β) : Option β := F β e.1.1 (fun y1 => k (.own 0 4 .flat y1))
abbrev W15 (F : T15) : WT := wrap s15 (G15 F)
theorem k15 (F29 : T29) (β : Type) (e : argsT s15) (k : V → Option β) : fnK cfg (tabL [(29, W29 F29)]) X15 15 Tryd.f15 β (argsEnc s15 e) k = G15 (P15 F29 ) β e k := by kernel_rfl
theorem ok15 : FnOk D 15 (W15 F15) := fn_okW [(29, W29 F29)] X15 (fun _ => rfl) Tryd.func15 rfl (tabL_cons ok29 tabL_nil) (k15 F29 )

/-- laws.toNet -/
abbrev T6 : Type 1 := (β : Type) → List V → List V → List V → Int → (List V → List V → List V → Int → Option β) → Option β
def P6 (F13 : T13) (F14 : T14) (F15 : T15) : T6 := fun β a_Servers a_Cache_Entries a_Log a_Now k =>
 F13 _ a_Servers fun l1 =>
 F14 _ a_Cache_Entries fun l2 =>
 F15 _ a_Log fun l3 =>
 k l1 l2 l3 a_Now
def F6 : T6 := P6 F13 F14 F15 
abbrev s6 : List (Bool × List CK) := [(true, [.sl 2 false, .sl 10 true, .sl 4 true, .int .i64])]
def G6 (F : T6) (β : Type) (e : (List V × List V × List V × Int × Unit) × Unit) (k : V → Option β) : Option β := F β e.1.1 e.1.2.1 e.1.2.2.1 e.1.2.2.2.1 (fun y1 y2 y3 y4 => k (.agg [.own 0 2 .clean y1, .own 1 10 .flat y2, .own 2 4 .flat y3, .int .i64 y4]))
abbrev W6 (F : T6) : WT := wrap s6 (G6 F)
theorem k6 (F13 : T13) (F14 : T14) (F15 : T15) (β : Type) (e : argsT s6) (k : V → Option β) : fnK cfg (tabL [(13, W13 F13), (14, W14 F14), (15, W15 F15)]) noX 6 Tryd.f6 β (argsEnc s6 e) k = G6 (P6 F13 F14 F15 ) β e k := by kernel_rfl
theorem ok6 : FnOk D 6 (W6 F6) := fn_okW [(13, W13 F13), (14, W14 F14), (15, W15 F15)] noX (fun _ => rfl) Tryd.func6 rfl (tabL_cons ok13 (tabL_cons ok14 (tabL_cons ok15 tabL_nil))) (k6 F13 F14 F15 )

/-- spec.l1In -/
abbrev T40 : Type 1 := (β : Type) → Int → Int → Int → (Bool → Option β) → Option β
def P40 : T40 := fun β x least most k =>
 br (decide (x ≥ least)) (
 k (decide (x ≤ most))) (
 k false)
def F40 : T40 := P40 
abbrev s40 : List (Bool × List CK) := [(false, [.int .i64]), (false, [.int .i64]), (false, [.int .i64])]
def G40 (F : T40) (β : Type) (e : (Int × Unit) × (Int × Unit) × (Int × Unit) × Unit) (k : V → Option β) : Option β := F β e.1.1 e.2.1.1 e.2.2.1.1 (fun y1 => k (.bool y1))
abbrev W40 (F : T40) : WT := wrap s40 (G40 F)
theorem k40 (β : Type) (e : argsT s40) (k : V → Option β) : fnK cfg (tabL []) noX 40 Tryd.f40 β (argsEnc s40 e) k = G40 (P40 ) β e k := by kernel_rfl
theorem ok40 : FnOk D 40 (W40 F40) := fn_okW [] noX (fun _ => rfl) Tryd.func40 rfl (tabL_nil) (k40 )

/-- spec.IsName -/
abbrev T23 : Type 1 := (β : Type) → List UInt8 → (Bool → Option β) → Option β
def P23 (F40 : T40) : T23 := fun β s k =>
 whileK (fun s1 =>
 br (decide ((lI s1 1) < ((lS s1 0).length : Int))) (
 idxS (lS s1 0) (lI s1 1) fun b2 =>
 br (decide (b2 < 97)) (
 some (.inr (0, [.s (lS s1 0), .b false]))) (
 idxS (lS s1 0) (lI s1 1) fun b3 =>
 br (decide (b3 > 122)) (
 some (.inr (0, [.s (lS s1 0), .b false]))) (
 some (.inl [.s (lS s1 0), .i (IntKind.wrap .i64 ((lI s1 1) + 1))])))) (
 some (.inr (1, [.s (lS s1 0)])))) [.s s, .i 0] fun (r4 : Nat × List Leaf) =>
 if r4.1 = 0 then
 k (lB r4.2 1)
 else
 F40 _ ((lS r4.2 0).length : Int) 1 8 fun b5 =>
 k b5
def F23 : T23 := P23 F40 
def X23 : Exits := fun i => lookN i [] [(2, [(.ret, xk 23 [(0, .str []), (2, .bool false)] []), (.exit 0, xk 23 [(0, .str [])] [])])]
abbrev s23 : List (Bool × List CK) := [(false, [.str])]
def G23 (F : T23) (β : Type) (e : (List UInt8 × Unit) × Unit) (k : V → Option β) : Option β := F β e.1.1 (fun y1 => k (.bool y1))
abbrev W23 (F : T23) : WT := wrap s23 (G23 F)
theorem k23 (F40 : T40) (β : Type) (e : argsT s23) (k : V → Option β) : fnK cfg (tabL [(40, W40 F40)]) X23 23 Tryd.f23 β (argsEnc s23 e) k = G23 (P23 F40 ) β e k := by kernel_rfl
theorem ok23 : FnOk D 23 (W23 F23) := fn_okW [(40, W40 F40)] X23 (fun _ => rfl) Tryd.func23 rfl (tabL_cons ok40 tabL_nil) (k23 F40 )

/-- spec.IsAddr -/
abbrev T24 : Type 1 := (β : Type) → List UInt8 → List UInt8 → (Bool → Option β) → Option β
def P24 (F23 : T23) : T24 := fun β a_Host a_Path k =>
 F23 _ a_Host fun b1 =>
 br b1 (
 F23 _ a_Path fun b2 =>
 k b2) (
 k false)
def F24 : T24 := P24 F23 
abbrev s24 : List (Bool × List CK) := [(true, [.str, .str])]
def G24 (F : T24) (β : Type) (e : (List UInt8 × List UInt8 × Unit) × Unit) (k : V → Option β) : Option β := F β e.1.1 e.1.2.1 (fun y1 => k (.bool y1))
abbrev W24 (F : T24) : WT := wrap s24 (G24 F)
theorem k24 (F23 : T23) (β : Type) (e : argsT s24) (k : V → Option β) : fnK cfg (tabL [(23, W23 F23)]) noX 24 Tryd.f24 β (argsEnc s24 e) k = G24 (P24 F23 ) β e k := by kernel_rfl
theorem ok24 : FnOk D 24 (W24 F24) := fn_okW [(23, W23 F23)] noX (fun _ => rfl) Tryd.func24 rfl (tabL_cons ok23 tabL_nil) (k24 F23 )

/-- spec.l5Split -/
abbrev T54 : Type 1 := (β : Type) → List UInt8 → Int → (List V → Option β) → Option β
def P54 : T54 := fun β s xby k =>
 whileK (fun s1 =>
 br (decide ((lI s1 4) ≤ ((lS s1 0).length : Int))) (
 br ((lI s1 4) == ((lS s1 0).length : Int)) (
 chk (0 ≤ (lI s1 3) ∧ (lI s1 3) ≤ (lI s1 4) ∧ (lI s1 4) ≤ ((lS s1 0).length : Int)) <|
 chk (((lL s1 2).length + ([.str (((lS s1 0).take ((lI s1 4).toNat)).drop ((lI s1 3).toNat))] : List V).length) * 16 ≤ 140737488355328 ∧ (lL s1 2).length + ([.str (((lS s1 0).take ((lI s1 4).toNat)).drop ((lI s1 3).toNat))] : List V).length ≤ 140737488355328) <|
 some (.inl [.s (lS s1 0), .i (lI s1 1), .l ((lL s1 2) ++ ([.str (((lS s1 0).take ((lI s1 4).toNat)).drop ((lI s1 3).toNat))] : List V)), .i (IntKind.wrap .i64 ((lI s1 4) + 1)), .i (IntKind.wrap .i64 ((lI s1 4) + 1))])) (
 idxS (lS s1 0) (lI s1 4) fun b2 =>
 br (b2 == (lI s1 1)) (
 chk (0 ≤ (lI s1 3) ∧ (lI s1 3) ≤ (lI s1 4) ∧ (lI s1 4) ≤ ((lS s1 0).length : Int)) <|
 chk (((lL s1 2).length + ([.str (((lS s1 0).take ((lI s1 4).toNat)).drop ((lI s1 3).toNat))] : List V).length) * 16 ≤ 140737488355328 ∧ (lL s1 2).length + ([.str (((lS s1 0).take ((lI s1 4).toNat)).drop ((lI s1 3).toNat))] : List V).length ≤ 140737488355328) <|
 some (.inl [.s (lS s1 0), .i (lI s1 1), .l ((lL s1 2) ++ ([.str (((lS s1 0).take ((lI s1 4).toNat)).drop ((lI s1 3).toNat))] : List V)), .i (IntKind.wrap .i64 ((lI s1 4) + 1)), .i (IntKind.wrap .i64 ((lI s1 4) + 1))])) (
 some (.inl [.s (lS s1 0), .i (lI s1 1), .l (lL s1 2), .i (lI s1 3), .i (IntKind.wrap .i64 ((lI s1 4) + 1))])))) (
 some (.inr (0, [.l (lL s1 2)])))) [.s s, .i xby, .l [], .i 0, .i 0] fun (r3 : Nat × List Leaf) =>
 k (lL r3.2 0)
def F54 : T54 := P54 
def X54 : Exits := fun i => lookN i [] [(4, [(.exit 0, xk 36 [(5, .own 1000000 1 .flat [])] [])])]
abbrev s54 : List (Bool × List CK) := [(false, [.str]), (false, [.int .u8])]
def G54 (F : T54) (β : Type) (e : (List UInt8 × Unit) × (Int × Unit) × Unit) (k : V → Option β) : Option β := F β e.1.1 e.2.1.1 (fun y1 => k (.own 0 1 .flat y1))
abbrev W54 (F : T54) : WT := wrap s54 (G54 F)
theorem k54 (β : Type) (e : argsT s54) (k : V → Option β) : fnK cfg (tabL []) X54 54 Tryd.f54 β (argsEnc s54 e) k = G54 (P54 ) β e k := by kernel_rfl
theorem ok54 : FnOk D 54 (W54 F54) := fn_okW [] X54 (fun _ => rfl) Tryd.func54 rfl (tabL_nil) (k54 )

/-- spec.l9Names -/
abbrev T70 : Type 1 := (β : Type) → List V → (Bool → Option β) → Option β
def P70 (F23 : T23) : T70 := fun β l k =>
 whileK (fun s1 =>
 br (decide ((lI s1 1) < ((lL s1 0).length : Int))) (
 chk (0 ≤ (lI s1 1)) <|
 idx false [.str] (lL s1 0) ((lI s1 1).toNat) fun (e2 : List UInt8 × Unit) =>
 F23 _ e2.1 fun b3 =>
 br (!b3) (
 some (.inr (0, [.l (lL s1 0), .b false]))) (
 some (.inl [.l (lL s1 0), .i (IntKind.wrap .i64 ((lI s1 1) + 1))]))) (
 some (.inr (1, [.l (lL s1 0)])))) [.l l, .i 0] fun (r4 : Nat × List Leaf) =>
 if r4.1 = 0 then
 k (lB r4.2 1)
 else
 k (decide (((lL r4.2 0).length : Int) ≤ 4))
def F70 : T70 := P70 F23 
def X70 : Exits := fun i => lookN i [] [(2, [(.ret, xk 19 [(0, .sl 1 true []), (2, .bool false)] []), (.exit 0, xk 19 [(0, .sl 1 true [])] [])])]
abbrev s70 : List (Bool × List CK) := [(false, [.sl 1 true])]
def G70 (F : T70) (β : Type) (e : (List V × Unit) × Unit) (k : V → Option β) : Option β := F β e.1.1 (fun y1 => k (.bool y1))
abbrev W70 (F : T70) : WT := wrap s70 (G70 F)
theorem k70 (F23 : T23) (β : Type) (e : argsT s70) (k : V → Option β) : fnK cfg (tabL [(23, W23 F23)]) X70 70 Tryd.f70 β (argsEnc s70 e) k = G70 (P70 F23 ) β e k := by kernel_rfl
theorem ok70 : FnOk D 70 (W70 F70) := fn_okW [(23, W23 F23)] X70 (fun _ => rfl) Tryd.func70 rfl (tabL_cons ok23 tabL_nil) (k70 F23 )

/-- spec.IsValue -/
abbrev T71 : Type 1 := (β : Type) → List UInt8 → (Bool → Option β) → Option β
def P71 (F40 : T40) : T71 := fun β s k =>
 whileK (fun s1 =>
 br (decide ((lI s1 1) < ((lS s1 0).length : Int))) (
 idxS (lS s1 0) (lI s1 1) fun b2 =>
 br (decide (b2 < 97)) (
 idxS (lS s1 0) (lI s1 1) fun b3 =>
 br (decide (b3 < 48)) (
 idxS (lS s1 0) (lI s1 1) fun b4 =>
 br (b4 != 47) (
 some (.inr (0, [.s (lS s1 0), .b false]))) (
 some (.inl [.s (lS s1 0), .i (IntKind.wrap .i64 ((lI s1 1) + 1))]))) (
 idxS (lS s1 0) (lI s1 1) fun b5 =>
 br (decide (b5 > 57)) (
 idxS (lS s1 0) (lI s1 1) fun b6 =>
 br (b6 != 47) (
 some (.inr (0, [.s (lS s1 0), .b false]))) (
 some (.inl [.s (lS s1 0), .i (IntKind.wrap .i64 ((lI s1 1) + 1))]))) (
 some (.inl [.s (lS s1 0), .i (IntKind.wrap .i64 ((lI s1 1) + 1))])))) (
 idxS (lS s1 0) (lI s1 1) fun b7 =>
 br (decide (b7 > 122)) (
 idxS (lS s1 0) (lI s1 1) fun b8 =>
 br (decide (b8 < 48)) (
 idxS (lS s1 0) (lI s1 1) fun b9 =>
 br (b9 != 47) (
 some (.inr (0, [.s (lS s1 0), .b false]))) (
 some (.inl [.s (lS s1 0), .i (IntKind.wrap .i64 ((lI s1 1) + 1))]))) (
 idxS (lS s1 0) (lI s1 1) fun b10 =>
 br (decide (b10 > 57)) (
 idxS (lS s1 0) (lI s1 1) fun b11 =>
 br (b11 != 47) (
 some (.inr (0, [.s (lS s1 0), .b false]))) (
 some (.inl [.s (lS s1 0), .i (IntKind.wrap .i64 ((lI s1 1) + 1))]))) (
 some (.inl [.s (lS s1 0), .i (IntKind.wrap .i64 ((lI s1 1) + 1))])))) (
 some (.inl [.s (lS s1 0), .i (IntKind.wrap .i64 ((lI s1 1) + 1))])))) (
 some (.inr (1, [.s (lS s1 0)])))) [.s s, .i 0] fun (r12 : Nat × List Leaf) =>
 if r12.1 = 0 then
 k (lB r12.2 1)
 else
 F40 _ ((lS r12.2 0).length : Int) 1 20 fun b13 =>
 k b13
def F71 : T71 := P71 F40 
def X71 : Exits := fun i => lookN i [] [(2, [(.ret, xk 41 [(0, .str []), (2, .bool false)] []), (.exit 0, xk 41 [(0, .str [])] [])])]
abbrev s71 : List (Bool × List CK) := [(false, [.str])]
def G71 (F : T71) (β : Type) (e : (List UInt8 × Unit) × Unit) (k : V → Option β) : Option β := F β e.1.1 (fun y1 => k (.bool y1))
abbrev W71 (F : T71) : WT := wrap s71 (G71 F)
theorem k71 (F40 : T40) (β : Type) (e : argsT s71) (k : V → Option β) : fnK cfg (tabL [(40, W40 F40)]) X71 71 Tryd.f71 β (argsEnc s71 e) k = G71 (P71 F40 ) β e k := by kernel_rfl
theorem ok71 : FnOk D 71 (W71 F71) := fn_okW [(40, W40 F40)] X71 (fun _ => rfl) Tryd.func71 rfl (tabL_cons ok40 tabL_nil) (k71 F40 )

/-- spec.IsPolicy -/
abbrev T64 : Type 1 := (β : Type) → Bool → List V → List V → List V → List UInt8 → (Bool → Option β) → Option β
def P64 (F70 : T70) (F71 : T71) : T64 := fun β p_Set p_Scripts p_Styles p_Images p_Nonce k =>
 br (!p_Set) (
 br ((p_Scripts.length : Int) == 0) (
 br ((p_Styles.length : Int) == 0) (
 br ((p_Images.length : Int) == 0) (
 k (p_Nonce == [])) (
 k false)) (
 k false)) (
 k false)) (
 F70 _ p_Scripts fun b1 =>
 br b1 (
 F70 _ p_Styles fun b2 =>
 br b2 (
 F70 _ p_Images fun b3 =>
 br b3 (
 br (p_Nonce == []) (
 k true) (
 F71 _ p_Nonce fun b4 =>
 k b4)) (
 k false)) (
 k false)) (
 k false))
def F64 : T64 := P64 F70 F71 
abbrev s64 : List (Bool × List CK) := [(true, [.bool, .sl 1 true, .sl 1 true, .sl 1 true, .str])]
def G64 (F : T64) (β : Type) (e : (Bool × List V × List V × List V × List UInt8 × Unit) × Unit) (k : V → Option β) : Option β := let a0_0 := e.1; let a0_1 := a0_0.2; let a0_2 := a0_1.2; let a0_3 := a0_2.2; let a0_4 := a0_3.2; F β a0_0.1 a0_1.1 a0_2.1 a0_3.1 a0_4.1 (fun y1 => k (.bool y1))
abbrev W64 (F : T64) : WT := wrap s64 (G64 F)
theorem k64 (F70 : T70) (F71 : T71) (β : Type) (e : argsT s64) (k : V → Option β) : fnK cfg (tabL [(70, W70 F70), (71, W71 F71)]) noX 64 Tryd.f64 β (argsEnc s64 e) k = G64 (P64 F70 F71 ) β e k := by kernel_rfl
theorem ok64 : FnOk D 64 (W64 F64) := fn_okW [(70, W70 F70), (71, W71 F71)] noX (fun _ => rfl) Tryd.func64 rfl (tabL_cons ok70 (tabL_cons ok71 tabL_nil)) (k64 F70 F71 )

/-- spec.l9Words -/
abbrev T65 : Type 1 := (β : Type) → List UInt8 → List V → (List UInt8 → Option β) → Option β
def P65 : T65 := fun β word l k =>
 whileK (fun s1 =>
 br (decide ((lI s1 2) < ((lL s1 1).length : Int))) (
 chk ((lS s1 0).length + ([32] : List UInt8).length ≤ 9223372036854775807) <|
 chk (0 ≤ (lI s1 2)) <|
 idx false [.str] (lL s1 1) ((lI s1 2).toNat) fun (e2 : List UInt8 × Unit) =>
 chk (((lS s1 0) ++ [32]).length + e2.1.length ≤ 9223372036854775807) <|
 some (.inl [.s (((lS s1 0) ++ [32]) ++ e2.1), .l (lL s1 1), .i (IntKind.wrap .i64 ((lI s1 2) + 1))])) (
 some (.inr (0, [.s (lS s1 0)])))) [.s word, .l l, .i 0] fun (r3 : Nat × List Leaf) =>
 k (lS r3.2 0)
def F65 : T65 := P65 
def X65 : Exits := fun i => lookN i [] [(2, [(.exit 0, xk 20 [(0, .str [])] [])])]
abbrev s65 : List (Bool × List CK) := [(false, [.str]), (false, [.sl 1 true])]
def G65 (F : T65) (β : Type) (e : (List UInt8 × Unit) × (List V × Unit) × Unit) (k : V → Option β) : Option β := F β e.1.1 e.2.1.1 (fun y1 => k (.str y1))
abbrev W65 (F : T65) : WT := wrap s65 (G65 F)
theorem k65 (β : Type) (e : argsT s65) (k : V → Option β) : fnK cfg (tabL []) X65 65 Tryd.f65 β (argsEnc s65 e) k = G65 (P65 ) β e k := by kernel_rfl
theorem ok65 : FnOk D 65 (W65 F65) := fn_okW [] X65 (fun _ => rfl) Tryd.func65 rfl (tabL_nil) (k65 )

/-- spec.FormatPolicy -/
abbrev T55 : Type 1 := (β : Type) → Bool → List V → List V → List V → List UInt8 → (List UInt8 → Option β) → Option β
def P55 (F64 : T64) (F65 : T65) : T55 := fun β p_Set p_Scripts p_Styles p_Images p_Nonce k =>
 F64 _ p_Set p_Scripts p_Styles p_Images p_Nonce fun b1 =>
 br (!b1) (
 k []) (
 br (!p_Set) (
 k []) (
 F65 _ [115, 99, 114, 105, 112, 116] p_Scripts fun t2 =>
 chk (t2.length + ([59] : List UInt8).length ≤ 9223372036854775807) <|
 F65 _ [115, 116, 121, 108, 101] p_Styles fun t3 =>
 chk ((t2 ++ [59]).length + t3.length ≤ 9223372036854775807) <|
 chk (((t2 ++ [59]) ++ t3).length + ([59] : List UInt8).length ≤ 9223372036854775807) <|
 F65 _ [105, 109, 103] p_Images fun t4 =>
 chk ((((t2 ++ [59]) ++ t3) ++ [59]).length + t4.length ≤ 9223372036854775807) <|
 br (!(p_Nonce == [])) (
 chk (((((t2 ++ [59]) ++ t3) ++ [59]) ++ t4).length + ([59, 110, 111, 110, 99, 101, 32] : List UInt8).length ≤ 9223372036854775807) <|
 chk ((((((t2 ++ [59]) ++ t3) ++ [59]) ++ t4) ++ [59, 110, 111, 110, 99, 101, 32]).length + p_Nonce.length ≤ 9223372036854775807) <|
 k ((((((t2 ++ [59]) ++ t3) ++ [59]) ++ t4) ++ [59, 110, 111, 110, 99, 101, 32]) ++ p_Nonce)) (
 k ((((t2 ++ [59]) ++ t3) ++ [59]) ++ t4))))
def F55 : T55 := P55 F64 F65 
abbrev s55 : List (Bool × List CK) := [(true, [.bool, .sl 1 true, .sl 1 true, .sl 1 true, .str])]
def G55 (F : T55) (β : Type) (e : (Bool × List V × List V × List V × List UInt8 × Unit) × Unit) (k : V → Option β) : Option β := let a0_0 := e.1; let a0_1 := a0_0.2; let a0_2 := a0_1.2; let a0_3 := a0_2.2; let a0_4 := a0_3.2; F β a0_0.1 a0_1.1 a0_2.1 a0_3.1 a0_4.1 (fun y1 => k (.str y1))
abbrev W55 (F : T55) : WT := wrap s55 (G55 F)
theorem k55 (F64 : T64) (F65 : T65) (β : Type) (e : argsT s55) (k : V → Option β) : fnK cfg (tabL [(64, W64 F64), (65, W65 F65)]) noX 55 Tryd.f55 β (argsEnc s55 e) k = G55 (P55 F64 F65 ) β e k := by kernel_rfl
theorem ok55 : FnOk D 55 (W55 F55) := fn_okW [(64, W64 F64), (65, W65 F65)] noX (fun _ => rfl) Tryd.func55 rfl (tabL_cons ok64 (tabL_cons ok65 tabL_nil)) (k55 F64 F65 )

/-- spec.ParsePolicy -/
abbrev T41 : Type 1 := (β : Type) → List UInt8 → (Bool → List V → List V → List V → List UInt8 → Bool → Option β) → Option β
def P41 (F54 : T54) (F55 : T55) : T41 := fun β s k =>
 br (s == []) (
 k false [] [] [] [] true) (
 F54 _ s 59 fun l1 =>
 br (decide ((l1.length : Int) < 3)) (
 k false [] [] [] [] false) (
 chk (0 ≤ (0 : Int) ∧ 0 < l1.length) <|
 idxAt [.str] l1 0 0 fun (e2 : List UInt8 × Unit) =>
 F54 _ e2.1 32 fun l3 =>
 chk (0 ≤ (1 : Int) ∧ (1 : Int) ≤ (l3.length : Int) ∧ (l3.length : Int) ≤ (l3.length : Int)) <|
 chk (0 ≤ (1 : Int) ∧ 1 < l1.length) <|
 idxAt [.str] l1 1 0 fun (e4 : List UInt8 × Unit) =>
 F54 _ e4.1 32 fun l5 =>
 chk (0 ≤ (1 : Int) ∧ (1 : Int) ≤ (l5.length : Int) ∧ (l5.length : Int) ≤ (l5.length : Int)) <|
 chk (0 ≤ (2 : Int) ∧ 2 < l1.length) <|
 idxAt [.str] l1 2 0 fun (e6 : List UInt8 × Unit) =>
 F54 _ e6.1 32 fun l7 =>
 chk (0 ≤ (1 : Int) ∧ (1 : Int) ≤ (l7.length : Int) ∧ (l7.length : Int) ≤ (l7.length : Int)) <|
 br (decide ((l1.length : Int) > 3)) (
 chk (0 ≤ (3 : Int) ∧ 3 < l1.length) <|
 idxAt [.str] l1 3 0 fun (e8 : List UInt8 × Unit) =>
 br (decide ((e8.1.length : Int) > 6)) (
 chk (0 ≤ (3 : Int) ∧ 3 < l1.length) <|
 idxAt [.str] l1 3 0 fun (e9 : List UInt8 × Unit) =>
 chk (0 ≤ (6 : Int) ∧ (6 : Int) ≤ (e9.1.length : Int) ∧ (e9.1.length : Int) ≤ (e9.1.length : Int)) <|
 F55 _ true ((l3.take ((l3.length : Int).toNat)).drop 1) ((l5.take ((l5.length : Int).toNat)).drop 1) ((l7.take ((l7.length : Int).toNat)).drop 1) ((e9.1.take ((e9.1.length : Int).toNat)).drop 6) fun t10 =>
 br (!(t10 == s)) (
 k false [] [] [] [] false) (
 k true ((l3.take ((l3.length : Int).toNat)).drop 1) ((l5.take ((l5.length : Int).toNat)).drop 1) ((l7.take ((l7.length : Int).toNat)).drop 1) ((e9.1.take ((e9.1.length : Int).toNat)).drop 6) true)) (
 F55 _ true ((l3.take ((l3.length : Int).toNat)).drop 1) ((l5.take ((l5.length : Int).toNat)).drop 1) ((l7.take ((l7.length : Int).toNat)).drop 1) [] fun t11 =>
 br (!(t11 == s)) (
 k false [] [] [] [] false) (
 k true ((l3.take ((l3.length : Int).toNat)).drop 1) ((l5.take ((l5.length : Int).toNat)).drop 1) ((l7.take ((l7.length : Int).toNat)).drop 1) [] true))) (
 F55 _ true ((l3.take ((l3.length : Int).toNat)).drop 1) ((l5.take ((l5.length : Int).toNat)).drop 1) ((l7.take ((l7.length : Int).toNat)).drop 1) [] fun t12 =>
 br (!(t12 == s)) (
 k false [] [] [] [] false) (
 k true ((l3.take ((l3.length : Int).toNat)).drop 1) ((l5.take ((l5.length : Int).toNat)).drop 1) ((l7.take ((l7.length : Int).toNat)).drop 1) [] true))))
def F41 : T41 := P41 F54 F55 
abbrev s41 : List (Bool × List CK) := [(false, [.str])]
def G41 (F : T41) (β : Type) (e : (List UInt8 × Unit) × Unit) (k : V → Option β) : Option β := F β e.1.1 (fun y1 y2 y3 y4 y5 y6 => k (.tup [.agg [.bool y1, .view 1 1 .flat y2, .view 2 1 .flat y3, .view 3 1 .flat y4, .str y5], .bool y6]))
abbrev W41 (F : T41) : WT := wrap s41 (G41 F)
theorem k41 (F54 : T54) (F55 : T55) (β : Type) (e : argsT s41) (k : V → Option β) : fnK cfg (tabL [(54, W54 F54), (55, W55 F55)]) noX 41 Tryd.f41 β (argsEnc s41 e) k = G41 (P41 F54 F55 ) β e k := by kernel_rfl
theorem ok41 : FnOk D 41 (W41 F41) := fn_okW [(54, W54 F54), (55, W55 F55)] noX (fun _ => rfl) Tryd.func41 rfl (tabL_cons ok54 (tabL_cons ok55 tabL_nil)) (k41 F54 F55 )

/-- spec.IsResponse -/
abbrev T25 : Type 1 := (β : Type) → Int → Int → List UInt8 → Int → Bool → List UInt8 → (Bool → Option β) → Option β
def P25 (F41 : T41) (F40 : T40) : T25 := fun β x_Status x_Kind x_Body x_Age x_Shares x_Policy k =>
 F41 _ x_Policy fun b1 l2 l3 l4 t5 b6 =>
 F40 _ x_Status 100 599 fun b7 =>
 br b7 (
 F40 _ x_Kind 1 5 fun b8 =>
 br b8 (
 br (decide ((x_Body.length : Int) ≤ 400)) (
 F40 _ x_Age 0 1000 fun b9 =>
 br b9 (
 k b6) (
 k false)) (
 k false)) (
 k false)) (
 k false)
def F25 : T25 := P25 F41 F40 
abbrev s25 : List (Bool × List CK) := [(true, [.int .i64, .int .i64, .str, .int .i64, .bool, .str])]
def G25 (F : T25) (β : Type) (e : (Int × Int × List UInt8 × Int × Bool × List UInt8 × Unit) × Unit) (k : V → Option β) : Option β := let a0_0 := e.1; let a0_1 := a0_0.2; let a0_2 := a0_1.2; let a0_3 := a0_2.2; let a0_4 := a0_3.2; let a0_5 := a0_4.2; F β a0_0.1 a0_1.1 a0_2.1 a0_3.1 a0_4.1 a0_5.1 (fun y1 => k (.bool y1))
abbrev W25 (F : T25) : WT := wrap s25 (G25 F)
theorem k25 (F41 : T41) (F40 : T40) (β : Type) (e : argsT s25) (k : V → Option β) : fnK cfg (tabL [(41, W41 F41), (40, W40 F40)]) noX 25 Tryd.f25 β (argsEnc s25 e) k = G25 (P25 F41 F40 ) β e k := by kernel_rfl
theorem ok25 : FnOk D 25 (W25 F25) := fn_okW [(41, W41 F41), (40, W40 F40)] noX (fun _ => rfl) Tryd.func25 rfl (tabL_cons ok41 (tabL_cons ok40 tabL_nil)) (k25 F41 F40 )

/-- spec.l13Find -/
abbrev T26 : Type 1 := (β : Type) → List V → List UInt8 → List UInt8 → List UInt8 → (Int → Option β) → Option β
def P26 : T26 := fun β c_Entries top a_Host a_Path k =>
 whileK (fun s1 =>
 br (decide ((lI s1 1) < ((lL s1 2).length : Int))) (
 chk (0 ≤ (lI s1 1)) <|
 idx true [.str, .str, .str, .int .i64, .int .i64, .str, .int .i64, .bool, .str, .int .i64] (lL s1 2) ((lI s1 1).toNat) fun (e2 : List UInt8 × List UInt8 × List UInt8 × Int × Int × List UInt8 × Int × Bool × List UInt8 × Int × Unit) =>
 br (e2.1 == (lS s1 0)) (
 chk (0 ≤ (lI s1 1)) <|
 idx true [.str, .str, .str, .int .i64, .int .i64, .str, .int .i64, .bool, .str, .int .i64] (lL s1 2) ((lI s1 1).toNat) fun (e3 : List UInt8 × List UInt8 × List UInt8 × Int × Int × List UInt8 × Int × Bool × List UInt8 × Int × Unit) =>
 br ((e3.2.1 == (lS s1 3)) && ((e3.2.2.1 == (lS s1 4)) && true)) (
 some (.inr (0, [.i (lI s1 1)]))) (
 some (.inl [.s (lS s1 0), .i (IntKind.wrap .i64 ((lI s1 1) + 1)), .l (lL s1 2), .s (lS s1 3), .s (lS s1 4)]))) (
 some (.inl [.s (lS s1 0), .i (IntKind.wrap .i64 ((lI s1 1) + 1)), .l (lL s1 2), .s (lS s1 3), .s (lS s1 4)]))) (
 some (.inr (1, [])))) [.s top, .i 0, .l c_Entries, .s a_Host, .s a_Path] fun (r4 : Nat × List Leaf) =>
 if r4.1 = 0 then
 k (lI r4.2 0)
 else
 k (-1)
def F26 : T26 := P26 
def X26 : Exits := fun i => lookN i [] [(2, [(.ret, xk 34 [(6, .int .i64 0)] []), (.exit 0, xk 34 [] [])])]
abbrev s26 : List (Bool × List CK) := [(true, [.sl 10 true]), (false, [.str]), (true, [.str, .str])]
def G26 (F : T26) (β : Type) (e : (List V × Unit) × (List UInt8 × Unit) × (List UInt8 × List UInt8 × Unit) × Unit) (k : V → Option β) : Option β := F β e.1.1 e.2.1.1 e.2.2.1.1 e.2.2.1.2.1 (fun y1 => k (.int .i64 y1))
abbrev W26 (F : T26) : WT := wrap s26 (G26 F)
theorem k26 (β : Type) (e : argsT s26) (k : V → Option β) : fnK cfg (tabL []) X26 26 Tryd.f26 β (argsEnc s26 e) k = G26 (P26 ) β e k := by kernel_rfl
theorem ok26 : FnOk D 26 (W26 F26) := fn_okW [] X26 (fun _ => rfl) Tryd.func26 rfl (tabL_nil) (k26 )

/-- spec.IsCache -/
abbrev T12 : Type 1 := (β : Type) → List V → (Bool → Option β) → Option β
def P12 (F23 : T23) (F24 : T24) (F25 : T25) (F26 : T26) : T12 := fun β c_Entries k =>
 whileK (fun s1 =>
 br (decide ((lI s1 0) < ((lL s1 1).length : Int))) (
 chk (0 ≤ (lI s1 0)) <|
 idx true [.str, .str, .str, .int .i64, .int .i64, .str, .int .i64, .bool, .str, .int .i64] (lL s1 1) ((lI s1 0).toNat) fun (e2 : List UInt8 × List UInt8 × List UInt8 × Int × Int × List UInt8 × Int × Bool × List UInt8 × Int × Unit) =>
 F23 _ e2.1 fun b3 =>
 br (!b3) (
 some (.inr (0, [.b false, .l (lL s1 1)]))) (
 F24 _ e2.2.1 e2.2.2.1 fun b4 =>
 br (!b4) (
 some (.inr (0, [.b false, .l (lL s1 1)]))) (
 F25 _ e2.2.2.2.1 e2.2.2.2.2.1 e2.2.2.2.2.2.1 e2.2.2.2.2.2.2.1 e2.2.2.2.2.2.2.2.1 e2.2.2.2.2.2.2.2.2.1 fun b5 =>
 br (!b5) (
 some (.inr (0, [.b false, .l (lL s1 1)]))) (
 br (e2.2.2.2.1 != 200) (
 some (.inr (0, [.b false, .l (lL s1 1)]))) (
 F26 _ (lL s1 1) e2.1 e2.2.1 e2.2.2.1 fun n6 =>
 br (n6 != (lI s1 0)) (
 some (.inr (0, [.b false, .l (lL s1 1)]))) (
 some (.inl [.i (IntKind.wrap .i64 ((lI s1 0) + 1)), .l (lL s1 1)]))))))) (
 some (.inr (1, [.l (lL s1 1)])))) [.i 0, .l c_Entries] fun (r7 : Nat × List Leaf) =>
 if r7.1 = 0 then
 k (lB r7.2 0)
 else
 k (decide (((lL r7.2 0).length : Int) ≤ 100))
def F12 : T12 := P12 F23 F24 F25 F26 
def X12 : Exits := fun i => lookN i [] [(2, [(.ret, xk 53 [(1, .ptr 1 0), (2, .bool false)] [(1, .agg [.sl 10 true []])]), (.exit 0, xk 53 [(1, .ptr 1 0)] [(1, .agg [.sl 10 true []])])])]
abbrev s12 : List (Bool × List CK) := [(true, [.sl 10 true])]
def G12 (F : T12) (β : Type) (e : (List V × Unit) × Unit) (k : V → Option β) : Option β := F β e.1.1 (fun y1 => k (.bool y1))
abbrev W12 (F : T12) : WT := wrap s12 (G12 F)
theorem k12 (F23 : T23) (F24 : T24) (F25 : T25) (F26 : T26) (β : Type) (e : argsT s12) (k : V → Option β) : fnK cfg (tabL [(23, W23 F23), (24, W24 F24), (25, W25 F25), (26, W26 F26)]) X12 12 Tryd.f12 β (argsEnc s12 e) k = G12 (P12 F23 F24 F25 F26 ) β e k := by kernel_rfl
theorem ok12 : FnOk D 12 (W12 F12) := fn_okW [(23, W23 F23), (24, W24 F24), (25, W25 F25), (26, W26 F26)] X12 (fun _ => rfl) Tryd.func12 rfl (tabL_cons ok23 (tabL_cons ok24 (tabL_cons ok25 (tabL_cons ok26 tabL_nil)))) (k12 F23 F24 F25 F26 )

/-- spec.CacheSound -/
abbrev T5 : Type 1 := (β : Type) → List V → List V → List V → Int → (Bool → Option β) → Option β
def P5 (F12 : T12) : T5 := fun β n_Servers n_Cache_Entries n_Log n_Now k =>
 whileK (fun s1 =>
 br (decide ((lI s1 0) < ((lL s1 2).length : Int))) (
 chk (0 ≤ (lI s1 0)) <|
 idx true [.str, .str, .str, .int .i64, .int .i64, .str, .int .i64, .bool, .str, .int .i64] (lL s1 2) ((lI s1 0).toNat) fun (e2 : List UInt8 × List UInt8 × List UInt8 × Int × Int × List UInt8 × Int × Bool × List UInt8 × Int × Unit) =>
 br (decide (e2.2.2.2.2.2.2.2.2.2.1 > IntKind.wrap .i64 ((lI s1 4) + 1000))) (
 some (.inr (0, [.b false, .l (lL s1 1), .l (lL s1 2), .l (lL s1 3), .i (lI s1 4)]))) (
 some (.inl [.i (IntKind.wrap .i64 ((lI s1 0) + 1)), .l (lL s1 1), .l (lL s1 2), .l (lL s1 3), .i (lI s1 4)]))) (
 some (.inr (1, [.l (lL s1 1), .l (lL s1 2), .l (lL s1 3), .i (lI s1 4)])))) [.i 0, .l n_Servers, .l n_Cache_Entries, .l n_Log, .i n_Now] fun (r3 : Nat × List Leaf) =>
 if r3.1 = 0 then
 k (lB r3.2 0)
 else
 F12 _ (lL r3.2 1) fun b4 =>
 k b4
def F5 : T5 := P5 F12 
def X5 : Exits := fun i => lookN i [] [(2, [(.ret, xk 26 [(1, .ptr 1 0), (2, .bool false)] [(1, .agg [.sl 2 false [], .sl 10 true [], .sl 4 true [], .int .i64 0])]), (.exit 0, xk 26 [(1, .ptr 1 0)] [(1, .agg [.sl 2 false [], .sl 10 true [], .sl 4 true [], .int .i64 0])])])]
abbrev s5 : List (Bool × List CK) := [(true, [.sl 2 false, .sl 10 true, .sl 4 true, .int .i64])]
def G5 (F : T5) (β : Type) (e : (List V × List V × List V × Int × Unit) × Unit) (k : V → Option β) : Option β := F β e.1.1 e.1.2.1 e.1.2.2.1 e.1.2.2.2.1 (fun y1 => k (.bool y1))
abbrev W5 (F : T5) : WT := wrap s5 (G5 F)
theorem k5 (F12 : T12) (β : Type) (e : argsT s5) (k : V → Option β) : fnK cfg (tabL [(12, W12 F12)]) X5 5 Tryd.f5 β (argsEnc s5 e) k = G5 (P5 F12 ) β e k := by kernel_rfl
theorem ok5 : FnOk D 5 (W5 F5) := fn_okW [(12, W12 F12)] X5 (fun _ => rfl) Tryd.func5 rfl (tabL_cons ok12 tabL_nil) (k5 F12 )

/-- impl.InRange -/
abbrev T45 : Type 1 := (β : Type) → Int → Int → Int → (Bool → Option β) → Option β
def P45 : T45 := fun β n low high k =>
 br (decide (low ≤ n)) (
 k (decide (n ≤ high))) (
 k false)
def F45 : T45 := P45 
abbrev s45 : List (Bool × List CK) := [(false, [.int .i64]), (false, [.int .i64]), (false, [.int .i64])]
def G45 (F : T45) (β : Type) (e : (Int × Unit) × (Int × Unit) × (Int × Unit) × Unit) (k : V → Option β) : Option β := F β e.1.1 e.2.1.1 e.2.2.1.1 (fun y1 => k (.bool y1))
abbrev W45 (F : T45) : WT := wrap s45 (G45 F)
theorem k45 (β : Type) (e : argsT s45) (k : V → Option β) : fnK cfg (tabL []) noX 45 Tryd.f45 β (argsEnc s45 e) k = G45 (P45 ) β e k := by kernel_rfl
theorem ok45 : FnOk D 45 (W45 F45) := fn_okW [] noX (fun _ => rfl) Tryd.func45 rfl (tabL_nil) (k45 )
theorem okd45 : FnOk D1 45 (W45 F45) := fn_okW [] noX (fun _ => rfl) Tryd.func45 rfl (tabL_nil) (k45 )

/-- impl.IsName -/
abbrev T30 : Type 1 := (β : Type) → List UInt8 → (Bool → Option β) → Option β
def P30 (F45 : T45) : T30 := fun β s k =>
 whileK (fun s1 =>
 br (decide ((lI s1 1) < ((lS s1 0).length : Int))) (
 idxS (lS s1 0) (lI s1 1) fun b2 =>
 br (decide (b2 < 97)) (
 some (.inr (0, [.s (lS s1 0), .b false]))) (
 idxS (lS s1 0) (lI s1 1) fun b3 =>
 br (decide (b3 > 122)) (
 some (.inr (0, [.s (lS s1 0), .b false]))) (
 some (.inl [.s (lS s1 0), .i (IntKind.wrap .i64 ((lI s1 1) + 1))])))) (
 some (.inr (1, [.s (lS s1 0)])))) [.s s, .i 0] fun (r4 : Nat × List Leaf) =>
 if r4.1 = 0 then
 k (lB r4.2 1)
 else
 F45 _ ((lS r4.2 0).length : Int) 1 8 fun b5 =>
 k b5
def F30 : T30 := P30 F45 
def X30 : Exits := fun i => lookN i [] [(2, [(.ret, xk 23 [(0, .str []), (2, .bool false)] []), (.exit 0, xk 23 [(0, .str [])] [])])]
abbrev s30 : List (Bool × List CK) := [(false, [.str])]
def G30 (F : T30) (β : Type) (e : (List UInt8 × Unit) × Unit) (k : V → Option β) : Option β := F β e.1.1 (fun y1 => k (.bool y1))
abbrev W30 (F : T30) : WT := wrap s30 (G30 F)
theorem k30 (F45 : T45) (β : Type) (e : argsT s30) (k : V → Option β) : fnK cfg (tabL [(45, W45 F45)]) X30 30 Tryd.f30 β (argsEnc s30 e) k = G30 (P30 F45 ) β e k := by kernel_rfl
theorem ok30 : FnOk D 30 (W30 F30) := fn_okW [(45, W45 F45)] X30 (fun _ => rfl) Tryd.func30 rfl (tabL_cons ok45 tabL_nil) (k30 F45 )
theorem okd30 : FnOk D1 30 (W30 F30) := fn_okW [(45, W45 F45)] X30 (fun _ => rfl) Tryd.func30 rfl (tabL_cons okd45 tabL_nil) (k30 F45 )

/-- impl.IsAddr -/
abbrev T31 : Type 1 := (β : Type) → List UInt8 → List UInt8 → (Bool → Option β) → Option β
def P31 (F30 : T30) : T31 := fun β a_Host a_Path k =>
 F30 _ a_Host fun b1 =>
 br b1 (
 F30 _ a_Path fun b2 =>
 k b2) (
 k false)
def F31 : T31 := P31 F30 
abbrev s31 : List (Bool × List CK) := [(true, [.str, .str])]
def G31 (F : T31) (β : Type) (e : (List UInt8 × List UInt8 × Unit) × Unit) (k : V → Option β) : Option β := F β e.1.1 e.1.2.1 (fun y1 => k (.bool y1))
abbrev W31 (F : T31) : WT := wrap s31 (G31 F)
theorem k31 (F30 : T30) (β : Type) (e : argsT s31) (k : V → Option β) : fnK cfg (tabL [(30, W30 F30)]) noX 31 Tryd.f31 β (argsEnc s31 e) k = G31 (P31 F30 ) β e k := by kernel_rfl
theorem ok31 : FnOk D 31 (W31 F31) := fn_okW [(30, W30 F30)] noX (fun _ => rfl) Tryd.func31 rfl (tabL_cons ok30 tabL_nil) (k31 F30 )

/-- impl.areHosts$1 -/
abbrev T86 : Type 1 := (β : Type) → List UInt8 → (Bool → Option β) → Option β
def P86 (F30 : T30) : T86 := fun β s k =>
 F30 _ s fun b1 =>
 k (!b1)
def F86 : T86 := P86 F30 
abbrev s86 : List (Bool × List CK) := [(false, [.str])]
def G86 (F : T86) (β : Type) (e : (List UInt8 × Unit) × Unit) (k : V → Option β) : Option β := F β e.1.1 (fun y1 => k (.bool y1))
abbrev W86 (F : T86) : WT := wrap s86 (G86 F)
theorem k86 (F30 : T30) (β : Type) (e : argsT s86) (k : V → Option β) : fnK cfg (tabL [(30, W30 F30)]) noX 86 Tryd.f86 β (argsEnc s86 e) k = G86 (P86 F30 ) β e k := by kernel_rfl
theorem ok86 : FnOk D 86 (W86 F86) := fn_okW [(30, W30 F30)] noX (fun _ => rfl) Tryd.func86 rfl (tabL_cons ok30 tabL_nil) (k86 F30 )
theorem okd86 : FnOk D1 86 (W86 F86) := fn_okW [(30, W30 F30)] noX (fun _ => rfl) Tryd.func86 rfl (tabL_cons okd30 tabL_nil) (k86 F30 )

/-- slices.IndexFunc[[]string,string] -/
abbrev T94c86 : Type 1 := (β : Type) → List V → (Int → Option β) → Option β
def P94c86 (F86 : T86) : T94c86 := fun β s k =>
 whileK (fun s1 =>
 br (decide ((lI s1 2) < (lI s1 1))) (
 chk (0 ≤ (lI s1 2)) <|
 idx false [.str] (lL s1 0) ((lI s1 2).toNat) fun (e2 : List UInt8 × Unit) =>
 F86 _ e2.1 fun b3 =>
 br b3 (
 some (.inr (0, [.i (lI s1 2)]))) (
 some (.inl [.l (lL s1 0), .i (lI s1 1), .i (IntKind.wrap .i64 ((lI s1 2) + 1))]))) (
 some (.inr (1, [])))) [.l s, .i (s.length : Int), .i 0] fun (r4 : Nat × List Leaf) =>
 if r4.1 = 0 then
 k (lI r4.2 0)
 else
 k (-1)
def F94c86 : T94c86 := P94c86 F86 
def X94c86 : Exits := fun i => lookN i [] [(2, [(.ret, xk 19 [(4, .int .i64 0)] []), (.exit 0, xk 19 [] [])])]
def W94c86 (F : T94c86) : (β : Type) → List V → (V → Option β) → Option β := fun β args k => match args with
 | [.sl 1 true s, .clo 86 []] => F β s (fun y1 => k (.int .i64 y1))
 | _ => none
theorem k94c86 (F86 : T86) {β : Type} (s : List V) (k : V → Option β) : fnK cfg (tabL [(86, W86 F86)]) X94c86 94 Tryd.f94 β [.sl 1 true s, .clo 86 []] k = P94c86 F86 β s (fun y1 => k (.int .i64 y1)) := by kernel_rfl
theorem ok94c86 : FnOk D 94 (W94c86 F94c86) := fn_ok (l := [(86, W86 F86)]) (X := X94c86) (fun _ => rfl) Tryd.func94 rfl (tabL_cons ok86 tabL_nil) (fun β args k r h => by
 unfold W94c86 at h
 split at h
 · rw [← h]; exact k94c86 F86 _ k
 · cases h)
theorem okd94c86 : FnOk D1 94 (W94c86 F94c86) := fn_ok (l := [(86, W86 F86)]) (X := X94c86) (fun _ => rfl) Tryd.func94 rfl (tabL_cons okd86 tabL_nil) (fun β args k r h => by
 unfold W94c86 at h
 split at h
 · rw [← h]; exact k94c86 F86 _ k
 · cases h)

/-- slices.ContainsFunc[[]string,string] -/
abbrev T85c86 : Type 1 := (β : Type) → List V → (Bool → Option β) → Option β
def P85c86 (F94c86 : T94c86) : T85c86 := fun β s k =>
 F94c86 _ s fun n1 =>
 k (decide (n1 ≥ 0))
def F85c86 : T85c86 := P85c86 F94c86 
def W85c86 (F : T85c86) : (β : Type) → List V → (V → Option β) → Option β := fun β args k => match args with
 | [.sl 1 true s, .clo 86 []] => F β s (fun y1 => k (.bool y1))
 | _ => none
theorem k85c86 (F94c86 : T94c86) {β : Type} (s : List V) (k : V → Option β) : fnK cfg (tabL [(94, W94c86 F94c86)]) noX 85 Tryd.f85 β [.sl 1 true s, .clo 86 []] k = P85c86 F94c86 β s (fun y1 => k (.bool y1)) := by kernel_rfl
theorem ok85c86 : FnOk D 85 (W85c86 F85c86) := fn_ok (l := [(94, W94c86 F94c86)]) (X := noX) (fun _ => rfl) Tryd.func85 rfl (tabL_cons ok94c86 tabL_nil) (fun β args k r h => by
 unfold W85c86 at h
 split at h
 · rw [← h]; exact k85c86 F94c86 _ k
 · cases h)
theorem okd85c86 : FnOk D1 85 (W85c86 F85c86) := fn_ok (l := [(94, W94c86 F94c86)]) (X := noX) (fun _ => rfl) Tryd.func85 rfl (tabL_cons okd94c86 tabL_nil) (fun β args k r h => by
 unfold W85c86 at h
 split at h
 · rw [← h]; exact k85c86 F94c86 _ k
 · cases h)

/-- impl.areHosts -/
abbrev T76 : Type 1 := (β : Type) → List V → (Bool → Option β) → Option β
def P76 (F85c86 : T85c86) : T76 := fun β l k =>
 br (decide ((l.length : Int) ≤ 4)) (
 F85c86 _ l fun b1 =>
 k (!b1)) (
 k false)
def F76 : T76 := P76 F85c86 
abbrev s76 : List (Bool × List CK) := [(false, [.sl 1 true])]
def G76 (F : T76) (β : Type) (e : (List V × Unit) × Unit) (k : V → Option β) : Option β := F β e.1.1 (fun y1 => k (.bool y1))
abbrev W76 (F : T76) : WT := wrap s76 (G76 F)
theorem k76 (F85c86 : T85c86) (β : Type) (e : argsT s76) (k : V → Option β) : fnK cfg (tabL [(85, W85c86 F85c86)]) noX 76 Tryd.f76 β (argsEnc s76 e) k = G76 (P76 F85c86 ) β e k := by kernel_rfl
theorem ok76 : FnOk D 76 (W76 F76) := fn_okW [(85, W85c86 F85c86)] noX (fun _ => rfl) Tryd.func76 rfl (tabL_cons ok85c86 tabL_nil) (k76 F85c86 )
theorem okd76 : FnOk D1 76 (W76 F76) := fn_okW [(85, W85c86 F85c86)] noX (fun _ => rfl) Tryd.func76 rfl (tabL_cons okd85c86 tabL_nil) (k76 F85c86 )

/-- impl.IsValue -/
abbrev T77 : Type 1 := (β : Type) → List UInt8 → (Bool → Option β) → Option β
def P77 (F45 : T45) : T77 := fun β s k =>
 whileK (fun s1 =>
 br (decide ((lI s1 1) < ((lS s1 0).length : Int))) (
 idxS (lS s1 0) (lI s1 1) fun b2 =>
 br (decide (b2 ≥ 97)) (
 idxS (lS s1 0) (lI s1 1) fun b3 =>
 br (decide (b3 ≤ 122)) (
 some (.inl [.s (lS s1 0), .i (IntKind.wrap .i64 ((lI s1 1) + 1))])) (
 idxS (lS s1 0) (lI s1 1) fun b4 =>
 br (decide (b4 ≥ 48)) (
 idxS (lS s1 0) (lI s1 1) fun b5 =>
 br (decide (b5 ≤ 57)) (
 some (.inl [.s (lS s1 0), .i (IntKind.wrap .i64 ((lI s1 1) + 1))])) (
 idxS (lS s1 0) (lI s1 1) fun b6 =>
 br (!(b6 == 47)) (
 some (.inr (0, [.s (lS s1 0), .b false]))) (
 some (.inl [.s (lS s1 0), .i (IntKind.wrap .i64 ((lI s1 1) + 1))])))) (
 idxS (lS s1 0) (lI s1 1) fun b7 =>
 br (!(b7 == 47)) (
 some (.inr (0, [.s (lS s1 0), .b false]))) (
 some (.inl [.s (lS s1 0), .i (IntKind.wrap .i64 ((lI s1 1) + 1))]))))) (
 idxS (lS s1 0) (lI s1 1) fun b8 =>
 br (decide (b8 ≥ 48)) (
 idxS (lS s1 0) (lI s1 1) fun b9 =>
 br (decide (b9 ≤ 57)) (
 some (.inl [.s (lS s1 0), .i (IntKind.wrap .i64 ((lI s1 1) + 1))])) (
 idxS (lS s1 0) (lI s1 1) fun b10 =>
 br (!(b10 == 47)) (
 some (.inr (0, [.s (lS s1 0), .b false]))) (
 some (.inl [.s (lS s1 0), .i (IntKind.wrap .i64 ((lI s1 1) + 1))])))) (
 idxS (lS s1 0) (lI s1 1) fun b11 =>
 br (!(b11 == 47)) (
 some (.inr (0, [.s (lS s1 0), .b false]))) (
 some (.inl [.s (lS s1 0), .i (IntKind.wrap .i64 ((lI s1 1) + 1))]))))) (
 some (.inr (1, [.s (lS s1 0)])))) [.s s, .i 0] fun (r12 : Nat × List Leaf) =>
 if r12.1 = 0 then
 k (lB r12.2 1)
 else
 F45 _ ((lS r12.2 0).length : Int) 1 20 fun b13 =>
 k b13
def F77 : T77 := P77 F45 
def X77 : Exits := fun i => lookN i [] [(2, [(.ret, xk 42 [(0, .str []), (2, .bool false)] []), (.exit 0, xk 42 [(0, .str [])] [])])]
abbrev s77 : List (Bool × List CK) := [(false, [.str])]
def G77 (F : T77) (β : Type) (e : (List UInt8 × Unit) × Unit) (k : V → Option β) : Option β := F β e.1.1 (fun y1 => k (.bool y1))
abbrev W77 (F : T77) : WT := wrap s77 (G77 F)
theorem k77 (F45 : T45) (β : Type) (e : argsT s77) (k : V → Option β) : fnK cfg (tabL [(45, W45 F45)]) X77 77 Tryd.f77 β (argsEnc s77 e) k = G77 (P77 F45 ) β e k := by kernel_rfl
theorem ok77 : FnOk D 77 (W77 F77) := fn_okW [(45, W45 F45)] X77 (fun _ => rfl) Tryd.func77 rfl (tabL_cons ok45 tabL_nil) (k77 F45 )
theorem okd77 : FnOk D1 77 (W77 F77) := fn_okW [(45, W45 F45)] X77 (fun _ => rfl) Tryd.func77 rfl (tabL_cons okd45 tabL_nil) (k77 F45 )

/-- impl.IsPolicy -/
abbrev T68 : Type 1 := (β : Type) → Bool → List V → List V → List V → List UInt8 → (Bool → Option β) → Option β
def P68 (F76 : T76) (F77 : T77) : T68 := fun β p_Set p_Scripts p_Styles p_Images p_Nonce k =>
 br (!p_Set) (
 br ((p_Scripts.length : Int) == 0) (
 br ((p_Styles.length : Int) == 0) (
 br ((p_Images.length : Int) == 0) (
 k (p_Nonce == [])) (
 k false)) (
 k false)) (
 k false)) (
 F76 _ p_Scripts fun b1 =>
 br b1 (
 F76 _ p_Styles fun b2 =>
 br b2 (
 F76 _ p_Images fun b3 =>
 br b3 (
 br (p_Nonce == []) (
 k true) (
 F77 _ p_Nonce fun b4 =>
 k b4)) (
 k false)) (
 k false)) (
 k false))
def F68 : T68 := P68 F76 F77 
abbrev s68 : List (Bool × List CK) := [(true, [.bool, .sl 1 true, .sl 1 true, .sl 1 true, .str])]
def G68 (F : T68) (β : Type) (e : (Bool × List V × List V × List V × List UInt8 × Unit) × Unit) (k : V → Option β) : Option β := let a0_0 := e.1; let a0_1 := a0_0.2; let a0_2 := a0_1.2; let a0_3 := a0_2.2; let a0_4 := a0_3.2; F β a0_0.1 a0_1.1 a0_2.1 a0_3.1 a0_4.1 (fun y1 => k (.bool y1))
abbrev W68 (F : T68) : WT := wrap s68 (G68 F)
theorem k68 (F76 : T76) (F77 : T77) (β : Type) (e : argsT s68) (k : V → Option β) : fnK cfg (tabL [(76, W76 F76), (77, W77 F77)]) noX 68 Tryd.f68 β (argsEnc s68 e) k = G68 (P68 F76 F77 ) β e k := by kernel_rfl
theorem ok68 : FnOk D 68 (W68 F68) := fn_okW [(76, W76 F76), (77, W77 F77)] noX (fun _ => rfl) Tryd.func68 rfl (tabL_cons ok76 (tabL_cons ok77 tabL_nil)) (k68 F76 F77 )
theorem okd68 : FnOk D1 68 (W68 F68) := fn_okW [(76, W76 F76), (77, W77 F77)] noX (fun _ => rfl) Tryd.func68 rfl (tabL_cons okd76 (tabL_cons okd77 tabL_nil)) (k68 F76 F77 )

/-- strings.Join -/
abbrev T69 : Type 1 := (β : Type) → List V → List UInt8 → (List UInt8 → Option β) → Option β
def F69 : T69 := joinK
abbrev s69 : List (Bool × List CK) := [(false, [.sl 1 true]), (false, [.str])]
def G69 (F : T69) (β : Type) (e : (List V × Unit) × (List UInt8 × Unit) × Unit) (k : V → Option β) : Option β := F β e.1.1 e.2.1.1 (fun y1 => k (.str y1))
abbrev W69 (F : T69) : WT := wrap s69 (G69 F)
theorem ok69 : FnOk D 69 (W69 F69) := ok_join (fun _ => rfl)
theorem okd69 : FnOk D1 69 (W69 F69) := ok_join (fun _ => rfl)

/-- impl.FormatPolicy -/
abbrev T60 : Type 1 := (β : Type) → Bool → List V → List V → List V → List UInt8 → (List UInt8 → Option β) → Option β
def P60 (F68 : T68) (F69 : T69) : T60 := fun β p_Set p_Scripts p_Styles p_Images p_Nonce k =>
 F68 _ p_Set p_Scripts p_Styles p_Images p_Nonce fun b1 =>
 br (!b1) (
 k []) (
 br (!p_Set) (
 k []) (
 chk ((([.str [115, 99, 114, 105, 112, 116]] : List V).length + p_Scripts.length) * 16 ≤ 140737488355328 ∧ ([.str [115, 99, 114, 105, 112, 116]] : List V).length + p_Scripts.length ≤ 140737488355328) <|
 F69 _ (([.str [115, 99, 114, 105, 112, 116]] : List V) ++ p_Scripts) [32] fun t2 =>
 chk (t2.length + ([59] : List UInt8).length ≤ 9223372036854775807) <|
 chk ((([.str [115, 116, 121, 108, 101]] : List V).length + p_Styles.length) * 16 ≤ 140737488355328 ∧ ([.str [115, 116, 121, 108, 101]] : List V).length + p_Styles.length ≤ 140737488355328) <|
 F69 _ (([.str [115, 116, 121, 108, 101]] : List V) ++ p_Styles) [32] fun t3 =>
 chk ((t2 ++ [59]).length + t3.length ≤ 9223372036854775807) <|
 chk (((t2 ++ [59]) ++ t3).length + ([59] : List UInt8).length ≤ 9223372036854775807) <|
 chk ((([.str [105, 109, 103]] : List V).length + p_Images.length) * 16 ≤ 140737488355328 ∧ ([.str [105, 109, 103]] : List V).length + p_Images.length ≤ 140737488355328) <|
 F69 _ (([.str [105, 109, 103]] : List V) ++ p_Images) [32] fun t4 =>
 chk ((((t2 ++ [59]) ++ t3) ++ [59]).length + t4.length ≤ 9223372036854775807) <|
 br (!(p_Nonce == [])) (
 chk (([59, 110, 111, 110, 99, 101, 32] : List UInt8).length + p_Nonce.length ≤ 9223372036854775807) <|
 chk (((((t2 ++ [59]) ++ t3) ++ [59]) ++ t4).length + ([59, 110, 111, 110, 99, 101, 32] ++ p_Nonce : List UInt8).length ≤ 9223372036854775807) <|
 k (((((t2 ++ [59]) ++ t3) ++ [59]) ++ t4) ++ ([59, 110, 111, 110, 99, 101, 32] ++ p_Nonce))) (
 k ((((t2 ++ [59]) ++ t3) ++ [59]) ++ t4))))
def F60 : T60 := P60 F68 F69 
abbrev s60 : List (Bool × List CK) := [(true, [.bool, .sl 1 true, .sl 1 true, .sl 1 true, .str])]
def G60 (F : T60) (β : Type) (e : (Bool × List V × List V × List V × List UInt8 × Unit) × Unit) (k : V → Option β) : Option β := let a0_0 := e.1; let a0_1 := a0_0.2; let a0_2 := a0_1.2; let a0_3 := a0_2.2; let a0_4 := a0_3.2; F β a0_0.1 a0_1.1 a0_2.1 a0_3.1 a0_4.1 (fun y1 => k (.str y1))
abbrev W60 (F : T60) : WT := wrap s60 (G60 F)
theorem k60 (F68 : T68) (F69 : T69) (β : Type) (e : argsT s60) (k : V → Option β) : fnK cfg (tabL [(68, W68 F68), (69, W69 F69)]) noX 60 Tryd.f60 β (argsEnc s60 e) k = G60 (P60 F68 F69 ) β e k := by kernel_rfl
theorem ok60 : FnOk D 60 (W60 F60) := fn_okW [(68, W68 F68), (69, W69 F69)] noX (fun _ => rfl) Tryd.func60 rfl (tabL_cons ok68 (tabL_cons ok69 tabL_nil)) (k60 F68 F69 )
theorem okd60 : FnOk D1 60 (W60 F60) := fn_okW [(68, W68 F68), (69, W69 F69)] noX (fun _ => rfl) Tryd.func60 rfl (tabL_cons okd68 (tabL_cons okd69 tabL_nil)) (k60 F68 F69 )

/-- impl.copyPolicy -/
abbrev T61 : Type 1 := (β : Type) → Bool → List V → List V → List V → List UInt8 → (Bool → List V → List V → List V → List UInt8 → Option β) → Option β
def P61 : T61 := fun β p_Set p_Scripts p_Styles p_Images p_Nonce k =>
 chk ((([] : List V).length + p_Scripts.length) * 16 ≤ 140737488355328 ∧ ([] : List V).length + p_Scripts.length ≤ 140737488355328) <|
 chk ((([] : List V).length + p_Styles.length) * 16 ≤ 140737488355328 ∧ ([] : List V).length + p_Styles.length ≤ 140737488355328) <|
 chk ((([] : List V).length + p_Images.length) * 16 ≤ 140737488355328 ∧ ([] : List V).length + p_Images.length ≤ 140737488355328) <|
 k p_Set (([] : List V) ++ p_Scripts) (([] : List V) ++ p_Styles) (([] : List V) ++ p_Images) p_Nonce
def F61 : T61 := P61 
abbrev s61 : List (Bool × List CK) := [(true, [.bool, .sl 1 true, .sl 1 true, .sl 1 true, .str])]
def G61 (F : T61) (β : Type) (e : (Bool × List V × List V × List V × List UInt8 × Unit) × Unit) (k : V → Option β) : Option β := let a0_0 := e.1; let a0_1 := a0_0.2; let a0_2 := a0_1.2; let a0_3 := a0_2.2; let a0_4 := a0_3.2; F β a0_0.1 a0_1.1 a0_2.1 a0_3.1 a0_4.1 (fun y1 y2 y3 y4 y5 => k (.agg [.bool y1, .own 1 1 .flat y2, .own 2 1 .flat y3, .own 3 1 .flat y4, .str y5]))
abbrev W61 (F : T61) : WT := wrap s61 (G61 F)
theorem k61 (β : Type) (e : argsT s61) (k : V → Option β) : fnK cfg (tabL []) noX 61 Tryd.f61 β (argsEnc s61 e) k = G61 (P61 ) β e k := by kernel_rfl
theorem ok61 : FnOk D 61 (W61 F61) := fn_okW [] noX (fun _ => rfl) Tryd.func61 rfl (tabL_nil) (k61 )
theorem okd61 : FnOk D1 61 (W61 F61) := fn_okW [] noX (fun _ => rfl) Tryd.func61 rfl (tabL_nil) (k61 )

/-- impl.IsResponse -/
abbrev T32 : Type 1 := (β : Type) → Int → Int → List UInt8 → Int → Bool → List UInt8 → (Bool → Option β) → Option β
def F32 : T32 := respK F60 F61
abbrev s32 : List (Bool × List CK) := [(true, [.int .i64, .int .i64, .str, .int .i64, .bool, .str])]
def G32 (F : T32) (β : Type) (e : (Int × Int × List UInt8 × Int × Bool × List UInt8 × Unit) × Unit) (k : V → Option β) : Option β := let a0_0 := e.1; let a0_1 := a0_0.2; let a0_2 := a0_1.2; let a0_3 := a0_2.2; let a0_4 := a0_3.2; let a0_5 := a0_4.2; F β a0_0.1 a0_1.1 a0_2.1 a0_3.1 a0_4.1 a0_5.1 (fun y1 => k (.bool y1))
abbrev W32 (F : T32) : WT := wrap s32 (G32 F)
theorem ok32 : FnOk D 32 (W32 F32) := ok_resp (Fp := F60) (Cp := F61) (fun _ => rfl) okd60 okd61

/-- impl.entryAt$1 -/
abbrev T48cAs_Ass : Type 1 := (β : Type) → List UInt8 → List UInt8 → List UInt8 → Int → Int → List UInt8 → Int → Bool → List UInt8 → Int → List UInt8 → List UInt8 → List UInt8 → (Bool → Option β) → Option β
def P48cAs_Ass : T48cAs_Ass := fun β e_Top e_To_Host e_To_Path e_Response_Status e_Response_Kind e_Response_Body e_Response_Age e_Response_Shares e_Response_Policy e_Until c1_1 c2_1 c2_2 k =>
 br (e_Top == c1_1) (
 k ((e_To_Host == c2_1) && ((e_To_Path == c2_2) && true))) (
 k false)
def F48cAs_Ass : T48cAs_Ass := P48cAs_Ass 
def W48cAs_Ass (F : T48cAs_Ass) : (β : Type) → List V → (V → Option β) → Option β := fun β args k => match args with
 | [.agg [.str e_Top, .str e_To_Host, .str e_To_Path, .int .i64 e_Response_Status, .int .i64 e_Response_Kind, .str e_Response_Body, .int .i64 e_Response_Age, .bool e_Response_Shares, .str e_Response_Policy, .int .i64 e_Until], .iptr (.agg [.str c1_1]) 0, .iptr (.agg [.str c2_1, .str c2_2]) 0] => F β e_Top e_To_Host e_To_Path e_Response_Status e_Response_Kind e_Response_Body e_Response_Age e_Response_Shares e_Response_Policy e_Until c1_1 c2_1 c2_2 (fun y1 => k (.bool y1))
 | _ => none
theorem k48cAs_Ass {β : Type} (e_Top : List UInt8) (e_To_Host : List UInt8) (e_To_Path : List UInt8) (e_Response_Status : Int) (e_Response_Kind : Int) (e_Response_Body : List UInt8) (e_Response_Age : Int) (e_Response_Shares : Bool) (e_Response_Policy : List UInt8) (e_Until : Int) (c1_1 : List UInt8) (c2_1 : List UInt8) (c2_2 : List UInt8) (k : V → Option β) : fnK cfg (tabL []) noX 48 Tryd.f48 β [.agg [.str e_Top, .str e_To_Host, .str e_To_Path, .int .i64 e_Response_Status, .int .i64 e_Response_Kind, .str e_Response_Body, .int .i64 e_Response_Age, .bool e_Response_Shares, .str e_Response_Policy, .int .i64 e_Until], .iptr (.agg [.str c1_1]) 0, .iptr (.agg [.str c2_1, .str c2_2]) 0] k = P48cAs_Ass β e_Top e_To_Host e_To_Path e_Response_Status e_Response_Kind e_Response_Body e_Response_Age e_Response_Shares e_Response_Policy e_Until c1_1 c2_1 c2_2 (fun y1 => k (.bool y1)) := by kernel_rfl
theorem ok48cAs_Ass : FnOk D 48 (W48cAs_Ass F48cAs_Ass) := fn_ok (l := []) (X := noX) (fun _ => rfl) Tryd.func48 rfl (tabL_nil) (fun β args k r h => by
 unfold W48cAs_Ass at h
 split at h
 · rw [← h]; exact k48cAs_Ass _ _ _ _ _ _ _ _ _ _ _ _ _ k
 · cases h)

/-- slices.IndexFunc[[]impl.Entry,impl.Entry] -/
abbrev T47c48 : Type 1 := (β : Type) → List V → List UInt8 → List UInt8 → List UInt8 → (Int → Option β) → Option β
def P47c48 (F48cAs_Ass : T48cAs_Ass) : T47c48 := fun β s f_1 f_2 f_3 k =>
 whileK (fun s1 =>
 br (decide ((lI s1 5) < (lI s1 4))) (
 chk (0 ≤ (lI s1 5)) <|
 idx true [.str, .str, .str, .int .i64, .int .i64, .str, .int .i64, .bool, .str, .int .i64] (lL s1 0) ((lI s1 5).toNat) fun (e2 : List UInt8 × List UInt8 × List UInt8 × Int × Int × List UInt8 × Int × Bool × List UInt8 × Int × Unit) =>
 F48cAs_Ass _ e2.1 e2.2.1 e2.2.2.1 e2.2.2.2.1 e2.2.2.2.2.1 e2.2.2.2.2.2.1 e2.2.2.2.2.2.2.1 e2.2.2.2.2.2.2.2.1 e2.2.2.2.2.2.2.2.2.1 e2.2.2.2.2.2.2.2.2.2.1 (lS s1 1) (lS s1 2) (lS s1 3) fun b3 =>
 br b3 (
 some (.inr (0, [.i (lI s1 5)]))) (
 some (.inl [.l (lL s1 0), .s (lS s1 1), .s (lS s1 2), .s (lS s1 3), .i (lI s1 4), .i (IntKind.wrap .i64 ((lI s1 5) + 1))]))) (
 some (.inr (1, [])))) [.l s, .s f_1, .s f_2, .s f_3, .i (s.length : Int), .i 0] fun (r4 : Nat × List Leaf) =>
 if r4.1 = 0 then
 k (lI r4.2 0)
 else
 k (-1)
def F47c48 : T47c48 := P47c48 F48cAs_Ass 
def X47c48 : Exits := fun i => lookN i [] [(2, [(.ret, xk 19 [(4, .int .i64 0)] []), (.exit 0, xk 19 [] [])])]
def W47c48 (F : T47c48) : (β : Type) → List V → (V → Option β) → Option β := fun β args k => match args with
 | [.sl 10 true s, .clo 48 [.iptr (.agg [.str f_1]) 0, .iptr (.agg [.str f_2, .str f_3]) 0]] => F β s f_1 f_2 f_3 (fun y1 => k (.int .i64 y1))
 | _ => none
theorem k47c48 (F48cAs_Ass : T48cAs_Ass) {β : Type} (s : List V) (f_1 : List UInt8) (f_2 : List UInt8) (f_3 : List UInt8) (k : V → Option β) : fnK cfg (tabL [(48, W48cAs_Ass F48cAs_Ass)]) X47c48 47 Tryd.f47 β [.sl 10 true s, .clo 48 [.iptr (.agg [.str f_1]) 0, .iptr (.agg [.str f_2, .str f_3]) 0]] k = P47c48 F48cAs_Ass β s f_1 f_2 f_3 (fun y1 => k (.int .i64 y1)) := by kernel_rfl
theorem ok47c48 : FnOk D 47 (W47c48 F47c48) := fn_ok (l := [(48, W48cAs_Ass F48cAs_Ass)]) (X := X47c48) (fun _ => rfl) Tryd.func47 rfl (tabL_cons ok48cAs_Ass tabL_nil) (fun β args k r h => by
 unfold W47c48 at h
 split at h
 · rw [← h]; exact k47c48 F48cAs_Ass _ _ _ _ k
 · cases h)

/-- impl.entryAt -/
abbrev T33 : Type 1 := (β : Type) → List V → List UInt8 → List UInt8 → List UInt8 → (Int → Option β) → Option β
def P33 (F47c48 : T47c48) : T33 := fun β c_Entries top a_Host a_Path k =>
 F47c48 _ c_Entries top a_Host a_Path fun n1 =>
 k n1
def F33 : T33 := P33 F47c48 
abbrev s33 : List (Bool × List CK) := [(true, [.sl 10 true]), (false, [.str]), (true, [.str, .str])]
def G33 (F : T33) (β : Type) (e : (List V × Unit) × (List UInt8 × Unit) × (List UInt8 × List UInt8 × Unit) × Unit) (k : V → Option β) : Option β := F β e.1.1 e.2.1.1 e.2.2.1.1 e.2.2.1.2.1 (fun y1 => k (.int .i64 y1))
abbrev W33 (F : T33) : WT := wrap s33 (G33 F)
theorem k33 (F47c48 : T47c48) (β : Type) (e : argsT s33) (k : V → Option β) : fnK cfg (tabL [(47, W47c48 F47c48)]) noX 33 Tryd.f33 β (argsEnc s33 e) k = G33 (P33 F47c48 ) β e k := by kernel_rfl
theorem ok33 : FnOk D 33 (W33 F33) := fn_okW [(47, W47c48 F47c48)] noX (fun _ => rfl) Tryd.func33 rfl (tabL_cons ok47c48 tabL_nil) (k33 F47c48 )

/-- impl.IsCache -/
abbrev T16 : Type 1 := (β : Type) → List V → (Bool → Option β) → Option β
def P16 (F30 : T30) (F31 : T31) (F32 : T32) (F33 : T33) : T16 := fun β c_Entries k =>
 whileK (fun s1 =>
 br (decide ((lI s1 2) < (lI s1 1))) (
 chk (0 ≤ (lI s1 2)) <|
 idx true [.str, .str, .str, .int .i64, .int .i64, .str, .int .i64, .bool, .str, .int .i64] (lL s1 0) ((lI s1 2).toNat) fun (e2 : List UInt8 × List UInt8 × List UInt8 × Int × Int × List UInt8 × Int × Bool × List UInt8 × Int × Unit) =>
 F30 _ e2.1 fun b3 =>
 br (!b3) (
 some (.inr (0, [.b false, .l (lL s1 3)]))) (
 F31 _ e2.2.1 e2.2.2.1 fun b4 =>
 br (!b4) (
 some (.inr (0, [.b false, .l (lL s1 3)]))) (
 F32 _ e2.2.2.2.1 e2.2.2.2.2.1 e2.2.2.2.2.2.1 e2.2.2.2.2.2.2.1 e2.2.2.2.2.2.2.2.1 e2.2.2.2.2.2.2.2.2.1 fun b5 =>
 br (!b5) (
 some (.inr (0, [.b false, .l (lL s1 3)]))) (
 br (e2.2.2.2.1 != 200) (
 some (.inr (0, [.b false, .l (lL s1 3)]))) (
 F33 _ (lL s1 3) e2.1 e2.2.1 e2.2.2.1 fun n6 =>
 br (n6 != (lI s1 2)) (
 some (.inr (0, [.b false, .l (lL s1 3)]))) (
 some (.inl [.l (lL s1 0), .i (lI s1 1), .i (IntKind.wrap .i64 ((lI s1 2) + 1)), .l (lL s1 3)]))))))) (
 some (.inr (1, [.l (lL s1 3)])))) [.l c_Entries, .i (c_Entries.length : Int), .i 0, .l c_Entries] fun (r7 : Nat × List Leaf) =>
 if r7.1 = 0 then
 k (lB r7.2 0)
 else
 k (decide (((lL r7.2 0).length : Int) ≤ 100))
def F16 : T16 := P16 F30 F31 F32 F33 
def X16 : Exits := fun i => lookN i [] [(2, [(.ret, xk 50 [(1, .ptr 1 0), (2, .bool false)] [(1, .agg [.sl 10 true []])]), (.exit 0, xk 50 [(1, .ptr 1 0)] [(1, .agg [.sl 10 true []])])])]
abbrev s16 : List (Bool × List CK) := [(true, [.sl 10 true])]
def G16 (F : T16) (β : Type) (e : (List V × Unit) × Unit) (k : V → Option β) : Option β := F β e.1.1 (fun y1 => k (.bool y1))
abbrev W16 (F : T16) : WT := wrap s16 (G16 F)
theorem k16 (F30 : T30) (F31 : T31) (F32 : T32) (F33 : T33) (β : Type) (e : argsT s16) (k : V → Option β) : fnK cfg (tabL [(30, W30 F30), (31, W31 F31), (32, W32 F32), (33, W33 F33)]) X16 16 Tryd.f16 β (argsEnc s16 e) k = G16 (P16 F30 F31 F32 F33 ) β e k := by kernel_rfl
theorem ok16 : FnOk D 16 (W16 F16) := fn_okW [(30, W30 F30), (31, W31 F31), (32, W32 F32), (33, W33 F33)] X16 (fun _ => rfl) Tryd.func16 rfl (tabL_cons ok30 (tabL_cons ok31 (tabL_cons ok32 (tabL_cons ok33 tabL_nil)))) (k16 F30 F31 F32 F33 )

/-- impl.CacheSound -/
abbrev T7 : Type 1 := (β : Type) → List V → List V → List V → Int → (Bool → Option β) → Option β
def P7 (F16 : T16) : T7 := fun β n_Servers n_Cache_Entries n_Log n_Now k =>
 whileK (fun s1 =>
 br (decide ((lI s1 2) < (lI s1 1))) (
 chk (0 ≤ (lI s1 2)) <|
 idx true [.str, .str, .str, .int .i64, .int .i64, .str, .int .i64, .bool, .str, .int .i64] (lL s1 0) ((lI s1 2).toNat) fun (e2 : List UInt8 × List UInt8 × List UInt8 × Int × Int × List UInt8 × Int × Bool × List UInt8 × Int × Unit) =>
 br (decide (e2.2.2.2.2.2.2.2.2.2.1 > IntKind.wrap .i64 ((lI s1 6) + 1000))) (
 some (.inr (0, [.b false, .l (lL s1 3), .l (lL s1 4), .l (lL s1 5), .i (lI s1 6)]))) (
 some (.inl [.l (lL s1 0), .i (lI s1 1), .i (IntKind.wrap .i64 ((lI s1 2) + 1)), .l (lL s1 3), .l (lL s1 4), .l (lL s1 5), .i (lI s1 6)]))) (
 some (.inr (1, [.l (lL s1 3), .l (lL s1 4), .l (lL s1 5), .i (lI s1 6)])))) [.l n_Cache_Entries, .i (n_Cache_Entries.length : Int), .i 0, .l n_Servers, .l n_Cache_Entries, .l n_Log, .i n_Now] fun (r3 : Nat × List Leaf) =>
 if r3.1 = 0 then
 k (lB r3.2 0)
 else
 F16 _ (lL r3.2 1) fun b4 =>
 k b4
def F7 : T7 := P7 F16 
def X7 : Exits := fun i => lookN i [] [(2, [(.ret, xk 23 [(1, .ptr 1 0), (2, .bool false)] [(1, .agg [.sl 2 false [], .sl 10 true [], .sl 4 true [], .int .i64 0])]), (.exit 0, xk 23 [(1, .ptr 1 0)] [(1, .agg [.sl 2 false [], .sl 10 true [], .sl 4 true [], .int .i64 0])])])]
abbrev s7 : List (Bool × List CK) := [(true, [.sl 2 false, .sl 10 true, .sl 4 true, .int .i64])]
def G7 (F : T7) (β : Type) (e : (List V × List V × List V × Int × Unit) × Unit) (k : V → Option β) : Option β := F β e.1.1 e.1.2.1 e.1.2.2.1 e.1.2.2.2.1 (fun y1 => k (.bool y1))
abbrev W7 (F : T7) : WT := wrap s7 (G7 F)
theorem k7 (F16 : T16) (β : Type) (e : argsT s7) (k : V → Option β) : fnK cfg (tabL [(16, W16 F16)]) X7 7 Tryd.f7 β (argsEnc s7 e) k = G7 (P7 F16 ) β e k := by kernel_rfl
theorem ok7 : FnOk D 7 (W7 F7) := fn_okW [(16, W16 F16)] X7 (fun _ => rfl) Tryd.func7 rfl (tabL_cons ok16 tabL_nil) (k7 F16 )

/-- laws.eqResponse -/
abbrev T63 : Type 1 := (β : Type) → Int → Int → List UInt8 → Int → Bool → List UInt8 → Int → Int → List UInt8 → Int → Bool → List UInt8 → (Bool → Option β) → Option β
def P63 : T63 := fun β a_Status a_Kind a_Body a_Age a_Shares a_Policy b_Status b_Kind b_Body b_Age b_Shares b_Policy k =>
 br (a_Status != b_Status) (
 k false) (
 br (a_Kind != b_Kind) (
 k false) (
 br (!(a_Body == b_Body)) (
 k false) (
 br (a_Age != b_Age) (
 k false) (
 br (!(a_Shares == b_Shares)) (
 k false) (
 br (!(a_Policy == b_Policy)) (
 k false) (
 k true))))))
def F63 : T63 := P63 
abbrev s63 : List (Bool × List CK) := [(true, [.int .i64, .int .i64, .str, .int .i64, .bool, .str]), (true, [.int .i64, .int .i64, .str, .int .i64, .bool, .str])]
def G63 (F : T63) (β : Type) (e : (Int × Int × List UInt8 × Int × Bool × List UInt8 × Unit) × (Int × Int × List UInt8 × Int × Bool × List UInt8 × Unit) × Unit) (k : V → Option β) : Option β := let a0_0 := e.1; let a0_1 := a0_0.2; let a0_2 := a0_1.2; let a0_3 := a0_2.2; let a0_4 := a0_3.2; let a0_5 := a0_4.2; let a1_0 := e.2.1; let a1_1 := a1_0.2; let a1_2 := a1_1.2; let a1_3 := a1_2.2; let a1_4 := a1_3.2; let a1_5 := a1_4.2; F β a0_0.1 a0_1.1 a0_2.1 a0_3.1 a0_4.1 a0_5.1 a1_0.1 a1_1.1 a1_2.1 a1_3.1 a1_4.1 a1_5.1 (fun y1 => k (.bool y1))
abbrev W63 (F : T63) : WT := wrap s63 (G63 F)
theorem k63 (β : Type) (e : argsT s63) (k : V → Option β) : fnK cfg (tabL []) noX 63 Tryd.f63 β (argsEnc s63 e) k = G63 (P63 ) β e k := by kernel_rfl
theorem ok63 : FnOk D 63 (W63 F63) := fn_okW [] noX (fun _ => rfl) Tryd.func63 rfl (tabL_nil) (k63 )

/-- laws.eqFile -/
abbrev T62 : Type 1 := (β : Type) → List UInt8 → Int → Int → List UInt8 → Int → Bool → List UInt8 → List UInt8 → Int → Int → List UInt8 → Int → Bool → List UInt8 → (Bool → Option β) → Option β
def P62 (F63 : T63) : T62 := fun β a_Path a_Response_Status a_Response_Kind a_Response_Body a_Response_Age a_Response_Shares a_Response_Policy b_Path b_Response_Status b_Response_Kind b_Response_Body b_Response_Age b_Response_Shares b_Response_Policy k =>
 br (!(a_Path == b_Path)) (
 k false) (
 F63 _ a_Response_Status a_Response_Kind a_Response_Body a_Response_Age a_Response_Shares a_Response_Policy b_Response_Status b_Response_Kind b_Response_Body b_Response_Age b_Response_Shares b_Response_Policy fun b1 =>
 br (!b1) (
 k false) (
 k true))
def F62 : T62 := P62 F63 
abbrev s62 : List (Bool × List CK) := [(true, [.str, .int .i64, .int .i64, .str, .int .i64, .bool, .str]), (true, [.str, .int .i64, .int .i64, .str, .int .i64, .bool, .str])]
def G62 (F : T62) (β : Type) (e : (List UInt8 × Int × Int × List UInt8 × Int × Bool × List UInt8 × Unit) × (List UInt8 × Int × Int × List UInt8 × Int × Bool × List UInt8 × Unit) × Unit) (k : V → Option β) : Option β := let a0_0 := e.1; let a0_1 := a0_0.2; let a0_2 := a0_1.2; let a0_3 := a0_2.2; let a0_4 := a0_3.2; let a0_5 := a0_4.2; let a0_6 := a0_5.2; let a1_0 := e.2.1; let a1_1 := a1_0.2; let a1_2 := a1_1.2; let a1_3 := a1_2.2; let a1_4 := a1_3.2; let a1_5 := a1_4.2; let a1_6 := a1_5.2; F β a0_0.1 a0_1.1 a0_2.1 a0_3.1 a0_4.1 a0_5.1 a0_6.1 a1_0.1 a1_1.1 a1_2.1 a1_3.1 a1_4.1 a1_5.1 a1_6.1 (fun y1 => k (.bool y1))
abbrev W62 (F : T62) : WT := wrap s62 (G62 F)
theorem k62 (F63 : T63) (β : Type) (e : argsT s62) (k : V → Option β) : fnK cfg (tabL [(63, W63 F63)]) noX 62 Tryd.f62 β (argsEnc s62 e) k = G62 (P62 F63 ) β e k := by kernel_rfl
theorem ok62 : FnOk D 62 (W62 F62) := fn_okW [(63, W63 F63)] noX (fun _ => rfl) Tryd.func62 rfl (tabL_cons ok63 tabL_nil) (k62 F63 )

/-- laws.eqFileS -/
abbrev T49 : Type 1 := (β : Type) → List V → List V → (Bool → Option β) → Option β
def P49 (F62 : T62) : T49 := fun β a b k =>
 br ((a.length : Int) != (b.length : Int)) (
 k false) (
 whileK (fun s1 =>
 br (decide ((lI s1 2) < ((lL s1 0).length : Int))) (
 chk (0 ≤ (lI s1 2)) <|
 idx true [.str, .int .i64, .int .i64, .str, .int .i64, .bool, .str] (lL s1 0) ((lI s1 2).toNat) fun (e2 : List UInt8 × Int × Int × List UInt8 × Int × Bool × List UInt8 × Unit) =>
 chk (0 ≤ (lI s1 2)) <|
 idx true [.str, .int .i64, .int .i64, .str, .int .i64, .bool, .str] (lL s1 1) ((lI s1 2).toNat) fun (e3 : List UInt8 × Int × Int × List UInt8 × Int × Bool × List UInt8 × Unit) =>
 F62 _ e2.1 e2.2.1 e2.2.2.1 e2.2.2.2.1 e2.2.2.2.2.1 e2.2.2.2.2.2.1 e2.2.2.2.2.2.2.1 e3.1 e3.2.1 e3.2.2.1 e3.2.2.2.1 e3.2.2.2.2.1 e3.2.2.2.2.2.1 e3.2.2.2.2.2.2.1 fun b4 =>
 br (!b4) (
 some (.inr (0, [.b false]))) (
 some (.inl [.l (lL s1 0), .l (lL s1 1), .i (IntKind.wrap .i64 ((lI s1 2) + 1))]))) (
 some (.inr (1, [])))) [.l a, .l b, .i 0] fun (r5 : Nat × List Leaf) =>
 if r5.1 = 0 then
 k (lB r5.2 0)
 else
 k true)
def F49 : T49 := P49 F62 
def X49 : Exits := fun i => lookN i [] [(4, [(.ret, xk 27 [(4, .bool false)] []), (.exit 0, xk 27 [] [])])]
abbrev s49 : List (Bool × List CK) := [(false, [.sl 7 true]), (false, [.sl 7 true])]
def G49 (F : T49) (β : Type) (e : (List V × Unit) × (List V × Unit) × Unit) (k : V → Option β) : Option β := F β e.1.1 e.2.1.1 (fun y1 => k (.bool y1))
abbrev W49 (F : T49) : WT := wrap s49 (G49 F)
theorem k49 (F62 : T62) (β : Type) (e : argsT s49) (k : V → Option β) : fnK cfg (tabL [(62, W62 F62)]) X49 49 Tryd.f49 β (argsEnc s49 e) k = G49 (P49 F62 ) β e k := by kernel_rfl
theorem ok49 : FnOk D 49 (W49 F49) := fn_okW [(62, W62 F62)] X49 (fun _ => rfl) Tryd.func49 rfl (tabL_cons ok62 tabL_nil) (k49 F62 )

/-- laws.eqServer -/
abbrev T34 : Type 1 := (β : Type) → List UInt8 → List V → List UInt8 → List V → (Bool → Option β) → Option β
def P34 (F49 : T49) : T34 := fun β a_Host a_Files b_Host b_Files k =>
 br (!(a_Host == b_Host)) (
 k false) (
 F49 _ a_Files b_Files fun b1 =>
 br (!b1) (
 k false) (
 k true))
def F34 : T34 := P34 F49 
abbrev s34 : List (Bool × List CK) := [(true, [.str, .sl 7 true]), (true, [.str, .sl 7 true])]
def G34 (F : T34) (β : Type) (e : (List UInt8 × List V × Unit) × (List UInt8 × List V × Unit) × Unit) (k : V → Option β) : Option β := F β e.1.1 e.1.2.1 e.2.1.1 e.2.1.2.1 (fun y1 => k (.bool y1))
abbrev W34 (F : T34) : WT := wrap s34 (G34 F)
theorem k34 (F49 : T49) (β : Type) (e : argsT s34) (k : V → Option β) : fnK cfg (tabL [(49, W49 F49)]) noX 34 Tryd.f34 β (argsEnc s34 e) k = G34 (P34 F49 ) β e k := by kernel_rfl
theorem ok34 : FnOk D 34 (W34 F34) := fn_okW [(49, W49 F49)] noX (fun _ => rfl) Tryd.func34 rfl (tabL_cons ok49 tabL_nil) (k34 F49 )

/-- laws.eqServerS -/
abbrev T17 : Type 1 := (β : Type) → List V → List V → (Bool → Option β) → Option β
def P17 (F34 : T34) : T17 := fun β a b k =>
 br ((a.length : Int) != (b.length : Int)) (
 k false) (
 whileK (fun s1 =>
 br (decide ((lI s1 2) < ((lL s1 0).length : Int))) (
 chk (0 ≤ (lI s1 2)) <|
 idx true [.str, .sl 7 true] (lL s1 0) ((lI s1 2).toNat) fun (e2 : List UInt8 × List V × Unit) =>
 chk (0 ≤ (lI s1 2)) <|
 idx true [.str, .sl 7 true] (lL s1 1) ((lI s1 2).toNat) fun (e3 : List UInt8 × List V × Unit) =>
 F34 _ e2.1 e2.2.1 e3.1 e3.2.1 fun b4 =>
 br (!b4) (
 some (.inr (0, [.b false]))) (
 some (.inl [.l (lL s1 0), .l (lL s1 1), .i (IntKind.wrap .i64 ((lI s1 2) + 1))]))) (
 some (.inr (1, [])))) [.l a, .l b, .i 0] fun (r5 : Nat × List Leaf) =>
 if r5.1 = 0 then
 k (lB r5.2 0)
 else
 k true)
def F17 : T17 := P17 F34 
def X17 : Exits := fun i => lookN i [] [(4, [(.ret, xk 27 [(4, .bool false)] []), (.exit 0, xk 27 [] [])])]
abbrev s17 : List (Bool × List CK) := [(false, [.sl 2 false]), (false, [.sl 2 false])]
def G17 (F : T17) (β : Type) (e : (List V × Unit) × (List V × Unit) × Unit) (k : V → Option β) : Option β := F β e.1.1 e.2.1.1 (fun y1 => k (.bool y1))
abbrev W17 (F : T17) : WT := wrap s17 (G17 F)
theorem k17 (F34 : T34) (β : Type) (e : argsT s17) (k : V → Option β) : fnK cfg (tabL [(34, W34 F34)]) X17 17 Tryd.f17 β (argsEnc s17 e) k = G17 (P17 F34 ) β e k := by kernel_rfl
theorem ok17 : FnOk D 17 (W17 F17) := fn_okW [(34, W34 F34)] X17 (fun _ => rfl) Tryd.func17 rfl (tabL_cons ok34 tabL_nil) (k17 F34 )

/-- laws.eqAddr -/
abbrev T51 : Type 1 := (β : Type) → List UInt8 → List UInt8 → List UInt8 → List UInt8 → (Bool → Option β) → Option β
def P51 : T51 := fun β a_Host a_Path b_Host b_Path k =>
 br (!(a_Host == b_Host)) (
 k false) (
 br (!(a_Path == b_Path)) (
 k false) (
 k true))
def F51 : T51 := P51 
abbrev s51 : List (Bool × List CK) := [(true, [.str, .str]), (true, [.str, .str])]
def G51 (F : T51) (β : Type) (e : (List UInt8 × List UInt8 × Unit) × (List UInt8 × List UInt8 × Unit) × Unit) (k : V → Option β) : Option β := F β e.1.1 e.1.2.1 e.2.1.1 e.2.1.2.1 (fun y1 => k (.bool y1))
abbrev W51 (F : T51) : WT := wrap s51 (G51 F)
theorem k51 (β : Type) (e : argsT s51) (k : V → Option β) : fnK cfg (tabL []) noX 51 Tryd.f51 β (argsEnc s51 e) k = G51 (P51 ) β e k := by kernel_rfl
theorem ok51 : FnOk D 51 (W51 F51) := fn_okW [] noX (fun _ => rfl) Tryd.func51 rfl (tabL_nil) (k51 )

/-- laws.eqEntry -/
abbrev T50 : Type 1 := (β : Type) → List UInt8 → List UInt8 → List UInt8 → Int → Int → List UInt8 → Int → Bool → List UInt8 → Int → List UInt8 → List UInt8 → List UInt8 → Int → Int → List UInt8 → Int → Bool → List UInt8 → Int → (Bool → Option β) → Option β
def P50 (F51 : T51) (F63 : T63) : T50 := fun β a_Top a_To_Host a_To_Path a_Response_Status a_Response_Kind a_Response_Body a_Response_Age a_Response_Shares a_Response_Policy a_Until b_Top b_To_Host b_To_Path b_Response_Status b_Response_Kind b_Response_Body b_Response_Age b_Response_Shares b_Response_Policy b_Until k =>
 br (!(a_Top == b_Top)) (
 k false) (
 F51 _ a_To_Host a_To_Path b_To_Host b_To_Path fun b1 =>
 br (!b1) (
 k false) (
 F63 _ a_Response_Status a_Response_Kind a_Response_Body a_Response_Age a_Response_Shares a_Response_Policy b_Response_Status b_Response_Kind b_Response_Body b_Response_Age b_Response_Shares b_Response_Policy fun b2 =>
 br (!b2) (
 k false) (
 br (a_Until != b_Until) (
 k false) (
 k true))))
def F50 : T50 := P50 F51 F63 
abbrev s50 : List (Bool × List CK) := [(true, [.str, .str, .str, .int .i64, .int .i64, .str, .int .i64, .bool, .str, .int .i64]), (true, [.str, .str, .str, .int .i64, .int .i64, .str, .int .i64, .bool, .str, .int .i64])]
def G50 (F : T50) (β : Type) (e : (List UInt8 × List UInt8 × List UInt8 × Int × Int × List UInt8 × Int × Bool × List UInt8 × Int × Unit) × (List UInt8 × List UInt8 × List UInt8 × Int × Int × List UInt8 × Int × Bool × List UInt8 × Int × Unit) × Unit) (k : V → Option β) : Option β := let a0_0 := e.1; let a0_1 := a0_0.2; let a0_2 := a0_1.2; let a0_3 := a0_2.2; let a0_4 := a0_3.2; let a0_5 := a0_4.2; let a0_6 := a0_5.2; let a0_7 := a0_6.2; let a0_8 := a0_7.2; let a0_9 := a0_8.2; let a1_0 := e.2.1; let a1_1 := a1_0.2; let a1_2 := a1_1.2; let a1_3 := a1_2.2; let a1_4 := a1_3.2; let a1_5 := a1_4.2; let a1_6 := a1_5.2; let a1_7 := a1_6.2; let a1_8 := a1_7.2; let a1_9 := a1_8.2; F β a0_0.1 a0_1.1 a0_2.1 a0_3.1 a0_4.1 a0_5.1 a0_6.1 a0_7.1 a0_8.1 a0_9.1 a1_0.1 a1_1.1 a1_2.1 a1_3.1 a1_4.1 a1_5.1 a1_6.1 a1_7.1 a1_8.1 a1_9.1 (fun y1 => k (.bool y1))
abbrev W50 (F : T50) : WT := wrap s50 (G50 F)
theorem k50 (F51 : T51) (F63 : T63) (β : Type) (e : argsT s50) (k : V → Option β) : fnK cfg (tabL [(51, W51 F51), (63, W63 F63)]) noX 50 Tryd.f50 β (argsEnc s50 e) k = G50 (P50 F51 F63 ) β e k := by kernel_rfl
theorem ok50 : FnOk D 50 (W50 F50) := fn_okW [(51, W51 F51), (63, W63 F63)] noX (fun _ => rfl) Tryd.func50 rfl (tabL_cons ok51 (tabL_cons ok63 tabL_nil)) (k50 F51 F63 )

/-- laws.eqEntryS -/
abbrev T35 : Type 1 := (β : Type) → List V → List V → (Bool → Option β) → Option β
def P35 (F50 : T50) : T35 := fun β a b k =>
 br ((a.length : Int) != (b.length : Int)) (
 k false) (
 whileK (fun s1 =>
 br (decide ((lI s1 2) < ((lL s1 0).length : Int))) (
 chk (0 ≤ (lI s1 2)) <|
 idx true [.str, .str, .str, .int .i64, .int .i64, .str, .int .i64, .bool, .str, .int .i64] (lL s1 0) ((lI s1 2).toNat) fun (e2 : List UInt8 × List UInt8 × List UInt8 × Int × Int × List UInt8 × Int × Bool × List UInt8 × Int × Unit) =>
 chk (0 ≤ (lI s1 2)) <|
 idx true [.str, .str, .str, .int .i64, .int .i64, .str, .int .i64, .bool, .str, .int .i64] (lL s1 1) ((lI s1 2).toNat) fun (e3 : List UInt8 × List UInt8 × List UInt8 × Int × Int × List UInt8 × Int × Bool × List UInt8 × Int × Unit) =>
 F50 _ e2.1 e2.2.1 e2.2.2.1 e2.2.2.2.1 e2.2.2.2.2.1 e2.2.2.2.2.2.1 e2.2.2.2.2.2.2.1 e2.2.2.2.2.2.2.2.1 e2.2.2.2.2.2.2.2.2.1 e2.2.2.2.2.2.2.2.2.2.1 e3.1 e3.2.1 e3.2.2.1 e3.2.2.2.1 e3.2.2.2.2.1 e3.2.2.2.2.2.1 e3.2.2.2.2.2.2.1 e3.2.2.2.2.2.2.2.1 e3.2.2.2.2.2.2.2.2.1 e3.2.2.2.2.2.2.2.2.2.1 fun b4 =>
 br (!b4) (
 some (.inr (0, [.b false]))) (
 some (.inl [.l (lL s1 0), .l (lL s1 1), .i (IntKind.wrap .i64 ((lI s1 2) + 1))]))) (
 some (.inr (1, [])))) [.l a, .l b, .i 0] fun (r5 : Nat × List Leaf) =>
 if r5.1 = 0 then
 k (lB r5.2 0)
 else
 k true)
def F35 : T35 := P35 F50 
def X35 : Exits := fun i => lookN i [] [(4, [(.ret, xk 27 [(4, .bool false)] []), (.exit 0, xk 27 [] [])])]
abbrev s35 : List (Bool × List CK) := [(false, [.sl 10 true]), (false, [.sl 10 true])]
def G35 (F : T35) (β : Type) (e : (List V × Unit) × (List V × Unit) × Unit) (k : V → Option β) : Option β := F β e.1.1 e.2.1.1 (fun y1 => k (.bool y1))
abbrev W35 (F : T35) : WT := wrap s35 (G35 F)
theorem k35 (F50 : T50) (β : Type) (e : argsT s35) (k : V → Option β) : fnK cfg (tabL [(50, W50 F50)]) X35 35 Tryd.f35 β (argsEnc s35 e) k = G35 (P35 F50 ) β e k := by kernel_rfl
theorem ok35 : FnOk D 35 (W35 F35) := fn_okW [(50, W50 F50)] X35 (fun _ => rfl) Tryd.func35 rfl (tabL_cons ok50 tabL_nil) (k35 F50 )

/-- laws.eqCache -/
abbrev T18 : Type 1 := (β : Type) → List V → List V → (Bool → Option β) → Option β
def P18 (F35 : T35) : T18 := fun β a_Entries b_Entries k =>
 F35 _ a_Entries b_Entries fun b1 =>
 br (!b1) (
 k false) (
 k true)
def F18 : T18 := P18 F35 
abbrev s18 : List (Bool × List CK) := [(true, [.sl 10 true]), (true, [.sl 10 true])]
def G18 (F : T18) (β : Type) (e : (List V × Unit) × (List V × Unit) × Unit) (k : V → Option β) : Option β := F β e.1.1 e.2.1.1 (fun y1 => k (.bool y1))
abbrev W18 (F : T18) : WT := wrap s18 (G18 F)
theorem k18 (F35 : T35) (β : Type) (e : argsT s18) (k : V → Option β) : fnK cfg (tabL [(35, W35 F35)]) noX 18 Tryd.f18 β (argsEnc s18 e) k = G18 (P18 F35 ) β e k := by kernel_rfl
theorem ok18 : FnOk D 18 (W18 F18) := fn_okW [(35, W35 F35)] noX (fun _ => rfl) Tryd.func18 rfl (tabL_cons ok35 tabL_nil) (k18 F35 )

/-- laws.eqSent -/
abbrev T36 : Type 1 := (β : Type) → List UInt8 → List UInt8 → List UInt8 → Bool → List UInt8 → List UInt8 → List UInt8 → Bool → (Bool → Option β) → Option β
def P36 (F51 : T51) : T36 := fun β a_Top a_To_Host a_To_Path a_Guess b_Top b_To_Host b_To_Path b_Guess k =>
 br (!(a_Top == b_Top)) (
 k false) (
 F51 _ a_To_Host a_To_Path b_To_Host b_To_Path fun b1 =>
 br (!b1) (
 k false) (
 br (!(a_Guess == b_Guess)) (
 k false) (
 k true)))
def F36 : T36 := P36 F51 
abbrev s36 : List (Bool × List CK) := [(true, [.str, .str, .str, .bool]), (true, [.str, .str, .str, .bool])]
def G36 (F : T36) (β : Type) (e : (List UInt8 × List UInt8 × List UInt8 × Bool × Unit) × (List UInt8 × List UInt8 × List UInt8 × Bool × Unit) × Unit) (k : V → Option β) : Option β := F β e.1.1 e.1.2.1 e.1.2.2.1 e.1.2.2.2.1 e.2.1.1 e.2.1.2.1 e.2.1.2.2.1 e.2.1.2.2.2.1 (fun y1 => k (.bool y1))
abbrev W36 (F : T36) : WT := wrap s36 (G36 F)
theorem k36 (F51 : T51) (β : Type) (e : argsT s36) (k : V → Option β) : fnK cfg (tabL [(51, W51 F51)]) noX 36 Tryd.f36 β (argsEnc s36 e) k = G36 (P36 F51 ) β e k := by kernel_rfl
theorem ok36 : FnOk D 36 (W36 F36) := fn_okW [(51, W51 F51)] noX (fun _ => rfl) Tryd.func36 rfl (tabL_cons ok51 tabL_nil) (k36 F51 )

/-- laws.eqSentS -/
abbrev T19 : Type 1 := (β : Type) → List V → List V → (Bool → Option β) → Option β
def P19 (F36 : T36) : T19 := fun β a b k =>
 br ((a.length : Int) != (b.length : Int)) (
 k false) (
 whileK (fun s1 =>
 br (decide ((lI s1 2) < ((lL s1 0).length : Int))) (
 chk (0 ≤ (lI s1 2)) <|
 idx true [.str, .str, .str, .bool] (lL s1 0) ((lI s1 2).toNat) fun (e2 : List UInt8 × List UInt8 × List UInt8 × Bool × Unit) =>
 chk (0 ≤ (lI s1 2)) <|
 idx true [.str, .str, .str, .bool] (lL s1 1) ((lI s1 2).toNat) fun (e3 : List UInt8 × List UInt8 × List UInt8 × Bool × Unit) =>
 F36 _ e2.1 e2.2.1 e2.2.2.1 e2.2.2.2.1 e3.1 e3.2.1 e3.2.2.1 e3.2.2.2.1 fun b4 =>
 br (!b4) (
 some (.inr (0, [.b false]))) (
 some (.inl [.l (lL s1 0), .l (lL s1 1), .i (IntKind.wrap .i64 ((lI s1 2) + 1))]))) (
 some (.inr (1, [])))) [.l a, .l b, .i 0] fun (r5 : Nat × List Leaf) =>
 if r5.1 = 0 then
 k (lB r5.2 0)
 else
 k true)
def F19 : T19 := P19 F36 
def X19 : Exits := fun i => lookN i [] [(4, [(.ret, xk 27 [(4, .bool false)] []), (.exit 0, xk 27 [] [])])]
abbrev s19 : List (Bool × List CK) := [(false, [.sl 4 true]), (false, [.sl 4 true])]
def G19 (F : T19) (β : Type) (e : (List V × Unit) × (List V × Unit) × Unit) (k : V → Option β) : Option β := F β e.1.1 e.2.1.1 (fun y1 => k (.bool y1))
abbrev W19 (F : T19) : WT := wrap s19 (G19 F)
theorem k19 (F36 : T36) (β : Type) (e : argsT s19) (k : V → Option β) : fnK cfg (tabL [(36, W36 F36)]) X19 19 Tryd.f19 β (argsEnc s19 e) k = G19 (P19 F36 ) β e k := by kernel_rfl
theorem ok19 : FnOk D 19 (W19 F19) := fn_okW [(36, W36 F36)] X19 (fun _ => rfl) Tryd.func19 rfl (tabL_cons ok36 tabL_nil) (k19 F36 )

/-- laws.eqNet -/
abbrev T8 : Type 1 := (β : Type) → List V → List V → List V → Int → List V → List V → List V → Int → (Bool → Option β) → Option β
def P8 (F17 : T17) (F18 : T18) (F19 : T19) : T8 := fun β a_Servers a_Cache_Entries a_Log a_Now b_Servers b_Cache_Entries b_Log b_Now k =>
 F17 _ a_Servers b_Servers fun b1 =>
 br (!b1) (
 k false) (
 F18 _ a_Cache_Entries b_Cache_Entries fun b2 =>
 br (!b2) (
 k false) (
 F19 _ a_Log b_Log fun b3 =>
 br (!b3) (
 k false) (
 br (a_Now != b_Now) (
 k false) (
 k true))))
def F8 : T8 := P8 F17 F18 F19 
abbrev s8 : List (Bool × List CK) := [(true, [.sl 2 false, .sl 10 true, .sl 4 true, .int .i64]), (true, [.sl 2 false, .sl 10 true, .sl 4 true, .int .i64])]
def G8 (F : T8) (β : Type) (e : (List V × List V × List V × Int × Unit) × (List V × List V × List V × Int × Unit) × Unit) (k : V → Option β) : Option β := F β e.1.1 e.1.2.1 e.1.2.2.1 e.1.2.2.2.1 e.2.1.1 e.2.1.2.1 e.2.1.2.2.1 e.2.1.2.2.2.1 (fun y1 => k (.bool y1))
abbrev W8 (F : T8) : WT := wrap s8 (G8 F)
theorem k8 (F17 : T17) (F18 : T18) (F19 : T19) (β : Type) (e : argsT s8) (k : V → Option β) : fnK cfg (tabL [(17, W17 F17), (18, W18 F18), (19, W19 F19)]) noX 8 Tryd.f8 β (argsEnc s8 e) k = G8 (P8 F17 F18 F19 ) β e k := by kernel_rfl
theorem ok8 : FnOk D 8 (W8 F8) := fn_okW [(17, W17 F17), (18, W18 F18), (19, W19 F19)] noX (fun _ => rfl) Tryd.func8 rfl (tabL_cons ok17 (tabL_cons ok18 (tabL_cons ok19 tabL_nil))) (k8 F17 F18 F19 )

/-- laws.FnExactCacheSound -/
abbrev T3 : Type 1 := (β : Type) → List V → List V → List V → Int → (Bool → Option β) → Option β
def P3 (F4 : T4) (F6 : T6) (F5 : T5) (F7 : T7) (F8 : T8) : T3 := fun β aN_Servers aN_Cache_Entries aN_Log aN_Now k =>
 F4 _ aN_Servers aN_Cache_Entries aN_Log aN_Now 1048576 fun n1 =>
 br (decide (n1 < 0)) (
 k true) (
 F6 _ aN_Servers aN_Cache_Entries aN_Log aN_Now fun l2 l3 l4 n5 =>
 F5 _ l2 l3 l4 n5 fun b6 =>
 F6 _ aN_Servers aN_Cache_Entries aN_Log aN_Now fun l7 l8 l9 n10 =>
 F7 _ l7 l8 l9 n10 fun b11 =>
 br (!(b11 == b6)) (
 k false) (
 F6 _ aN_Servers aN_Cache_Entries aN_Log aN_Now fun l12 l13 l14 n15 =>
 F8 _ l7 l8 l9 n10 l12 l13 l14 n15 fun b16 =>
 br (!b16) (
 k false) (
 k true)))
def F3 : T3 := P3 F4 F6 F5 F7 F8 
abbrev s3 : List (Bool × List CK) := [(true, [.sl 2 false, .sl 10 true, .sl 4 true, .int .i64])]
def G3 (F : T3) (β : Type) (e : (List V × List V × List V × Int × Unit) × Unit) (k : V → Option β) : Option β := F β e.1.1 e.1.2.1 e.1.2.2.1 e.1.2.2.2.1 (fun y1 => k (.bool y1))
abbrev W3 (F : T3) : WT := wrap s3 (G3 F)
theorem k3 (F4 : T4) (F6 : T6) (F5 : T5) (F7 : T7) (F8 : T8) (β : Type) (e : argsT s3) (k : V → Option β) : fnK cfg (tabL [(4, W4 F4), (6, W6 F6), (5, W5 F5), (7, W7 F7), (8, W8 F8)]) noX 3 Tryd.f3 β (argsEnc s3 e) k = G3 (P3 F4 F6 F5 F7 F8 ) β e k := by kernel_rfl
theorem ok3 : FnOk D 3 (W3 F3) := fn_okW [(4, W4 F4), (6, W6 F6), (5, W5 F5), (7, W7 F7), (8, W8 F8)] noX (fun _ => rfl) Tryd.func3 rfl (tabL_cons ok4 (tabL_cons ok6 (tabL_cons ok5 (tabL_cons ok7 (tabL_cons ok8 tabL_nil))))) (k3 F4 F6 F5 F7 F8 )

end
end Go.Am

/-
  Functions of the program, extracted by program (sym.py) out of their code: what each computes, and, by the kernel's reckoning, that the machine's looking form computes just that; so what the machine answers.
-/
import Derived.Test.YtcajalfelmgeiaaAmCfg
import Derived.Test.YtcajalfelmgeiaaAmEvOk2
import Derived.KernelRfl
set_option maxRecDepth 10000
set_option linter.unusedVariables false
namespace Go.Am
open Go Go.Proofs
noncomputable section
abbrev WT : Type 1 := (β : Type) → List V → (V → Option β) → Option β
/-- laws.szResponse -/
abbrev T78 : Type 1 := (β : Type) → Int → Int → List UInt8 → Int → Bool → List UInt8 → Int → (Int → Option β) → Option β
def P78 : T78 := fun β a_Status a_Kind a_Body a_Age a_Shares a_Policy left k =>
 br (decide (IntKind.wrap .i64 (left - (a_Body.length : Int)) < 0)) (
 k (-1)) (
 br (decide (IntKind.wrap .i64 ((IntKind.wrap .i64 (left - (a_Body.length : Int))) - (a_Policy.length : Int)) < 0)) (
 k (-1)) (
 k (IntKind.wrap .i64 ((IntKind.wrap .i64 (left - (a_Body.length : Int))) - (a_Policy.length : Int)))))
def F78 : T78 := P78 
abbrev s78 : List (Bool × List CK) := [(true, [.int .i64, .int .i64, .str, .int .i64, .bool, .str]), (false, [.int .i64])]
def G78 (F : T78) (β : Type) (e : (Int × Int × List UInt8 × Int × Bool × List UInt8 × Unit) × (Int × Unit) × Unit) (k : V → Option β) : Option β := let a0_0 := e.1; let a0_1 := a0_0.2; let a0_2 := a0_1.2; let a0_3 := a0_2.2; let a0_4 := a0_3.2; let a0_5 := a0_4.2; F β a0_0.1 a0_1.1 a0_2.1 a0_3.1 a0_4.1 a0_5.1 e.2.1.1 (fun y1 => k (.int .i64 y1))
abbrev W78 (F : T78) : WT := wrap s78 (G78 F)
theorem k78 (β : Type) (e : argsT s78) (k : V → Option β) : fnK cfg (tabL []) noX 78 Try.f78 β (argsEnc s78 e) k = G78 (P78 ) β e k := by kernel_rfl
theorem ok78 : FnOk D 78 (W78 F78) := fn_okW [] noX (fun _ => rfl) Try.func78 rfl (tabL_nil) (k78 )

/-- laws.szFile -/
abbrev T77 : Type 1 := (β : Type) → List UInt8 → Int → Int → List UInt8 → Int → Bool → List UInt8 → Int → (Int → Option β) → Option β
def P77 (F78 : T78) : T77 := fun β a_Path a_Response_Status a_Response_Kind a_Response_Body a_Response_Age a_Response_Shares a_Response_Policy left k =>
 br (decide (IntKind.wrap .i64 (left - (a_Path.length : Int)) < 0)) (
 k (-1)) (
 F78 _ a_Response_Status a_Response_Kind a_Response_Body a_Response_Age a_Response_Shares a_Response_Policy (IntKind.wrap .i64 (left - (a_Path.length : Int))) fun n1 =>
 br (decide (n1 < 0)) (
 k (-1)) (
 k n1))
def F77 : T77 := P77 F78 
abbrev s77 : List (Bool × List CK) := [(true, [.str, .int .i64, .int .i64, .str, .int .i64, .bool, .str]), (false, [.int .i64])]
def G77 (F : T77) (β : Type) (e : (List UInt8 × Int × Int × List UInt8 × Int × Bool × List UInt8 × Unit) × (Int × Unit) × Unit) (k : V → Option β) : Option β := let a0_0 := e.1; let a0_1 := a0_0.2; let a0_2 := a0_1.2; let a0_3 := a0_2.2; let a0_4 := a0_3.2; let a0_5 := a0_4.2; let a0_6 := a0_5.2; F β a0_0.1 a0_1.1 a0_2.1 a0_3.1 a0_4.1 a0_5.1 a0_6.1 e.2.1.1 (fun y1 => k (.int .i64 y1))
abbrev W77 (F : T77) : WT := wrap s77 (G77 F)
theorem k77 (F78 : T78) (β : Type) (e : argsT s77) (k : V → Option β) : fnK cfg (tabL [(78, W78 F78)]) noX 77 Try.f77 β (argsEnc s77 e) k = G77 (P77 F78 ) β e k := by kernel_rfl
theorem ok77 : FnOk D 77 (W77 F77) := fn_okW [(78, W78 F78)] noX (fun _ => rfl) Try.func77 rfl (tabL_cons ok78 tabL_nil) (k77 F78 )

/-- laws.szFileS -/
abbrev T64 : Type 1 := (β : Type) → List V → Int → (Int → Option β) → Option β
def P64 (F77 : T77) : T64 := fun β a left k =>
 br (decide (IntKind.wrap .i64 (left - (a.length : Int)) < 0)) (
 k (-1)) (
 whileK (fun s1 =>
 br (decide ((lI s1 2) < ((lL s1 0).length : Int))) (
 chk (0 ≤ (lI s1 2)) <|
 idx true [.str, .int .i64, .int .i64, .str, .int .i64, .bool, .str] (lL s1 0) ((lI s1 2).toNat) fun (e2 : List UInt8 × Int × Int × List UInt8 × Int × Bool × List UInt8 × Unit) =>
 F77 _ e2.1 e2.2.1 e2.2.2.1 e2.2.2.2.1 e2.2.2.2.2.1 e2.2.2.2.2.2.1 e2.2.2.2.2.2.2.1 (lI s1 1) fun n3 =>
 br (decide (n3 < 0)) (
 some (.inr (0, [.i n3, .i (-1)]))) (
 some (.inl [.l (lL s1 0), .i n3, .i (IntKind.wrap .i64 ((lI s1 2) + 1))]))) (
 some (.inr (1, [.i (lI s1 1)])))) [.l a, .i (IntKind.wrap .i64 (left - (a.length : Int))), .i 0] fun (r4 : Nat × List Leaf) =>
 if r4.1 = 0 then
 k (lI r4.2 1)
 else
 k (lI r4.2 0))
def F64 : T64 := P64 F77 
def X64 : Exits := fun i => lookN i [] [(5, [(.ret, xk 27 [(1, .int .i64 0), (4, .int .i64 0)] []), (.exit 0, xk 27 [(1, .int .i64 0)] [])])]
abbrev s64 : List (Bool × List CK) := [(false, [.sl 7 true]), (false, [.int .i64])]
def G64 (F : T64) (β : Type) (e : (List V × Unit) × (Int × Unit) × Unit) (k : V → Option β) : Option β := F β e.1.1 e.2.1.1 (fun y1 => k (.int .i64 y1))
abbrev W64 (F : T64) : WT := wrap s64 (G64 F)
theorem k64 (F77 : T77) (β : Type) (e : argsT s64) (k : V → Option β) : fnK cfg (tabL [(77, W77 F77)]) X64 64 Try.f64 β (argsEnc s64 e) k = G64 (P64 F77 ) β e k := by kernel_rfl
theorem ok64 : FnOk D 64 (W64 F64) := fn_okW [(77, W77 F77)] X64 (fun _ => rfl) Try.func64 rfl (tabL_cons ok77 tabL_nil) (k64 F77 )

/-- laws.szServer -/
abbrev T44 : Type 1 := (β : Type) → List UInt8 → List V → Int → (Int → Option β) → Option β
def P44 (F64 : T64) : T44 := fun β a_Host a_Files left k =>
 br (decide (IntKind.wrap .i64 (left - (a_Host.length : Int)) < 0)) (
 k (-1)) (
 F64 _ a_Files (IntKind.wrap .i64 (left - (a_Host.length : Int))) fun n1 =>
 br (decide (n1 < 0)) (
 k (-1)) (
 k n1))
def F44 : T44 := P44 F64 
abbrev s44 : List (Bool × List CK) := [(true, [.str, .sl 7 true]), (false, [.int .i64])]
def G44 (F : T44) (β : Type) (e : (List UInt8 × List V × Unit) × (Int × Unit) × Unit) (k : V → Option β) : Option β := F β e.1.1 e.1.2.1 e.2.1.1 (fun y1 => k (.int .i64 y1))
abbrev W44 (F : T44) : WT := wrap s44 (G44 F)
theorem k44 (F64 : T64) (β : Type) (e : argsT s44) (k : V → Option β) : fnK cfg (tabL [(64, W64 F64)]) noX 44 Try.f44 β (argsEnc s44 e) k = G44 (P44 F64 ) β e k := by kernel_rfl
theorem ok44 : FnOk D 44 (W44 F44) := fn_okW [(64, W64 F64)] noX (fun _ => rfl) Try.func44 rfl (tabL_cons ok64 tabL_nil) (k44 F64 )

/-- laws.szServerS -/
abbrev T22 : Type 1 := (β : Type) → List V → Int → (Int → Option β) → Option β
def P22 (F44 : T44) : T22 := fun β a left k =>
 br (decide (IntKind.wrap .i64 (left - (a.length : Int)) < 0)) (
 k (-1)) (
 whileK (fun s1 =>
 br (decide ((lI s1 2) < ((lL s1 0).length : Int))) (
 chk (0 ≤ (lI s1 2)) <|
 idx true [.str, .sl 7 true] (lL s1 0) ((lI s1 2).toNat) fun (e2 : List UInt8 × List V × Unit) =>
 F44 _ e2.1 e2.2.1 (lI s1 1) fun n3 =>
 br (decide (n3 < 0)) (
 some (.inr (0, [.i n3, .i (-1)]))) (
 some (.inl [.l (lL s1 0), .i n3, .i (IntKind.wrap .i64 ((lI s1 2) + 1))]))) (
 some (.inr (1, [.i (lI s1 1)])))) [.l a, .i (IntKind.wrap .i64 (left - (a.length : Int))), .i 0] fun (r4 : Nat × List Leaf) =>
 if r4.1 = 0 then
 k (lI r4.2 1)
 else
 k (lI r4.2 0))
def F22 : T22 := P22 F44 
def X22 : Exits := fun i => lookN i [] [(5, [(.ret, xk 27 [(1, .int .i64 0), (4, .int .i64 0)] []), (.exit 0, xk 27 [(1, .int .i64 0)] [])])]
abbrev s22 : List (Bool × List CK) := [(false, [.sl 2 false]), (false, [.int .i64])]
def G22 (F : T22) (β : Type) (e : (List V × Unit) × (Int × Unit) × Unit) (k : V → Option β) : Option β := F β e.1.1 e.2.1.1 (fun y1 => k (.int .i64 y1))
abbrev W22 (F : T22) : WT := wrap s22 (G22 F)
theorem k22 (F44 : T44) (β : Type) (e : argsT s22) (k : V → Option β) : fnK cfg (tabL [(44, W44 F44)]) X22 22 Try.f22 β (argsEnc s22 e) k = G22 (P22 F44 ) β e k := by kernel_rfl
theorem ok22 : FnOk D 22 (W22 F22) := fn_okW [(44, W44 F44)] X22 (fun _ => rfl) Try.func22 rfl (tabL_cons ok44 tabL_nil) (k22 F44 )

/-- laws.szAddr -/
abbrev T66 : Type 1 := (β : Type) → List UInt8 → List UInt8 → Int → (Int → Option β) → Option β
def P66 : T66 := fun β a_Host a_Path left k =>
 br (decide (IntKind.wrap .i64 (left - (a_Host.length : Int)) < 0)) (
 k (-1)) (
 br (decide (IntKind.wrap .i64 ((IntKind.wrap .i64 (left - (a_Host.length : Int))) - (a_Path.length : Int)) < 0)) (
 k (-1)) (
 k (IntKind.wrap .i64 ((IntKind.wrap .i64 (left - (a_Host.length : Int))) - (a_Path.length : Int)))))
def F66 : T66 := P66 
abbrev s66 : List (Bool × List CK) := [(true, [.str, .str]), (false, [.int .i64])]
def G66 (F : T66) (β : Type) (e : (List UInt8 × List UInt8 × Unit) × (Int × Unit) × Unit) (k : V → Option β) : Option β := F β e.1.1 e.1.2.1 e.2.1.1 (fun y1 => k (.int .i64 y1))
abbrev W66 (F : T66) : WT := wrap s66 (G66 F)
theorem k66 (β : Type) (e : argsT s66) (k : V → Option β) : fnK cfg (tabL []) noX 66 Try.f66 β (argsEnc s66 e) k = G66 (P66 ) β e k := by kernel_rfl
theorem ok66 : FnOk D 66 (W66 F66) := fn_okW [] noX (fun _ => rfl) Try.func66 rfl (tabL_nil) (k66 )

/-- laws.szEntry -/
abbrev T65 : Type 1 := (β : Type) → List UInt8 → List UInt8 → List UInt8 → Int → Int → List UInt8 → Int → Bool → List UInt8 → Int → Int → (Int → Option β) → Option β
def P65 (F66 : T66) (F78 : T78) : T65 := fun β a_Top a_To_Host a_To_Path a_Response_Status a_Response_Kind a_Response_Body a_Response_Age a_Response_Shares a_Response_Policy a_Until left k =>
 br (decide (IntKind.wrap .i64 (left - (a_Top.length : Int)) < 0)) (
 k (-1)) (
 F66 _ a_To_Host a_To_Path (IntKind.wrap .i64 (left - (a_Top.length : Int))) fun n1 =>
 br (decide (n1 < 0)) (
 k (-1)) (
 F78 _ a_Response_Status a_Response_Kind a_Response_Body a_Response_Age a_Response_Shares a_Response_Policy n1 fun n2 =>
 br (decide (n2 < 0)) (
 k (-1)) (
 k n2)))
def F65 : T65 := P65 F66 F78 
abbrev s65 : List (Bool × List CK) := [(true, [.str, .str, .str, .int .i64, .int .i64, .str, .int .i64, .bool, .str, .int .i64]), (false, [.int .i64])]
def G65 (F : T65) (β : Type) (e : (List UInt8 × List UInt8 × List UInt8 × Int × Int × List UInt8 × Int × Bool × List UInt8 × Int × Unit) × (Int × Unit) × Unit) (k : V → Option β) : Option β := let a0_0 := e.1; let a0_1 := a0_0.2; let a0_2 := a0_1.2; let a0_3 := a0_2.2; let a0_4 := a0_3.2; let a0_5 := a0_4.2; let a0_6 := a0_5.2; let a0_7 := a0_6.2; let a0_8 := a0_7.2; let a0_9 := a0_8.2; F β a0_0.1 a0_1.1 a0_2.1 a0_3.1 a0_4.1 a0_5.1 a0_6.1 a0_7.1 a0_8.1 a0_9.1 e.2.1.1 (fun y1 => k (.int .i64 y1))
abbrev W65 (F : T65) : WT := wrap s65 (G65 F)
theorem k65 (F66 : T66) (F78 : T78) (β : Type) (e : argsT s65) (k : V → Option β) : fnK cfg (tabL [(66, W66 F66), (78, W78 F78)]) noX 65 Try.f65 β (argsEnc s65 e) k = G65 (P65 F66 F78 ) β e k := by kernel_rfl
theorem ok65 : FnOk D 65 (W65 F65) := fn_okW [(66, W66 F66), (78, W78 F78)] noX (fun _ => rfl) Try.func65 rfl (tabL_cons ok66 (tabL_cons ok78 tabL_nil)) (k65 F66 F78 )

/-- laws.szEntryS -/
abbrev T45 : Type 1 := (β : Type) → List V → Int → (Int → Option β) → Option β
def P45 (F65 : T65) : T45 := fun β a left k =>
 br (decide (IntKind.wrap .i64 (left - (a.length : Int)) < 0)) (
 k (-1)) (
 whileK (fun s1 =>
 br (decide ((lI s1 2) < ((lL s1 0).length : Int))) (
 chk (0 ≤ (lI s1 2)) <|
 idx true [.str, .str, .str, .int .i64, .int .i64, .str, .int .i64, .bool, .str, .int .i64] (lL s1 0) ((lI s1 2).toNat) fun (e2 : List UInt8 × List UInt8 × List UInt8 × Int × Int × List UInt8 × Int × Bool × List UInt8 × Int × Unit) =>
 F65 _ e2.1 e2.2.1 e2.2.2.1 e2.2.2.2.1 e2.2.2.2.2.1 e2.2.2.2.2.2.1 e2.2.2.2.2.2.2.1 e2.2.2.2.2.2.2.2.1 e2.2.2.2.2.2.2.2.2.1 e2.2.2.2.2.2.2.2.2.2.1 (lI s1 1) fun n3 =>
 br (decide (n3 < 0)) (
 some (.inr (0, [.i n3, .i (-1)]))) (
 some (.inl [.l (lL s1 0), .i n3, .i (IntKind.wrap .i64 ((lI s1 2) + 1))]))) (
 some (.inr (1, [.i (lI s1 1)])))) [.l a, .i (IntKind.wrap .i64 (left - (a.length : Int))), .i 0] fun (r4 : Nat × List Leaf) =>
 if r4.1 = 0 then
 k (lI r4.2 1)
 else
 k (lI r4.2 0))
def F45 : T45 := P45 F65 
def X45 : Exits := fun i => lookN i [] [(5, [(.ret, xk 27 [(1, .int .i64 0), (4, .int .i64 0)] []), (.exit 0, xk 27 [(1, .int .i64 0)] [])])]
abbrev s45 : List (Bool × List CK) := [(false, [.sl 10 true]), (false, [.int .i64])]
def G45 (F : T45) (β : Type) (e : (List V × Unit) × (Int × Unit) × Unit) (k : V → Option β) : Option β := F β e.1.1 e.2.1.1 (fun y1 => k (.int .i64 y1))
abbrev W45 (F : T45) : WT := wrap s45 (G45 F)
theorem k45 (F65 : T65) (β : Type) (e : argsT s45) (k : V → Option β) : fnK cfg (tabL [(65, W65 F65)]) X45 45 Try.f45 β (argsEnc s45 e) k = G45 (P45 F65 ) β e k := by kernel_rfl
theorem ok45 : FnOk D 45 (W45 F45) := fn_okW [(65, W65 F65)] X45 (fun _ => rfl) Try.func45 rfl (tabL_cons ok65 tabL_nil) (k45 F65 )

/-- laws.szCache -/
abbrev T23 : Type 1 := (β : Type) → List V → Int → (Int → Option β) → Option β
def P23 (F45 : T45) : T23 := fun β a_Entries left k =>
 F45 _ a_Entries left fun n1 =>
 br (decide (n1 < 0)) (
 k (-1)) (
 k n1)
def F23 : T23 := P23 F45 
abbrev s23 : List (Bool × List CK) := [(true, [.sl 10 true]), (false, [.int .i64])]
def G23 (F : T23) (β : Type) (e : (List V × Unit) × (Int × Unit) × Unit) (k : V → Option β) : Option β := F β e.1.1 e.2.1.1 (fun y1 => k (.int .i64 y1))
abbrev W23 (F : T23) : WT := wrap s23 (G23 F)
theorem k23 (F45 : T45) (β : Type) (e : argsT s23) (k : V → Option β) : fnK cfg (tabL [(45, W45 F45)]) noX 23 Try.f23 β (argsEnc s23 e) k = G23 (P23 F45 ) β e k := by kernel_rfl
theorem ok23 : FnOk D 23 (W23 F23) := fn_okW [(45, W45 F45)] noX (fun _ => rfl) Try.func23 rfl (tabL_cons ok45 tabL_nil) (k23 F45 )

/-- laws.szSent -/
abbrev T46 : Type 1 := (β : Type) → List UInt8 → List UInt8 → List UInt8 → Bool → Int → (Int → Option β) → Option β
def P46 (F66 : T66) : T46 := fun β a_Top a_To_Host a_To_Path a_Guess left k =>
 br (decide (IntKind.wrap .i64 (left - (a_Top.length : Int)) < 0)) (
 k (-1)) (
 F66 _ a_To_Host a_To_Path (IntKind.wrap .i64 (left - (a_Top.length : Int))) fun n1 =>
 br (decide (n1 < 0)) (
 k (-1)) (
 k n1))
def F46 : T46 := P46 F66 
abbrev s46 : List (Bool × List CK) := [(true, [.str, .str, .str, .bool]), (false, [.int .i64])]
def G46 (F : T46) (β : Type) (e : (List UInt8 × List UInt8 × List UInt8 × Bool × Unit) × (Int × Unit) × Unit) (k : V → Option β) : Option β := F β e.1.1 e.1.2.1 e.1.2.2.1 e.1.2.2.2.1 e.2.1.1 (fun y1 => k (.int .i64 y1))
abbrev W46 (F : T46) : WT := wrap s46 (G46 F)
theorem k46 (F66 : T66) (β : Type) (e : argsT s46) (k : V → Option β) : fnK cfg (tabL [(66, W66 F66)]) noX 46 Try.f46 β (argsEnc s46 e) k = G46 (P46 F66 ) β e k := by kernel_rfl
theorem ok46 : FnOk D 46 (W46 F46) := fn_okW [(66, W66 F66)] noX (fun _ => rfl) Try.func46 rfl (tabL_cons ok66 tabL_nil) (k46 F66 )

/-- laws.szSentS -/
abbrev T24 : Type 1 := (β : Type) → List V → Int → (Int → Option β) → Option β
def P24 (F46 : T46) : T24 := fun β a left k =>
 br (decide (IntKind.wrap .i64 (left - (a.length : Int)) < 0)) (
 k (-1)) (
 whileK (fun s1 =>
 br (decide ((lI s1 2) < ((lL s1 0).length : Int))) (
 chk (0 ≤ (lI s1 2)) <|
 idx true [.str, .str, .str, .bool] (lL s1 0) ((lI s1 2).toNat) fun (e2 : List UInt8 × List UInt8 × List UInt8 × Bool × Unit) =>
 F46 _ e2.1 e2.2.1 e2.2.2.1 e2.2.2.2.1 (lI s1 1) fun n3 =>
 br (decide (n3 < 0)) (
 some (.inr (0, [.i n3, .i (-1)]))) (
 some (.inl [.l (lL s1 0), .i n3, .i (IntKind.wrap .i64 ((lI s1 2) + 1))]))) (
 some (.inr (1, [.i (lI s1 1)])))) [.l a, .i (IntKind.wrap .i64 (left - (a.length : Int))), .i 0] fun (r4 : Nat × List Leaf) =>
 if r4.1 = 0 then
 k (lI r4.2 1)
 else
 k (lI r4.2 0))
def F24 : T24 := P24 F46 
def X24 : Exits := fun i => lookN i [] [(5, [(.ret, xk 27 [(1, .int .i64 0), (4, .int .i64 0)] []), (.exit 0, xk 27 [(1, .int .i64 0)] [])])]
abbrev s24 : List (Bool × List CK) := [(false, [.sl 4 true]), (false, [.int .i64])]
def G24 (F : T24) (β : Type) (e : (List V × Unit) × (Int × Unit) × Unit) (k : V → Option β) : Option β := F β e.1.1 e.2.1.1 (fun y1 => k (.int .i64 y1))
abbrev W24 (F : T24) : WT := wrap s24 (G24 F)
theorem k24 (F46 : T46) (β : Type) (e : argsT s24) (k : V → Option β) : fnK cfg (tabL [(46, W46 F46)]) X24 24 Try.f24 β (argsEnc s24 e) k = G24 (P24 F46 ) β e k := by kernel_rfl
theorem ok24 : FnOk D 24 (W24 F24) := fn_okW [(46, W46 F46)] X24 (fun _ => rfl) Try.func24 rfl (tabL_cons ok46 tabL_nil) (k24 F46 )

/-- laws.szNet -/
abbrev T6 : Type 1 := (β : Type) → List V → List V → List V → Int → Int → (Int → Option β) → Option β
def P6 (F22 : T22) (F23 : T23) (F24 : T24) : T6 := fun β a_Servers a_Cache_Entries a_Log a_Now left k =>
 F22 _ a_Servers left fun n1 =>
 br (decide (n1 < 0)) (
 k (-1)) (
 F23 _ a_Cache_Entries n1 fun n2 =>
 br (decide (n2 < 0)) (
 k (-1)) (
 F24 _ a_Log n2 fun n3 =>
 br (decide (n3 < 0)) (
 k (-1)) (
 k n3)))
def F6 : T6 := P6 F22 F23 F24 
abbrev s6 : List (Bool × List CK) := [(true, [.sl 2 false, .sl 10 true, .sl 4 true, .int .i64]), (false, [.int .i64])]
def G6 (F : T6) (β : Type) (e : (List V × List V × List V × Int × Unit) × (Int × Unit) × Unit) (k : V → Option β) : Option β := F β e.1.1 e.1.2.1 e.1.2.2.1 e.1.2.2.2.1 e.2.1.1 (fun y1 => k (.int .i64 y1))
abbrev W6 (F : T6) : WT := wrap s6 (G6 F)
theorem k6 (F22 : T22) (F23 : T23) (F24 : T24) (β : Type) (e : argsT s6) (k : V → Option β) : fnK cfg (tabL [(22, W22 F22), (23, W23 F23), (24, W24 F24)]) noX 6 Try.f6 β (argsEnc s6 e) k = G6 (P6 F22 F23 F24 ) β e k := by kernel_rfl
theorem ok6 : FnOk D 6 (W6 F6) := fn_okW [(22, W22 F22), (23, W23 F23), (24, W24 F24)] noX (fun _ => rfl) Try.func6 rfl (tabL_cons ok22 (tabL_cons ok23 (tabL_cons ok24 tabL_nil))) (k6 F22 F23 F24 )

/-- laws.toResponse -/
abbrev T80 : Type 1 := (β : Type) → Int → Int → List UInt8 → Int → Bool → List UInt8 → (Int → Int → List UInt8 → Int → Bool → List UInt8 → Option β) → Option β
def P80 : T80 := fun β a_Status a_Kind a_Body a_Age a_Shares a_Policy k =>
 k a_Status a_Kind a_Body a_Age a_Shares a_Policy
def F80 : T80 := P80 
abbrev s80 : List (Bool × List CK) := [(true, [.int .i64, .int .i64, .str, .int .i64, .bool, .str])]
def G80 (F : T80) (β : Type) (e : (Int × Int × List UInt8 × Int × Bool × List UInt8 × Unit) × Unit) (k : V → Option β) : Option β := let a0_0 := e.1; let a0_1 := a0_0.2; let a0_2 := a0_1.2; let a0_3 := a0_2.2; let a0_4 := a0_3.2; let a0_5 := a0_4.2; F β a0_0.1 a0_1.1 a0_2.1 a0_3.1 a0_4.1 a0_5.1 (fun y1 y2 y3 y4 y5 y6 => k (.agg [.int .i64 y1, .int .i64 y2, .str y3, .int .i64 y4, .bool y5, .str y6]))
abbrev W80 (F : T80) : WT := wrap s80 (G80 F)
theorem k80 (β : Type) (e : argsT s80) (k : V → Option β) : fnK cfg (tabL []) noX 80 Try.f80 β (argsEnc s80 e) k = G80 (P80 ) β e k := by kernel_rfl
theorem ok80 : FnOk D 80 (W80 F80) := fn_okW [] noX (fun _ => rfl) Try.func80 rfl (tabL_nil) (k80 )

/-- laws.toFile -/
abbrev T79 : Type 1 := (β : Type) → List UInt8 → Int → Int → List UInt8 → Int → Bool → List UInt8 → (List UInt8 → Int → Int → List UInt8 → Int → Bool → List UInt8 → Option β) → Option β
def P79 (F80 : T80) : T79 := fun β a_Path a_Response_Status a_Response_Kind a_Response_Body a_Response_Age a_Response_Shares a_Response_Policy k =>
 F80 _ a_Response_Status a_Response_Kind a_Response_Body a_Response_Age a_Response_Shares a_Response_Policy fun n1 n2 t3 n4 b5 t6 =>
 k a_Path n1 n2 t3 n4 b5 t6
def F79 : T79 := P79 F80 
abbrev s79 : List (Bool × List CK) := [(true, [.str, .int .i64, .int .i64, .str, .int .i64, .bool, .str])]
def G79 (F : T79) (β : Type) (e : (List UInt8 × Int × Int × List UInt8 × Int × Bool × List UInt8 × Unit) × Unit) (k : V → Option β) : Option β := let a0_0 := e.1; let a0_1 := a0_0.2; let a0_2 := a0_1.2; let a0_3 := a0_2.2; let a0_4 := a0_3.2; let a0_5 := a0_4.2; let a0_6 := a0_5.2; F β a0_0.1 a0_1.1 a0_2.1 a0_3.1 a0_4.1 a0_5.1 a0_6.1 (fun y1 y2 y3 y4 y5 y6 y7 => k (.agg [.str y1, .int .i64 y2, .int .i64 y3, .str y4, .int .i64 y5, .bool y6, .str y7]))
abbrev W79 (F : T79) : WT := wrap s79 (G79 F)
theorem k79 (F80 : T80) (β : Type) (e : argsT s79) (k : V → Option β) : fnK cfg (tabL [(80, W80 F80)]) noX 79 Try.f79 β (argsEnc s79 e) k = G79 (P79 F80 ) β e k := by kernel_rfl
theorem ok79 : FnOk D 79 (W79 F79) := fn_okW [(80, W80 F80)] noX (fun _ => rfl) Try.func79 rfl (tabL_cons ok80 tabL_nil) (k79 F80 )

/-- laws.toFileS -/
abbrev T67 : Type 1 := (β : Type) → List V → (List V → Option β) → Option β
def P67 (F79 : T79) : T67 := fun β a k =>
 chk (0 ≤ (a.length : Int) ∧ (a.length : Int) ≤ (a.length : Int) ∧ (a.length : Int) * 80 ≤ 140737488355328 ∧ (a.length : Int) ≤ 140737488355328) <|
 whileK (fun s1 =>
 br (decide ((lI s1 2) < ((lL s1 0).length : Int))) (
 chk (0 ≤ (lI s1 2)) <|
 idx true [.str, .int .i64, .int .i64, .str, .int .i64, .bool, .str] (lL s1 0) ((lI s1 2).toNat) fun (e2 : List UInt8 × Int × Int × List UInt8 × Int × Bool × List UInt8 × Unit) =>
 F79 _ e2.1 e2.2.1 e2.2.2.1 e2.2.2.2.1 e2.2.2.2.2.1 e2.2.2.2.2.2.1 e2.2.2.2.2.2.2.1 fun t3 n4 n5 t6 n7 b8 t9 =>
 chk (0 ≤ (lI s1 2) ∧ (lI s1 2).toNat < (lL s1 1).length) <|
 storeO (lL s1 1) ((lI s1 2).toNat) 0 [.str t3, .int .i64 n4, .int .i64 n5, .str t6, .int .i64 n7, .bool b8, .str t9] fun l10 =>
 some (.inl [.l (lL s1 0), .l l10, .i (IntKind.wrap .i64 ((lI s1 2) + 1))])) (
 some (.inr (0, [.l (lL s1 1)])))) [.l a, .l (List.replicate ((a.length : Int).toNat) (.agg [.str [], .int .i64 0, .int .i64 0, .str [], .int .i64 0, .bool false, .str []])), .i 0] fun (r11 : Nat × List Leaf) =>
 k (lL r11.2 0)
def F67 : T67 := P67 F79 
def X67 : Exits := fun i => lookN i [] [(3, [(.exit 0, xk 23 [(3, .own 1000000 7 .flat [])] [])])]
abbrev s67 : List (Bool × List CK) := [(false, [.sl 7 true])]
def G67 (F : T67) (β : Type) (e : (List V × Unit) × Unit) (k : V → Option β) : Option β := F β e.1.1 (fun y1 => k (.own 0 7 .flat y1))
abbrev W67 (F : T67) : WT := wrap s67 (G67 F)
theorem k67 (F79 : T79) (β : Type) (e : argsT s67) (k : V → Option β) : fnK cfg (tabL [(79, W79 F79)]) X67 67 Try.f67 β (argsEnc s67 e) k = G67 (P67 F79 ) β e k := by kernel_rfl
theorem ok67 : FnOk D 67 (W67 F67) := fn_okW [(79, W79 F79)] X67 (fun _ => rfl) Try.func67 rfl (tabL_cons ok79 tabL_nil) (k67 F79 )

/-- laws.toServer -/
abbrev T48 : Type 1 := (β : Type) → List UInt8 → List V → (List UInt8 → List V → Option β) → Option β
def P48 (F67 : T67) : T48 := fun β a_Host a_Files k =>
 F67 _ a_Files fun l1 =>
 k a_Host l1
def F48 : T48 := P48 F67 
abbrev s48 : List (Bool × List CK) := [(true, [.str, .sl 7 true])]
def G48 (F : T48) (β : Type) (e : (List UInt8 × List V × Unit) × Unit) (k : V → Option β) : Option β := F β e.1.1 e.1.2.1 (fun y1 y2 => k (.agg [.str y1, .own 1 7 .flat y2]))
abbrev W48 (F : T48) : WT := wrap s48 (G48 F)
theorem k48 (F67 : T67) (β : Type) (e : argsT s48) (k : V → Option β) : fnK cfg (tabL [(67, W67 F67)]) noX 48 Try.f48 β (argsEnc s48 e) k = G48 (P48 F67 ) β e k := by kernel_rfl
theorem ok48 : FnOk D 48 (W48 F48) := fn_okW [(67, W67 F67)] noX (fun _ => rfl) Try.func48 rfl (tabL_cons ok67 tabL_nil) (k48 F67 )

/-- laws.toServerS -/
abbrev T26 : Type 1 := (β : Type) → List V → (List V → Option β) → Option β
def P26 (F48 : T48) : T26 := fun β a k =>
 chk (0 ≤ (a.length : Int) ∧ (a.length : Int) ≤ (a.length : Int) ∧ (a.length : Int) * 40 ≤ 140737488355328 ∧ (a.length : Int) ≤ 140737488355328) <|
 whileK (fun s1 =>
 br (decide ((lI s1 2) < ((lL s1 0).length : Int))) (
 chk (0 ≤ (lI s1 2)) <|
 idx true [.str, .sl 7 true] (lL s1 0) ((lI s1 2).toNat) fun (e2 : List UInt8 × List V × Unit) =>
 F48 _ e2.1 e2.2.1 fun t3 l4 =>
 chk (0 ≤ (lI s1 2) ∧ (lI s1 2).toNat < (lL s1 1).length) <|
 storeO (lL s1 1) ((lI s1 2).toNat) 0 [.str t3, .sl 7 true l4] fun l5 =>
 some (.inl [.l (lL s1 0), .l l5, .i (IntKind.wrap .i64 ((lI s1 2) + 1))])) (
 some (.inr (0, [.l (lL s1 1)])))) [.l a, .l (List.replicate ((a.length : Int).toNat) (.agg [.str [], .sl 7 true []])), .i 0] fun (r6 : Nat × List Leaf) =>
 k (lL r6.2 0)
def F26 : T26 := P26 F48 
def X26 : Exits := fun i => lookN i [] [(3, [(.exit 0, xk 23 [(3, .own 1000000 2 .clean [])] [])])]
abbrev s26 : List (Bool × List CK) := [(false, [.sl 2 false])]
def G26 (F : T26) (β : Type) (e : (List V × Unit) × Unit) (k : V → Option β) : Option β := F β e.1.1 (fun y1 => k (.own 0 2 .clean y1))
abbrev W26 (F : T26) : WT := wrap s26 (G26 F)
theorem k26 (F48 : T48) (β : Type) (e : argsT s26) (k : V → Option β) : fnK cfg (tabL [(48, W48 F48)]) X26 26 Try.f26 β (argsEnc s26 e) k = G26 (P26 F48 ) β e k := by kernel_rfl
theorem ok26 : FnOk D 26 (W26 F26) := fn_okW [(48, W48 F48)] X26 (fun _ => rfl) Try.func26 rfl (tabL_cons ok48 tabL_nil) (k26 F48 )

/-- laws.toAddr -/
abbrev T69 : Type 1 := (β : Type) → List UInt8 → List UInt8 → (List UInt8 → List UInt8 → Option β) → Option β
def P69 : T69 := fun β a_Host a_Path k =>
 k a_Host a_Path
def F69 : T69 := P69 
abbrev s69 : List (Bool × List CK) := [(true, [.str, .str])]
def G69 (F : T69) (β : Type) (e : (List UInt8 × List UInt8 × Unit) × Unit) (k : V → Option β) : Option β := F β e.1.1 e.1.2.1 (fun y1 y2 => k (.agg [.str y1, .str y2]))
abbrev W69 (F : T69) : WT := wrap s69 (G69 F)
theorem k69 (β : Type) (e : argsT s69) (k : V → Option β) : fnK cfg (tabL []) noX 69 Try.f69 β (argsEnc s69 e) k = G69 (P69 ) β e k := by kernel_rfl
theorem ok69 : FnOk D 69 (W69 F69) := fn_okW [] noX (fun _ => rfl) Try.func69 rfl (tabL_nil) (k69 )

/-- laws.toEntry -/
abbrev T68 : Type 1 := (β : Type) → List UInt8 → List UInt8 → List UInt8 → Int → Int → List UInt8 → Int → Bool → List UInt8 → Int → (List UInt8 → List UInt8 → List UInt8 → Int → Int → List UInt8 → Int → Bool → List UInt8 → Int → Option β) → Option β
def P68 (F69 : T69) (F80 : T80) : T68 := fun β a_Top a_To_Host a_To_Path a_Response_Status a_Response_Kind a_Response_Body a_Response_Age a_Response_Shares a_Response_Policy a_Until k =>
 F69 _ a_To_Host a_To_Path fun t1 t2 =>
 F80 _ a_Response_Status a_Response_Kind a_Response_Body a_Response_Age a_Response_Shares a_Response_Policy fun n3 n4 t5 n6 b7 t8 =>
 k a_Top t1 t2 n3 n4 t5 n6 b7 t8 a_Until
def F68 : T68 := P68 F69 F80 
abbrev s68 : List (Bool × List CK) := [(true, [.str, .str, .str, .int .i64, .int .i64, .str, .int .i64, .bool, .str, .int .i64])]
def G68 (F : T68) (β : Type) (e : (List UInt8 × List UInt8 × List UInt8 × Int × Int × List UInt8 × Int × Bool × List UInt8 × Int × Unit) × Unit) (k : V → Option β) : Option β := let a0_0 := e.1; let a0_1 := a0_0.2; let a0_2 := a0_1.2; let a0_3 := a0_2.2; let a0_4 := a0_3.2; let a0_5 := a0_4.2; let a0_6 := a0_5.2; let a0_7 := a0_6.2; let a0_8 := a0_7.2; let a0_9 := a0_8.2; F β a0_0.1 a0_1.1 a0_2.1 a0_3.1 a0_4.1 a0_5.1 a0_6.1 a0_7.1 a0_8.1 a0_9.1 (fun y1 y2 y3 y4 y5 y6 y7 y8 y9 y10 => k (.agg [.str y1, .str y2, .str y3, .int .i64 y4, .int .i64 y5, .str y6, .int .i64 y7, .bool y8, .str y9, .int .i64 y10]))
abbrev W68 (F : T68) : WT := wrap s68 (G68 F)
theorem k68 (F69 : T69) (F80 : T80) (β : Type) (e : argsT s68) (k : V → Option β) : fnK cfg (tabL [(69, W69 F69), (80, W80 F80)]) noX 68 Try.f68 β (argsEnc s68 e) k = G68 (P68 F69 F80 ) β e k := by kernel_rfl
theorem ok68 : FnOk D 68 (W68 F68) := fn_okW [(69, W69 F69), (80, W80 F80)] noX (fun _ => rfl) Try.func68 rfl (tabL_cons ok69 (tabL_cons ok80 tabL_nil)) (k68 F69 F80 )

/-- laws.toEntryS -/
abbrev T49 : Type 1 := (β : Type) → List V → (List V → Option β) → Option β
def P49 (F68 : T68) : T49 := fun β a k =>
 chk (0 ≤ (a.length : Int) ∧ (a.length : Int) ≤ (a.length : Int) ∧ (a.length : Int) * 120 ≤ 140737488355328 ∧ (a.length : Int) ≤ 140737488355328) <|
 whileK (fun s1 =>
 br (decide ((lI s1 2) < ((lL s1 0).length : Int))) (
 chk (0 ≤ (lI s1 2)) <|
 idx true [.str, .str, .str, .int .i64, .int .i64, .str, .int .i64, .bool, .str, .int .i64] (lL s1 0) ((lI s1 2).toNat) fun (e2 : List UInt8 × List UInt8 × List UInt8 × Int × Int × List UInt8 × Int × Bool × List UInt8 × Int × Unit) =>
 F68 _ e2.1 e2.2.1 e2.2.2.1 e2.2.2.2.1 e2.2.2.2.2.1 e2.2.2.2.2.2.1 e2.2.2.2.2.2.2.1 e2.2.2.2.2.2.2.2.1 e2.2.2.2.2.2.2.2.2.1 e2.2.2.2.2.2.2.2.2.2.1 fun t3 t4 t5 n6 n7 t8 n9 b10 t11 n12 =>
 chk (0 ≤ (lI s1 2) ∧ (lI s1 2).toNat < (lL s1 1).length) <|
 storeO (lL s1 1) ((lI s1 2).toNat) 0 [.str t3, .str t4, .str t5, .int .i64 n6, .int .i64 n7, .str t8, .int .i64 n9, .bool b10, .str t11, .int .i64 n12] fun l13 =>
 some (.inl [.l (lL s1 0), .l l13, .i (IntKind.wrap .i64 ((lI s1 2) + 1))])) (
 some (.inr (0, [.l (lL s1 1)])))) [.l a, .l (List.replicate ((a.length : Int).toNat) (.agg [.str [], .str [], .str [], .int .i64 0, .int .i64 0, .str [], .int .i64 0, .bool false, .str [], .int .i64 0])), .i 0] fun (r14 : Nat × List Leaf) =>
 k (lL r14.2 0)
def F49 : T49 := P49 F68 
def X49 : Exits := fun i => lookN i [] [(3, [(.exit 0, xk 23 [(3, .own 1000000 10 .flat [])] [])])]
abbrev s49 : List (Bool × List CK) := [(false, [.sl 10 true])]
def G49 (F : T49) (β : Type) (e : (List V × Unit) × Unit) (k : V → Option β) : Option β := F β e.1.1 (fun y1 => k (.own 0 10 .flat y1))
abbrev W49 (F : T49) : WT := wrap s49 (G49 F)
theorem k49 (F68 : T68) (β : Type) (e : argsT s49) (k : V → Option β) : fnK cfg (tabL [(68, W68 F68)]) X49 49 Try.f49 β (argsEnc s49 e) k = G49 (P49 F68 ) β e k := by kernel_rfl
theorem ok49 : FnOk D 49 (W49 F49) := fn_okW [(68, W68 F68)] X49 (fun _ => rfl) Try.func49 rfl (tabL_cons ok68 tabL_nil) (k49 F68 )

/-- laws.toCache -/
abbrev T27 : Type 1 := (β : Type) → List V → (List V → Option β) → Option β
def P27 (F49 : T49) : T27 := fun β a_Entries k =>
 F49 _ a_Entries fun l1 =>
 k l1
def F27 : T27 := P27 F49 
abbrev s27 : List (Bool × List CK) := [(true, [.sl 10 true])]
def G27 (F : T27) (β : Type) (e : (List V × Unit) × Unit) (k : V → Option β) : Option β := F β e.1.1 (fun y1 => k (.agg [.own 0 10 .flat y1]))
abbrev W27 (F : T27) : WT := wrap s27 (G27 F)
theorem k27 (F49 : T49) (β : Type) (e : argsT s27) (k : V → Option β) : fnK cfg (tabL [(49, W49 F49)]) noX 27 Try.f27 β (argsEnc s27 e) k = G27 (P27 F49 ) β e k := by kernel_rfl
theorem ok27 : FnOk D 27 (W27 F27) := fn_okW [(49, W49 F49)] noX (fun _ => rfl) Try.func27 rfl (tabL_cons ok49 tabL_nil) (k27 F49 )

/-- laws.toSent -/
abbrev T50 : Type 1 := (β : Type) → List UInt8 → List UInt8 → List UInt8 → Bool → (List UInt8 → List UInt8 → List UInt8 → Bool → Option β) → Option β
def P50 (F69 : T69) : T50 := fun β a_Top a_To_Host a_To_Path a_Guess k =>
 F69 _ a_To_Host a_To_Path fun t1 t2 =>
 k a_Top t1 t2 a_Guess
def F50 : T50 := P50 F69 
abbrev s50 : List (Bool × List CK) := [(true, [.str, .str, .str, .bool])]
def G50 (F : T50) (β : Type) (e : (List UInt8 × List UInt8 × List UInt8 × Bool × Unit) × Unit) (k : V → Option β) : Option β := F β e.1.1 e.1.2.1 e.1.2.2.1 e.1.2.2.2.1 (fun y1 y2 y3 y4 => k (.agg [.str y1, .str y2, .str y3, .bool y4]))
abbrev W50 (F : T50) : WT := wrap s50 (G50 F)
theorem k50 (F69 : T69) (β : Type) (e : argsT s50) (k : V → Option β) : fnK cfg (tabL [(69, W69 F69)]) noX 50 Try.f50 β (argsEnc s50 e) k = G50 (P50 F69 ) β e k := by kernel_rfl
theorem ok50 : FnOk D 50 (W50 F50) := fn_okW [(69, W69 F69)] noX (fun _ => rfl) Try.func50 rfl (tabL_cons ok69 tabL_nil) (k50 F69 )

/-- laws.toSentS -/
abbrev T28 : Type 1 := (β : Type) → List V → (List V → Option β) → Option β
def P28 (F50 : T50) : T28 := fun β a k =>
 chk (0 ≤ (a.length : Int) ∧ (a.length : Int) ≤ (a.length : Int) ∧ (a.length : Int) * 56 ≤ 140737488355328 ∧ (a.length : Int) ≤ 140737488355328) <|
 whileK (fun s1 =>
 br (decide ((lI s1 2) < ((lL s1 0).length : Int))) (
 chk (0 ≤ (lI s1 2)) <|
 idx true [.str, .str, .str, .bool] (lL s1 0) ((lI s1 2).toNat) fun (e2 : List UInt8 × List UInt8 × List UInt8 × Bool × Unit) =>
 F50 _ e2.1 e2.2.1 e2.2.2.1 e2.2.2.2.1 fun t3 t4 t5 b6 =>
 chk (0 ≤ (lI s1 2) ∧ (lI s1 2).toNat < (lL s1 1).length) <|
 storeO (lL s1 1) ((lI s1 2).toNat) 0 [.str t3, .str t4, .str t5, .bool b6] fun l7 =>
 some (.inl [.l (lL s1 0), .l l7, .i (IntKind.wrap .i64 ((lI s1 2) + 1))])) (
 some (.inr (0, [.l (lL s1 1)])))) [.l a, .l (List.replicate ((a.length : Int).toNat) (.agg [.str [], .str [], .str [], .bool false])), .i 0] fun (r8 : Nat × List Leaf) =>
 k (lL r8.2 0)
def F28 : T28 := P28 F50 
def X28 : Exits := fun i => lookN i [] [(3, [(.exit 0, xk 23 [(3, .own 1000000 4 .flat [])] [])])]
abbrev s28 : List (Bool × List CK) := [(false, [.sl 4 true])]
def G28 (F : T28) (β : Type) (e : (List V × Unit) × Unit) (k : V → Option β) : Option β := F β e.1.1 (fun y1 => k (.own 0 4 .flat y1))
abbrev W28 (F : T28) : WT := wrap s28 (G28 F)
theorem k28 (F50 : T50) (β : Type) (e : argsT s28) (k : V → Option β) : fnK cfg (tabL [(50, W50 F50)]) X28 28 Try.f28 β (argsEnc s28 e) k = G28 (P28 F50 ) β e k := by kernel_rfl
theorem ok28 : FnOk D 28 (W28 F28) := fn_okW [(50, W50 F50)] X28 (fun _ => rfl) Try.func28 rfl (tabL_cons ok50 tabL_nil) (k28 F50 )

/-- laws.toNet -/
abbrev T8 : Type 1 := (β : Type) → List V → List V → List V → Int → (List V → List V → List V → Int → Option β) → Option β
def P8 (F26 : T26) (F27 : T27) (F28 : T28) : T8 := fun β a_Servers a_Cache_Entries a_Log a_Now k =>
 F26 _ a_Servers fun l1 =>
 F27 _ a_Cache_Entries fun l2 =>
 F28 _ a_Log fun l3 =>
 k l1 l2 l3 a_Now
def F8 : T8 := P8 F26 F27 F28 
abbrev s8 : List (Bool × List CK) := [(true, [.sl 2 false, .sl 10 true, .sl 4 true, .int .i64])]
def G8 (F : T8) (β : Type) (e : (List V × List V × List V × Int × Unit) × Unit) (k : V → Option β) : Option β := F β e.1.1 e.1.2.1 e.1.2.2.1 e.1.2.2.2.1 (fun y1 y2 y3 y4 => k (.agg [.own 0 2 .clean y1, .own 1 10 .flat y2, .own 2 4 .flat y3, .int .i64 y4]))
abbrev W8 (F : T8) : WT := wrap s8 (G8 F)
theorem k8 (F26 : T26) (F27 : T27) (F28 : T28) (β : Type) (e : argsT s8) (k : V → Option β) : fnK cfg (tabL [(26, W26 F26), (27, W27 F27), (28, W28 F28)]) noX 8 Try.f8 β (argsEnc s8 e) k = G8 (P8 F26 F27 F28 ) β e k := by kernel_rfl
theorem ok8 : FnOk D 8 (W8 F8) := fn_okW [(26, W26 F26), (27, W27 F27), (28, W28 F28)] noX (fun _ => rfl) Try.func8 rfl (tabL_cons ok26 (tabL_cons ok27 (tabL_cons ok28 tabL_nil))) (k8 F26 F27 F28 )

/-- laws.eqResponse -/
abbrev T94 : Type 1 := (β : Type) → Int → Int → List UInt8 → Int → Bool → List UInt8 → Int → Int → List UInt8 → Int → Bool → List UInt8 → (Bool → Option β) → Option β
def P94 : T94 := fun β a_Status a_Kind a_Body a_Age a_Shares a_Policy b_Status b_Kind b_Body b_Age b_Shares b_Policy k =>
 br (a_Status != b_Status) (
 k false) (
 br (a_Kind != b_Kind) (
 k false) (
 br (!(a_Body == b_Body)) (
 k false) (
 br (a_Age != b_Age) (
 k false) (
 br (!(a_Shares == b_Shares)) (
 k false) (
 br (!(a_Policy == b_Policy)) (
 k false) (
 k true))))))
def F94 : T94 := P94 
abbrev s94 : List (Bool × List CK) := [(true, [.int .i64, .int .i64, .str, .int .i64, .bool, .str]), (true, [.int .i64, .int .i64, .str, .int .i64, .bool, .str])]
def G94 (F : T94) (β : Type) (e : (Int × Int × List UInt8 × Int × Bool × List UInt8 × Unit) × (Int × Int × List UInt8 × Int × Bool × List UInt8 × Unit) × Unit) (k : V → Option β) : Option β := let a0_0 := e.1; let a0_1 := a0_0.2; let a0_2 := a0_1.2; let a0_3 := a0_2.2; let a0_4 := a0_3.2; let a0_5 := a0_4.2; let a1_0 := e.2.1; let a1_1 := a1_0.2; let a1_2 := a1_1.2; let a1_3 := a1_2.2; let a1_4 := a1_3.2; let a1_5 := a1_4.2; F β a0_0.1 a0_1.1 a0_2.1 a0_3.1 a0_4.1 a0_5.1 a1_0.1 a1_1.1 a1_2.1 a1_3.1 a1_4.1 a1_5.1 (fun y1 => k (.bool y1))
abbrev W94 (F : T94) : WT := wrap s94 (G94 F)
theorem k94 (β : Type) (e : argsT s94) (k : V → Option β) : fnK cfg (tabL []) noX 94 Try.f94 β (argsEnc s94 e) k = G94 (P94 ) β e k := by kernel_rfl
theorem ok94 : FnOk D 94 (W94 F94) := fn_okW [] noX (fun _ => rfl) Try.func94 rfl (tabL_nil) (k94 )

/-- laws.eqFile -/
abbrev T93 : Type 1 := (β : Type) → List UInt8 → Int → Int → List UInt8 → Int → Bool → List UInt8 → List UInt8 → Int → Int → List UInt8 → Int → Bool → List UInt8 → (Bool → Option β) → Option β
def P93 (F94 : T94) : T93 := fun β a_Path a_Response_Status a_Response_Kind a_Response_Body a_Response_Age a_Response_Shares a_Response_Policy b_Path b_Response_Status b_Response_Kind b_Response_Body b_Response_Age b_Response_Shares b_Response_Policy k =>
 br (!(a_Path == b_Path)) (
 k false) (
 F94 _ a_Response_Status a_Response_Kind a_Response_Body a_Response_Age a_Response_Shares a_Response_Policy b_Response_Status b_Response_Kind b_Response_Body b_Response_Age b_Response_Shares b_Response_Policy fun b1 =>
 br (!b1) (
 k false) (
 k true))
def F93 : T93 := P93 F94 
abbrev s93 : List (Bool × List CK) := [(true, [.str, .int .i64, .int .i64, .str, .int .i64, .bool, .str]), (true, [.str, .int .i64, .int .i64, .str, .int .i64, .bool, .str])]
def G93 (F : T93) (β : Type) (e : (List UInt8 × Int × Int × List UInt8 × Int × Bool × List UInt8 × Unit) × (List UInt8 × Int × Int × List UInt8 × Int × Bool × List UInt8 × Unit) × Unit) (k : V → Option β) : Option β := let a0_0 := e.1; let a0_1 := a0_0.2; let a0_2 := a0_1.2; let a0_3 := a0_2.2; let a0_4 := a0_3.2; let a0_5 := a0_4.2; let a0_6 := a0_5.2; let a1_0 := e.2.1; let a1_1 := a1_0.2; let a1_2 := a1_1.2; let a1_3 := a1_2.2; let a1_4 := a1_3.2; let a1_5 := a1_4.2; let a1_6 := a1_5.2; F β a0_0.1 a0_1.1 a0_2.1 a0_3.1 a0_4.1 a0_5.1 a0_6.1 a1_0.1 a1_1.1 a1_2.1 a1_3.1 a1_4.1 a1_5.1 a1_6.1 (fun y1 => k (.bool y1))
abbrev W93 (F : T93) : WT := wrap s93 (G93 F)
theorem k93 (F94 : T94) (β : Type) (e : argsT s93) (k : V → Option β) : fnK cfg (tabL [(94, W94 F94)]) noX 93 Try.f93 β (argsEnc s93 e) k = G93 (P93 F94 ) β e k := by kernel_rfl
theorem ok93 : FnOk D 93 (W93 F93) := fn_okW [(94, W94 F94)] noX (fun _ => rfl) Try.func93 rfl (tabL_cons ok94 tabL_nil) (k93 F94 )

/-- laws.eqFileS -/
abbrev T73 : Type 1 := (β : Type) → List V → List V → (Bool → Option β) → Option β
def P73 (F93 : T93) : T73 := fun β a b k =>
 br ((a.length : Int) != (b.length : Int)) (
 k false) (
 whileK (fun s1 =>
 br (decide ((lI s1 2) < ((lL s1 0).length : Int))) (
 chk (0 ≤ (lI s1 2)) <|
 idx true [.str, .int .i64, .int .i64, .str, .int .i64, .bool, .str] (lL s1 0) ((lI s1 2).toNat) fun (e2 : List UInt8 × Int × Int × List UInt8 × Int × Bool × List UInt8 × Unit) =>
 chk (0 ≤ (lI s1 2)) <|
 idx true [.str, .int .i64, .int .i64, .str, .int .i64, .bool, .str] (lL s1 1) ((lI s1 2).toNat) fun (e3 : List UInt8 × Int × Int × List UInt8 × Int × Bool × List UInt8 × Unit) =>
 F93 _ e2.1 e2.2.1 e2.2.2.1 e2.2.2.2.1 e2.2.2.2.2.1 e2.2.2.2.2.2.1 e2.2.2.2.2.2.2.1 e3.1 e3.2.1 e3.2.2.1 e3.2.2.2.1 e3.2.2.2.2.1 e3.2.2.2.2.2.1 e3.2.2.2.2.2.2.1 fun b4 =>
 br (!b4) (
 some (.inr (0, [.b false]))) (
 some (.inl [.l (lL s1 0), .l (lL s1 1), .i (IntKind.wrap .i64 ((lI s1 2) + 1))]))) (
 some (.inr (1, [])))) [.l a, .l b, .i 0] fun (r5 : Nat × List Leaf) =>
 if r5.1 = 0 then
 k (lB r5.2 0)
 else
 k true)
def F73 : T73 := P73 F93 
def X73 : Exits := fun i => lookN i [] [(4, [(.ret, xk 27 [(4, .bool false)] []), (.exit 0, xk 27 [] [])])]
abbrev s73 : List (Bool × List CK) := [(false, [.sl 7 true]), (false, [.sl 7 true])]
def G73 (F : T73) (β : Type) (e : (List V × Unit) × (List V × Unit) × Unit) (k : V → Option β) : Option β := F β e.1.1 e.2.1.1 (fun y1 => k (.bool y1))
abbrev W73 (F : T73) : WT := wrap s73 (G73 F)
theorem k73 (F93 : T93) (β : Type) (e : argsT s73) (k : V → Option β) : fnK cfg (tabL [(93, W93 F93)]) X73 73 Try.f73 β (argsEnc s73 e) k = G73 (P73 F93 ) β e k := by kernel_rfl
theorem ok73 : FnOk D 73 (W73 F73) := fn_okW [(93, W93 F93)] X73 (fun _ => rfl) Try.func73 rfl (tabL_cons ok93 tabL_nil) (k73 F93 )

/-- laws.eqServer -/
abbrev T54 : Type 1 := (β : Type) → List UInt8 → List V → List UInt8 → List V → (Bool → Option β) → Option β
def P54 (F73 : T73) : T54 := fun β a_Host a_Files b_Host b_Files k =>
 br (!(a_Host == b_Host)) (
 k false) (
 F73 _ a_Files b_Files fun b1 =>
 br (!b1) (
 k false) (
 k true))
def F54 : T54 := P54 F73 
abbrev s54 : List (Bool × List CK) := [(true, [.str, .sl 7 true]), (true, [.str, .sl 7 true])]
def G54 (F : T54) (β : Type) (e : (List UInt8 × List V × Unit) × (List UInt8 × List V × Unit) × Unit) (k : V → Option β) : Option β := F β e.1.1 e.1.2.1 e.2.1.1 e.2.1.2.1 (fun y1 => k (.bool y1))
abbrev W54 (F : T54) : WT := wrap s54 (G54 F)
theorem k54 (F73 : T73) (β : Type) (e : argsT s54) (k : V → Option β) : fnK cfg (tabL [(73, W73 F73)]) noX 54 Try.f54 β (argsEnc s54 e) k = G54 (P54 F73 ) β e k := by kernel_rfl
theorem ok54 : FnOk D 54 (W54 F54) := fn_okW [(73, W73 F73)] noX (fun _ => rfl) Try.func54 rfl (tabL_cons ok73 tabL_nil) (k54 F73 )

/-- laws.eqServerS -/
abbrev T32 : Type 1 := (β : Type) → List V → List V → (Bool → Option β) → Option β
def P32 (F54 : T54) : T32 := fun β a b k =>
 br ((a.length : Int) != (b.length : Int)) (
 k false) (
 whileK (fun s1 =>
 br (decide ((lI s1 2) < ((lL s1 0).length : Int))) (
 chk (0 ≤ (lI s1 2)) <|
 idx true [.str, .sl 7 true] (lL s1 0) ((lI s1 2).toNat) fun (e2 : List UInt8 × List V × Unit) =>
 chk (0 ≤ (lI s1 2)) <|
 idx true [.str, .sl 7 true] (lL s1 1) ((lI s1 2).toNat) fun (e3 : List UInt8 × List V × Unit) =>
 F54 _ e2.1 e2.2.1 e3.1 e3.2.1 fun b4 =>
 br (!b4) (
 some (.inr (0, [.b false]))) (
 some (.inl [.l (lL s1 0), .l (lL s1 1), .i (IntKind.wrap .i64 ((lI s1 2) + 1))]))) (
 some (.inr (1, [])))) [.l a, .l b, .i 0] fun (r5 : Nat × List Leaf) =>
 if r5.1 = 0 then
 k (lB r5.2 0)
 else
 k true)
def F32 : T32 := P32 F54 
def X32 : Exits := fun i => lookN i [] [(4, [(.ret, xk 27 [(4, .bool false)] []), (.exit 0, xk 27 [] [])])]
abbrev s32 : List (Bool × List CK) := [(false, [.sl 2 false]), (false, [.sl 2 false])]
def G32 (F : T32) (β : Type) (e : (List V × Unit) × (List V × Unit) × Unit) (k : V → Option β) : Option β := F β e.1.1 e.2.1.1 (fun y1 => k (.bool y1))
abbrev W32 (F : T32) : WT := wrap s32 (G32 F)
theorem k32 (F54 : T54) (β : Type) (e : argsT s32) (k : V → Option β) : fnK cfg (tabL [(54, W54 F54)]) X32 32 Try.f32 β (argsEnc s32 e) k = G32 (P32 F54 ) β e k := by kernel_rfl
theorem ok32 : FnOk D 32 (W32 F32) := fn_okW [(54, W54 F54)] X32 (fun _ => rfl) Try.func32 rfl (tabL_cons ok54 tabL_nil) (k32 F54 )

/-- laws.eqAddr -/
abbrev T43 : Type 1 := (β : Type) → List UInt8 → List UInt8 → List UInt8 → List UInt8 → (Bool → Option β) → Option β
def P43 : T43 := fun β a_Host a_Path b_Host b_Path k =>
 br (!(a_Host == b_Host)) (
 k false) (
 br (!(a_Path == b_Path)) (
 k false) (
 k true))
def F43 : T43 := P43 
abbrev s43 : List (Bool × List CK) := [(true, [.str, .str]), (true, [.str, .str])]
def G43 (F : T43) (β : Type) (e : (List UInt8 × List UInt8 × Unit) × (List UInt8 × List UInt8 × Unit) × Unit) (k : V → Option β) : Option β := F β e.1.1 e.1.2.1 e.2.1.1 e.2.1.2.1 (fun y1 => k (.bool y1))
abbrev W43 (F : T43) : WT := wrap s43 (G43 F)
theorem k43 (β : Type) (e : argsT s43) (k : V → Option β) : fnK cfg (tabL []) noX 43 Try.f43 β (argsEnc s43 e) k = G43 (P43 ) β e k := by kernel_rfl
theorem ok43 : FnOk D 43 (W43 F43) := fn_okW [] noX (fun _ => rfl) Try.func43 rfl (tabL_nil) (k43 )

/-- laws.eqEntry -/
abbrev T74 : Type 1 := (β : Type) → List UInt8 → List UInt8 → List UInt8 → Int → Int → List UInt8 → Int → Bool → List UInt8 → Int → List UInt8 → List UInt8 → List UInt8 → Int → Int → List UInt8 → Int → Bool → List UInt8 → Int → (Bool → Option β) → Option β
def P74 (F43 : T43) (F94 : T94) : T74 := fun β a_Top a_To_Host a_To_Path a_Response_Status a_Response_Kind a_Response_Body a_Response_Age a_Response_Shares a_Response_Policy a_Until b_Top b_To_Host b_To_Path b_Response_Status b_Response_Kind b_Response_Body b_Response_Age b_Response_Shares b_Response_Policy b_Until k =>
 br (!(a_Top == b_Top)) (
 k false) (
 F43 _ a_To_Host a_To_Path b_To_Host b_To_Path fun b1 =>
 br (!b1) (
 k false) (
 F94 _ a_Response_Status a_Response_Kind a_Response_Body a_Response_Age a_Response_Shares a_Response_Policy b_Response_Status b_Response_Kind b_Response_Body b_Response_Age b_Response_Shares b_Response_Policy fun b2 =>
 br (!b2) (
 k false) (
 br (a_Until != b_Until) (
 k false) (
 k true))))
def F74 : T74 := P74 F43 F94 
abbrev s74 : List (Bool × List CK) := [(true, [.str, .str, .str, .int .i64, .int .i64, .str, .int .i64, .bool, .str, .int .i64]), (true, [.str, .str, .str, .int .i64, .int .i64, .str, .int .i64, .bool, .str, .int .i64])]
def G74 (F : T74) (β : Type) (e : (List UInt8 × List UInt8 × List UInt8 × Int × Int × List UInt8 × Int × Bool × List UInt8 × Int × Unit) × (List UInt8 × List UInt8 × List UInt8 × Int × Int × List UInt8 × Int × Bool × List UInt8 × Int × Unit) × Unit) (k : V → Option β) : Option β := let a0_0 := e.1; let a0_1 := a0_0.2; let a0_2 := a0_1.2; let a0_3 := a0_2.2; let a0_4 := a0_3.2; let a0_5 := a0_4.2; let a0_6 := a0_5.2; let a0_7 := a0_6.2; let a0_8 := a0_7.2; let a0_9 := a0_8.2; let a1_0 := e.2.1; let a1_1 := a1_0.2; let a1_2 := a1_1.2; let a1_3 := a1_2.2; let a1_4 := a1_3.2; let a1_5 := a1_4.2; let a1_6 := a1_5.2; let a1_7 := a1_6.2; let a1_8 := a1_7.2; let a1_9 := a1_8.2; F β a0_0.1 a0_1.1 a0_2.1 a0_3.1 a0_4.1 a0_5.1 a0_6.1 a0_7.1 a0_8.1 a0_9.1 a1_0.1 a1_1.1 a1_2.1 a1_3.1 a1_4.1 a1_5.1 a1_6.1 a1_7.1 a1_8.1 a1_9.1 (fun y1 => k (.bool y1))
abbrev W74 (F : T74) : WT := wrap s74 (G74 F)
theorem k74 (F43 : T43) (F94 : T94) (β : Type) (e : argsT s74) (k : V → Option β) : fnK cfg (tabL [(43, W43 F43), (94, W94 F94)]) noX 74 Try.f74 β (argsEnc s74 e) k = G74 (P74 F43 F94 ) β e k := by kernel_rfl
theorem ok74 : FnOk D 74 (W74 F74) := fn_okW [(43, W43 F43), (94, W94 F94)] noX (fun _ => rfl) Try.func74 rfl (tabL_cons ok43 (tabL_cons ok94 tabL_nil)) (k74 F43 F94 )

/-- laws.eqEntryS -/
abbrev T55 : Type 1 := (β : Type) → List V → List V → (Bool → Option β) → Option β
def P55 (F74 : T74) : T55 := fun β a b k =>
 br ((a.length : Int) != (b.length : Int)) (
 k false) (
 whileK (fun s1 =>
 br (decide ((lI s1 2) < ((lL s1 0).length : Int))) (
 chk (0 ≤ (lI s1 2)) <|
 idx true [.str, .str, .str, .int .i64, .int .i64, .str, .int .i64, .bool, .str, .int .i64] (lL s1 0) ((lI s1 2).toNat) fun (e2 : List UInt8 × List UInt8 × List UInt8 × Int × Int × List UInt8 × Int × Bool × List UInt8 × Int × Unit) =>
 chk (0 ≤ (lI s1 2)) <|
 idx true [.str, .str, .str, .int .i64, .int .i64, .str, .int .i64, .bool, .str, .int .i64] (lL s1 1) ((lI s1 2).toNat) fun (e3 : List UInt8 × List UInt8 × List UInt8 × Int × Int × List UInt8 × Int × Bool × List UInt8 × Int × Unit) =>
 F74 _ e2.1 e2.2.1 e2.2.2.1 e2.2.2.2.1 e2.2.2.2.2.1 e2.2.2.2.2.2.1 e2.2.2.2.2.2.2.1 e2.2.2.2.2.2.2.2.1 e2.2.2.2.2.2.2.2.2.1 e2.2.2.2.2.2.2.2.2.2.1 e3.1 e3.2.1 e3.2.2.1 e3.2.2.2.1 e3.2.2.2.2.1 e3.2.2.2.2.2.1 e3.2.2.2.2.2.2.1 e3.2.2.2.2.2.2.2.1 e3.2.2.2.2.2.2.2.2.1 e3.2.2.2.2.2.2.2.2.2.1 fun b4 =>
 br (!b4) (
 some (.inr (0, [.b false]))) (
 some (.inl [.l (lL s1 0), .l (lL s1 1), .i (IntKind.wrap .i64 ((lI s1 2) + 1))]))) (
 some (.inr (1, [])))) [.l a, .l b, .i 0] fun (r5 : Nat × List Leaf) =>
 if r5.1 = 0 then
 k (lB r5.2 0)
 else
 k true)
def F55 : T55 := P55 F74 
def X55 : Exits := fun i => lookN i [] [(4, [(.ret, xk 27 [(4, .bool false)] []), (.exit 0, xk 27 [] [])])]
abbrev s55 : List (Bool × List CK) := [(false, [.sl 10 true]), (false, [.sl 10 true])]
def G55 (F : T55) (β : Type) (e : (List V × Unit) × (List V × Unit) × Unit) (k : V → Option β) : Option β := F β e.1.1 e.2.1.1 (fun y1 => k (.bool y1))
abbrev W55 (F : T55) : WT := wrap s55 (G55 F)
theorem k55 (F74 : T74) (β : Type) (e : argsT s55) (k : V → Option β) : fnK cfg (tabL [(74, W74 F74)]) X55 55 Try.f55 β (argsEnc s55 e) k = G55 (P55 F74 ) β e k := by kernel_rfl
theorem ok55 : FnOk D 55 (W55 F55) := fn_okW [(74, W74 F74)] X55 (fun _ => rfl) Try.func55 rfl (tabL_cons ok74 tabL_nil) (k55 F74 )

/-- laws.eqCache -/
abbrev T33 : Type 1 := (β : Type) → List V → List V → (Bool → Option β) → Option β
def P33 (F55 : T55) : T33 := fun β a_Entries b_Entries k =>
 F55 _ a_Entries b_Entries fun b1 =>
 br (!b1) (
 k false) (
 k true)
def F33 : T33 := P33 F55 
abbrev s33 : List (Bool × List CK) := [(true, [.sl 10 true]), (true, [.sl 10 true])]
def G33 (F : T33) (β : Type) (e : (List V × Unit) × (List V × Unit) × Unit) (k : V → Option β) : Option β := F β e.1.1 e.2.1.1 (fun y1 => k (.bool y1))
abbrev W33 (F : T33) : WT := wrap s33 (G33 F)
theorem k33 (F55 : T55) (β : Type) (e : argsT s33) (k : V → Option β) : fnK cfg (tabL [(55, W55 F55)]) noX 33 Try.f33 β (argsEnc s33 e) k = G33 (P33 F55 ) β e k := by kernel_rfl
theorem ok33 : FnOk D 33 (W33 F33) := fn_okW [(55, W55 F55)] noX (fun _ => rfl) Try.func33 rfl (tabL_cons ok55 tabL_nil) (k33 F55 )

/-- laws.eqSent -/
abbrev T56 : Type 1 := (β : Type) → List UInt8 → List UInt8 → List UInt8 → Bool → List UInt8 → List UInt8 → List UInt8 → Bool → (Bool → Option β) → Option β
def P56 (F43 : T43) : T56 := fun β a_Top a_To_Host a_To_Path a_Guess b_Top b_To_Host b_To_Path b_Guess k =>
 br (!(a_Top == b_Top)) (
 k false) (
 F43 _ a_To_Host a_To_Path b_To_Host b_To_Path fun b1 =>
 br (!b1) (
 k false) (
 br (!(a_Guess == b_Guess)) (
 k false) (
 k true)))
def F56 : T56 := P56 F43 
abbrev s56 : List (Bool × List CK) := [(true, [.str, .str, .str, .bool]), (true, [.str, .str, .str, .bool])]
def G56 (F : T56) (β : Type) (e : (List UInt8 × List UInt8 × List UInt8 × Bool × Unit) × (List UInt8 × List UInt8 × List UInt8 × Bool × Unit) × Unit) (k : V → Option β) : Option β := F β e.1.1 e.1.2.1 e.1.2.2.1 e.1.2.2.2.1 e.2.1.1 e.2.1.2.1 e.2.1.2.2.1 e.2.1.2.2.2.1 (fun y1 => k (.bool y1))
abbrev W56 (F : T56) : WT := wrap s56 (G56 F)
theorem k56 (F43 : T43) (β : Type) (e : argsT s56) (k : V → Option β) : fnK cfg (tabL [(43, W43 F43)]) noX 56 Try.f56 β (argsEnc s56 e) k = G56 (P56 F43 ) β e k := by kernel_rfl
theorem ok56 : FnOk D 56 (W56 F56) := fn_okW [(43, W43 F43)] noX (fun _ => rfl) Try.func56 rfl (tabL_cons ok43 tabL_nil) (k56 F43 )

/-- laws.eqSentS -/
abbrev T34 : Type 1 := (β : Type) → List V → List V → (Bool → Option β) → Option β
def P34 (F56 : T56) : T34 := fun β a b k =>
 br ((a.length : Int) != (b.length : Int)) (
 k false) (
 whileK (fun s1 =>
 br (decide ((lI s1 2) < ((lL s1 0).length : Int))) (
 chk (0 ≤ (lI s1 2)) <|
 idx true [.str, .str, .str, .bool] (lL s1 0) ((lI s1 2).toNat) fun (e2 : List UInt8 × List UInt8 × List UInt8 × Bool × Unit) =>
 chk (0 ≤ (lI s1 2)) <|
 idx true [.str, .str, .str, .bool] (lL s1 1) ((lI s1 2).toNat) fun (e3 : List UInt8 × List UInt8 × List UInt8 × Bool × Unit) =>
 F56 _ e2.1 e2.2.1 e2.2.2.1 e2.2.2.2.1 e3.1 e3.2.1 e3.2.2.1 e3.2.2.2.1 fun b4 =>
 br (!b4) (
 some (.inr (0, [.b false]))) (
 some (.inl [.l (lL s1 0), .l (lL s1 1), .i (IntKind.wrap .i64 ((lI s1 2) + 1))]))) (
 some (.inr (1, [])))) [.l a, .l b, .i 0] fun (r5 : Nat × List Leaf) =>
 if r5.1 = 0 then
 k (lB r5.2 0)
 else
 k true)
def F34 : T34 := P34 F56 
def X34 : Exits := fun i => lookN i [] [(4, [(.ret, xk 27 [(4, .bool false)] []), (.exit 0, xk 27 [] [])])]
abbrev s34 : List (Bool × List CK) := [(false, [.sl 4 true]), (false, [.sl 4 true])]
def G34 (F : T34) (β : Type) (e : (List V × Unit) × (List V × Unit) × Unit) (k : V → Option β) : Option β := F β e.1.1 e.2.1.1 (fun y1 => k (.bool y1))
abbrev W34 (F : T34) : WT := wrap s34 (G34 F)
theorem k34 (F56 : T56) (β : Type) (e : argsT s34) (k : V → Option β) : fnK cfg (tabL [(56, W56 F56)]) X34 34 Try.f34 β (argsEnc s34 e) k = G34 (P34 F56 ) β e k := by kernel_rfl
theorem ok34 : FnOk D 34 (W34 F34) := fn_okW [(56, W56 F56)] X34 (fun _ => rfl) Try.func34 rfl (tabL_cons ok56 tabL_nil) (k34 F56 )

/-- laws.eqNet -/
abbrev T11 : Type 1 := (β : Type) → List V → List V → List V → Int → List V → List V → List V → Int → (Bool → Option β) → Option β
def P11 (F32 : T32) (F33 : T33) (F34 : T34) : T11 := fun β a_Servers a_Cache_Entries a_Log a_Now b_Servers b_Cache_Entries b_Log b_Now k =>
 F32 _ a_Servers b_Servers fun b1 =>
 br (!b1) (
 k false) (
 F33 _ a_Cache_Entries b_Cache_Entries fun b2 =>
 br (!b2) (
 k false) (
 F34 _ a_Log b_Log fun b3 =>
 br (!b3) (
 k false) (
 br (a_Now != b_Now) (
 k false) (
 k true))))
def F11 : T11 := P11 F32 F33 F34 
abbrev s11 : List (Bool × List CK) := [(true, [.sl 2 false, .sl 10 true, .sl 4 true, .int .i64]), (true, [.sl 2 false, .sl 10 true, .sl 4 true, .int .i64])]
def G11 (F : T11) (β : Type) (e : (List V × List V × List V × Int × Unit) × (List V × List V × List V × Int × Unit) × Unit) (k : V → Option β) : Option β := F β e.1.1 e.1.2.1 e.1.2.2.1 e.1.2.2.2.1 e.2.1.1 e.2.1.2.1 e.2.1.2.2.1 e.2.1.2.2.2.1 (fun y1 => k (.bool y1))
abbrev W11 (F : T11) : WT := wrap s11 (G11 F)
theorem k11 (F32 : T32) (F33 : T33) (F34 : T34) (β : Type) (e : argsT s11) (k : V → Option β) : fnK cfg (tabL [(32, W32 F32), (33, W33 F33), (34, W34 F34)]) noX 11 Try.f11 β (argsEnc s11 e) k = G11 (P11 F32 F33 F34 ) β e k := by kernel_rfl
theorem ok11 : FnOk D 11 (W11 F11) := fn_okW [(32, W32 F32), (33, W33 F33), (34, W34 F34)] noX (fun _ => rfl) Try.func11 rfl (tabL_cons ok32 (tabL_cons ok33 (tabL_cons ok34 tabL_nil))) (k11 F32 F33 F34 )

/-- laws.eqAddrS -/
abbrev T17 : Type 1 := (β : Type) → List V → List V → (Bool → Option β) → Option β
def P17 (F43 : T43) : T17 := fun β a b k =>
 br ((a.length : Int) != (b.length : Int)) (
 k false) (
 whileK (fun s1 =>
 br (decide ((lI s1 2) < ((lL s1 0).length : Int))) (
 chk (0 ≤ (lI s1 2)) <|
 idx true [.str, .str] (lL s1 0) ((lI s1 2).toNat) fun (e2 : List UInt8 × List UInt8 × Unit) =>
 chk (0 ≤ (lI s1 2)) <|
 idx true [.str, .str] (lL s1 1) ((lI s1 2).toNat) fun (e3 : List UInt8 × List UInt8 × Unit) =>
 F43 _ e2.1 e2.2.1 e3.1 e3.2.1 fun b4 =>
 br (!b4) (
 some (.inr (0, [.b false]))) (
 some (.inl [.l (lL s1 0), .l (lL s1 1), .i (IntKind.wrap .i64 ((lI s1 2) + 1))]))) (
 some (.inr (1, [])))) [.l a, .l b, .i 0] fun (r5 : Nat × List Leaf) =>
 if r5.1 = 0 then
 k (lB r5.2 0)
 else
 k true)
def F17 : T17 := P17 F43 
def X17 : Exits := fun i => lookN i [] [(4, [(.ret, xk 27 [(4, .bool false)] []), (.exit 0, xk 27 [] [])])]
abbrev s17 : List (Bool × List CK) := [(false, [.sl 2 true]), (false, [.sl 2 true])]
def G17 (F : T17) (β : Type) (e : (List V × Unit) × (List V × Unit) × Unit) (k : V → Option β) : Option β := F β e.1.1 e.2.1.1 (fun y1 => k (.bool y1))
abbrev W17 (F : T17) : WT := wrap s17 (G17 F)
theorem k17 (F43 : T43) (β : Type) (e : argsT s17) (k : V → Option β) : fnK cfg (tabL [(43, W43 F43)]) X17 17 Try.f17 β (argsEnc s17 e) k = G17 (P17 F43 ) β e k := by kernel_rfl
theorem ok17 : FnOk D 17 (W17 F17) := fn_okW [(43, W43 F43)] X17 (fun _ => rfl) Try.func17 rfl (tabL_cons ok43 tabL_nil) (k17 F43 )

/-- laws.markText -/
abbrev T38 : Type 1 := (β : Type) → Int → (List UInt8 → Option β) → Option β
def P38 : T38 := fun β xk k =>
 br (decide (xk ≤ 0)) (
 k [109, 48]) (
 whileK (fun s1 =>
 br (decide ((lI s1 0) > 0)) (
 strO [.int .u8 (IntKind.wrap .u8 (IntKind.wrap .i64 (48 + (Int.tmod (lI s1 0) 10))))] fun t2 =>
 chk (t2.length + (lS s1 1).length ≤ 9223372036854775807) <|
 some (.inl [.i (IntKind.wrap .i64 (Int.tdiv (lI s1 0) 10)), .s (t2 ++ (lS s1 1))])) (
 some (.inr (0, [.s (lS s1 1)])))) [.i xk, .s []] fun (r3 : Nat × List Leaf) =>
 chk (([109] : List UInt8).length + (lS r3.2 0).length ≤ 9223372036854775807) <|
 k ([109] ++ (lS r3.2 0)))
def F38 : T38 := P38 
def X38 : Exits := fun i => lookN i [] [(4, [(.exit 0, xk 20 [(3, .str [])] [])])]
abbrev s38 : List (Bool × List CK) := [(false, [.int .i64])]
def G38 (F : T38) (β : Type) (e : (Int × Unit) × Unit) (k : V → Option β) : Option β := F β e.1.1 (fun y1 => k (.str y1))
abbrev W38 (F : T38) : WT := wrap s38 (G38 F)
theorem k38 (β : Type) (e : argsT s38) (k : V → Option β) : fnK cfg (tabL []) X38 38 Try.f38 β (argsEnc s38 e) k = G38 (P38 ) β e k := by kernel_rfl
theorem ok38 : FnOk D 38 (W38 F38) := fn_okW [] X38 (fun _ => rfl) Try.func38 rfl (tabL_nil) (k38 )

/-- laws.heldAddrS -/
abbrev T19 : Type 1 := (β : Type) → List V → Int → (Int → Option β) → Option β
def P19 (F38 : T38) : T19 := fun β a xk k =>
 whileK (fun s1 =>
 br (decide ((lI s1 2) < ((lL s1 0).length : Int))) (
 chk (0 ≤ (lI s1 2)) <|
 idx true [.str, .str] (lL s1 0) ((lI s1 2).toNat) fun (e2 : List UInt8 × List UInt8 × Unit) =>
 F38 _ (lI s1 1) fun t3 =>
 br (!(e2.1 == t3)) (
 some (.inr (0, [.i (lI s1 1), .i (-1)]))) (
 chk (0 ≤ (lI s1 2)) <|
 idx true [.str, .str] (lL s1 0) ((lI s1 2).toNat) fun (e4 : List UInt8 × List UInt8 × Unit) =>
 F38 _ (IntKind.wrap .i64 ((lI s1 1) + 1)) fun t5 =>
 br (!(e4.2.1 == t5)) (
 some (.inr (0, [.i (IntKind.wrap .i64 ((lI s1 1) + 1)), .i (-1)]))) (
 some (.inl [.l (lL s1 0), .i (IntKind.wrap .i64 ((IntKind.wrap .i64 ((lI s1 1) + 1)) + 1)), .i (IntKind.wrap .i64 ((lI s1 2) + 1))])))) (
 some (.inr (1, [.i (lI s1 1)])))) [.l a, .i xk, .i 0] fun (r6 : Nat × List Leaf) =>
 if r6.1 = 0 then
 k (lI r6.2 1)
 else
 k (lI r6.2 0)
def F19 : T19 := P19 F38 
def X19 : Exits := fun i => lookN i [] [(2, [(.ret, xk 33 [(1, .int .i64 0), (4, .int .i64 0)] []), (.exit 0, xk 33 [(1, .int .i64 0)] [])])]
abbrev s19 : List (Bool × List CK) := [(false, [.sl 2 true]), (false, [.int .i64])]
def G19 (F : T19) (β : Type) (e : (List V × Unit) × (Int × Unit) × Unit) (k : V → Option β) : Option β := F β e.1.1 e.2.1.1 (fun y1 => k (.int .i64 y1))
abbrev W19 (F : T19) : WT := wrap s19 (G19 F)
theorem k19 (F38 : T38) (β : Type) (e : argsT s19) (k : V → Option β) : fnK cfg (tabL [(38, W38 F38)]) X19 19 Try.f19 β (argsEnc s19 e) k = G19 (P19 F38 ) β e k := by kernel_rfl
theorem ok19 : FnOk D 19 (W19 F19) := fn_okW [(38, W38 F38)] X19 (fun _ => rfl) Try.func19 rfl (tabL_cons ok38 tabL_nil) (k19 F38 )

/-- spec.SentTo -/
abbrev T39 : Type 1 := (β : Type) → List V → List V → List V → Int → List UInt8 → (List V → Option β) → Option β
def P39 : T39 := fun β n_Servers n_Cache_Entries n_Log n_Now host k =>
 whileK (fun s1 =>
 br (decide ((lI s1 2) < ((lL s1 5).length : Int))) (
 chk (0 ≤ (lI s1 2)) <|
 idx true [.str, .str, .str, .bool] (lL s1 5) ((lI s1 2).toNat) fun (e2 : List UInt8 × List UInt8 × List UInt8 × Bool × Unit) =>
 br (e2.2.1 == (lS s1 0)) (
 chk (0 ≤ (lI s1 2)) <|
 idx true [.str, .str, .str, .bool] (lL s1 5) ((lI s1 2).toNat) fun (e3 : List UInt8 × List UInt8 × List UInt8 × Bool × Unit) =>
 chk (((lL s1 1).length + ([.agg [.str e3.1, .str e3.2.1, .str e3.2.2.1, .bool e3.2.2.2.1]] : List V).length) * 56 ≤ 140737488355328 ∧ (lL s1 1).length + ([.agg [.str e3.1, .str e3.2.1, .str e3.2.2.1, .bool e3.2.2.2.1]] : List V).length ≤ 140737488355328) <|
 some (.inl [.s (lS s1 0), .l ((lL s1 1) ++ ([.agg [.str e3.1, .str e3.2.1, .str e3.2.2.1, .bool e3.2.2.2.1]] : List V)), .i (IntKind.wrap .i64 ((lI s1 2) + 1)), .l (lL s1 3), .l (lL s1 4), .l (lL s1 5), .i (lI s1 6)])) (
 some (.inl [.s (lS s1 0), .l (lL s1 1), .i (IntKind.wrap .i64 ((lI s1 2) + 1)), .l (lL s1 3), .l (lL s1 4), .l (lL s1 5), .i (lI s1 6)]))) (
 some (.inr (0, [.l (lL s1 1)])))) [.s host, .l [], .i 0, .l n_Servers, .l n_Cache_Entries, .l n_Log, .i n_Now] fun (r4 : Nat × List Leaf) =>
 k (lL r4.2 0)
def F39 : T39 := P39 
def X39 : Exits := fun i => lookN i [] [(3, [(.exit 0, xk 33 [(5, .own 1000000 4 .flat [])] [])])]
abbrev s39 : List (Bool × List CK) := [(true, [.sl 2 false, .sl 10 true, .sl 4 true, .int .i64]), (false, [.str])]
def G39 (F : T39) (β : Type) (e : (List V × List V × List V × Int × Unit) × (List UInt8 × Unit) × Unit) (k : V → Option β) : Option β := F β e.1.1 e.1.2.1 e.1.2.2.1 e.1.2.2.2.1 e.2.1.1 (fun y1 => k (.own 0 4 .flat y1))
abbrev W39 (F : T39) : WT := wrap s39 (G39 F)
theorem k39 (β : Type) (e : argsT s39) (k : V → Option β) : fnK cfg (tabL []) X39 39 Try.f39 β (argsEnc s39 e) k = G39 (P39 ) β e k := by kernel_rfl
theorem ok39 : FnOk D 39 (W39 F39) := fn_okW [] X39 (fun _ => rfl) Try.func39 rfl (tabL_nil) (k39 )

/-- spec.HasAddr -/
abbrev T59 : Type 1 := (β : Type) → List V → List UInt8 → List UInt8 → (Bool → Option β) → Option β
def P59 : T59 := fun β l a_Host a_Path k =>
 whileK (fun s1 =>
 br (decide ((lI s1 1) < ((lL s1 0).length : Int))) (
 chk (0 ≤ (lI s1 1)) <|
 idx true [.str, .str] (lL s1 0) ((lI s1 1).toNat) fun (e2 : List UInt8 × List UInt8 × Unit) =>
 br ((e2.1 == (lS s1 2)) && ((e2.2.1 == (lS s1 3)) && true)) (
 some (.inr (0, [.b true]))) (
 some (.inl [.l (lL s1 0), .i (IntKind.wrap .i64 ((lI s1 1) + 1)), .s (lS s1 2), .s (lS s1 3)]))) (
 some (.inr (1, [])))) [.l l, .i 0, .s a_Host, .s a_Path] fun (r3 : Nat × List Leaf) =>
 if r3.1 = 0 then
 k (lB r3.2 0)
 else
 k false
def F59 : T59 := P59 
def X59 : Exits := fun i => lookN i [] [(2, [(.ret, xk 18 [(4, .bool false)] []), (.exit 0, xk 18 [] [])])]
abbrev s59 : List (Bool × List CK) := [(false, [.sl 2 true]), (true, [.str, .str])]
def G59 (F : T59) (β : Type) (e : (List V × Unit) × (List UInt8 × List UInt8 × Unit) × Unit) (k : V → Option β) : Option β := F β e.1.1 e.2.1.1 e.2.1.2.1 (fun y1 => k (.bool y1))
abbrev W59 (F : T59) : WT := wrap s59 (G59 F)
theorem k59 (β : Type) (e : argsT s59) (k : V → Option β) : fnK cfg (tabL []) X59 59 Try.f59 β (argsEnc s59 e) k = G59 (P59 ) β e k := by kernel_rfl
theorem ok59 : FnOk D 59 (W59 F59) := fn_okW [] X59 (fun _ => rfl) Try.func59 rfl (tabL_nil) (k59 )

/-- spec.CompareAddrs -/
abbrev T60 : Type 1 := (β : Type) → List UInt8 → List UInt8 → List UInt8 → List UInt8 → (Int → Option β) → Option β
def P60 : T60 := fun β a_Host a_Path b_Host b_Path k =>
 br ((a_Host == b_Host) && ((a_Path == b_Path) && true)) (
 k 0) (
 br (less a_Host b_Host) (
 k (-1)) (
 br (a_Host == b_Host) (
 br (less a_Path b_Path) (
 k (-1)) (
 k 1)) (
 k 1)))
def F60 : T60 := P60 
abbrev s60 : List (Bool × List CK) := [(true, [.str, .str]), (true, [.str, .str])]
def G60 (F : T60) (β : Type) (e : (List UInt8 × List UInt8 × Unit) × (List UInt8 × List UInt8 × Unit) × Unit) (k : V → Option β) : Option β := F β e.1.1 e.1.2.1 e.2.1.1 e.2.1.2.1 (fun y1 => k (.int .i64 y1))
abbrev W60 (F : T60) : WT := wrap s60 (G60 F)
theorem k60 (β : Type) (e : argsT s60) (k : V → Option β) : fnK cfg (tabL []) noX 60 Try.f60 β (argsEnc s60 e) k = G60 (P60 ) β e k := by kernel_rfl
theorem ok60 : FnOk D 60 (W60 F60) := fn_okW [] noX (fun _ => rfl) Try.func60 rfl (tabL_nil) (k60 )

/-- spec.SortAddrs -/
abbrev T40 : Type 1 := (β : Type) → List V → (List V → Option β) → Option β
def P40 (F59 : T59) (F60 : T60) : T40 := fun β l k =>
 whileK (fun s1 =>
 br (decide ((lI s1 2) < ((lL s1 0).length : Int))) (
 chk (0 ≤ (lI s1 2)) <|
 idx true [.str, .str] (lL s1 0) ((lI s1 2).toNat) fun (e2 : List UInt8 × List UInt8 × Unit) =>
 F59 _ (lL s1 1) e2.1 e2.2.1 fun b3 =>
 br b3 (
 some (.inl [.l (lL s1 0), .l (lL s1 1), .i (IntKind.wrap .i64 ((lI s1 2) + 1))])) (
 whileK (fun s4 =>
 br (decide ((lI s4 3) > 0)) (
 chk (0 ≤ (lI s4 2)) <|
 idx true [.str, .str] (lL s4 0) ((lI s4 2).toNat) fun (e5 : List UInt8 × List UInt8 × Unit) =>
 chk (0 ≤ IntKind.wrap .i64 ((lI s4 3) - 1) ∧ (IntKind.wrap .i64 ((lI s4 3) - 1)).toNat < (lL s4 1).length) <|
 idxAt [.str, .str] (lL s4 1) ((IntKind.wrap .i64 ((lI s4 3) - 1)).toNat) 0 fun (e6 : List UInt8 × List UInt8 × Unit) =>
 F60 _ e5.1 e5.2.1 e6.1 e6.2.1 fun n7 =>
 br (decide (n7 < 0)) (
 some (.inl [.l (lL s4 0), .l (lL s4 1), .i (lI s4 2), .i (IntKind.wrap .i64 ((lI s4 3) - 1))])) (
 some (.inr (0, [.l (lL s4 0), .l (lL s4 1), .i (lI s4 2), .i (lI s4 3)])))) (
 some (.inr (0, [.l (lL s4 0), .l (lL s4 1), .i (lI s4 2), .i (lI s4 3)])))) [.l (lL s1 0), .l (lL s1 1), .i (lI s1 2), .i ((lL s1 1).length : Int)] fun (r8 : Nat × List Leaf) =>
 chk (0 ≤ (0 : Int) ∧ (0 : Int) ≤ (lI r8.2 3) ∧ (lI r8.2 3) ≤ ((lL r8.2 1).length : Int)) <|
 chk ((([] : List V).length + (((lL r8.2 1).take ((lI r8.2 3).toNat)).drop 0).length) * 32 ≤ 140737488355328 ∧ ([] : List V).length + (((lL r8.2 1).take ((lI r8.2 3).toNat)).drop 0).length ≤ 140737488355328) <|
 chk (0 ≤ (lI r8.2 2)) <|
 idx true [.str, .str] (lL r8.2 0) ((lI r8.2 2).toNat) fun (e9 : List UInt8 × List UInt8 × Unit) =>
 chk (((([] : List V) ++ (((lL r8.2 1).take ((lI r8.2 3).toNat)).drop 0)).length + ([.agg [.str e9.1, .str e9.2.1]] : List V).length) * 32 ≤ 140737488355328 ∧ (([] : List V) ++ (((lL r8.2 1).take ((lI r8.2 3).toNat)).drop 0)).length + ([.agg [.str e9.1, .str e9.2.1]] : List V).length ≤ 140737488355328) <|
 chk (0 ≤ (lI r8.2 3) ∧ (lI r8.2 3) ≤ ((lL r8.2 1).length : Int) ∧ ((lL r8.2 1).length : Int) ≤ ((lL r8.2 1).length : Int)) <|
 chk ((((([] : List V) ++ (((lL r8.2 1).take ((lI r8.2 3).toNat)).drop 0)) ++ ([.agg [.str e9.1, .str e9.2.1]] : List V)).length + (((lL r8.2 1).take (((lL r8.2 1).length : Int).toNat)).drop ((lI r8.2 3).toNat)).length) * 32 ≤ 140737488355328 ∧ ((([] : List V) ++ (((lL r8.2 1).take ((lI r8.2 3).toNat)).drop 0)) ++ ([.agg [.str e9.1, .str e9.2.1]] : List V)).length + (((lL r8.2 1).take (((lL r8.2 1).length : Int).toNat)).drop ((lI r8.2 3).toNat)).length ≤ 140737488355328) <|
 some (.inl [.l (lL r8.2 0), .l (((([] : List V) ++ (((lL r8.2 1).take ((lI r8.2 3).toNat)).drop 0)) ++ ([.agg [.str e9.1, .str e9.2.1]] : List V)) ++ (((lL r8.2 1).take (((lL r8.2 1).length : Int).toNat)).drop ((lI r8.2 3).toNat))), .i (IntKind.wrap .i64 ((lI r8.2 2) + 1))]))) (
 some (.inr (0, [.l (lL s1 1)])))) [.l l, .l [], .i 0] fun (r10 : Nat × List Leaf) =>
 k (lL r10.2 0)
def F40 : T40 := P40 F59 F60 
def X40 : Exits := fun i => lookN i [] [(3, [(.exit 0, xk 57 [(3, .own 1000000 2 .flat [])] [])]), (7, [(.exit 2, xk 57 [(0, .sl 2 true []), (3, .own 1000000 2 .flat []), (4, .int .i64 0), (5, .int .i64 0)] [])])]
abbrev s40 : List (Bool × List CK) := [(false, [.sl 2 true])]
def G40 (F : T40) (β : Type) (e : (List V × Unit) × Unit) (k : V → Option β) : Option β := F β e.1.1 (fun y1 => k (.own 0 2 .flat y1))
abbrev W40 (F : T40) : WT := wrap s40 (G40 F)
theorem k40 (F59 : T59) (F60 : T60) (β : Type) (e : argsT s40) (k : V → Option β) : fnK cfg (tabL [(59, W59 F59), (60, W60 F60)]) X40 40 Try.f40 β (argsEnc s40 e) k = G40 (P40 F59 F60 ) β e k := by kernel_rfl
theorem ok40 : FnOk D 40 (W40 F40) := fn_okW [(59, W59 F59), (60, W60 F60)] X40 (fun _ => rfl) Try.func40 rfl (tabL_cons ok59 (tabL_cons ok60 tabL_nil)) (k40 F59 F60 )

/-- spec.CrossLearned -/
abbrev T15 : Type 1 := (β : Type) → List V → List V → List V → Int → List UInt8 → (List V → Option β) → Option β
def P15 (F39 : T39) (F40 : T40) : T15 := fun β n_Servers n_Cache_Entries n_Log n_Now host k =>
 F39 _ n_Servers n_Cache_Entries n_Log n_Now host fun l1 =>
 whileK (fun s2 =>
 br (decide ((lI s2 3) < ((lL s2 2).length : Int))) (
 chk (0 ≤ (lI s2 3) ∧ (lI s2 3).toNat < (lL s2 2).length) <|
 idxAt [.str] (lL s2 2) ((lI s2 3).toNat) 0 fun (e3 : List UInt8 × Unit) =>
 br (!(e3.1 == (lS s2 0))) (
 chk (0 ≤ (lI s2 3) ∧ (lI s2 3).toNat < (lL s2 2).length) <|
 idxAt [.str, .str] (lL s2 2) ((lI s2 3).toNat) 1 fun (e4 : List UInt8 × List UInt8 × Unit) =>
 chk (((lL s2 1).length + ([.agg [.str e4.1, .str e4.2.1]] : List V).length) * 32 ≤ 140737488355328 ∧ (lL s2 1).length + ([.agg [.str e4.1, .str e4.2.1]] : List V).length ≤ 140737488355328) <|
 some (.inl [.s (lS s2 0), .l ((lL s2 1) ++ ([.agg [.str e4.1, .str e4.2.1]] : List V)), .l (lL s2 2), .i (IntKind.wrap .i64 ((lI s2 3) + 1))])) (
 some (.inl [.s (lS s2 0), .l (lL s2 1), .l (lL s2 2), .i (IntKind.wrap .i64 ((lI s2 3) + 1))]))) (
 some (.inr (0, [.l (lL s2 1)])))) [.s host, .l [], .l l1, .i 0] fun (r5 : Nat × List Leaf) =>
 F40 _ (lL r5.2 0) fun l6 =>
 k l6
def F15 : T15 := P15 F39 F40 
def X15 : Exits := fun i => lookN i [] [(4, [(.exit 0, xk 35 [(5, .own 1000000 2 .flat [])] [])])]
abbrev s15 : List (Bool × List CK) := [(true, [.sl 2 false, .sl 10 true, .sl 4 true, .int .i64]), (false, [.str])]
def G15 (F : T15) (β : Type) (e : (List V × List V × List V × Int × Unit) × (List UInt8 × Unit) × Unit) (k : V → Option β) : Option β := F β e.1.1 e.1.2.1 e.1.2.2.1 e.1.2.2.2.1 e.2.1.1 (fun y1 => k (.own 0 2 .flat y1))
abbrev W15 (F : T15) : WT := wrap s15 (G15 F)
theorem k15 (F39 : T39) (F40 : T40) (β : Type) (e : argsT s15) (k : V → Option β) : fnK cfg (tabL [(39, W39 F39), (40, W40 F40)]) X15 15 Try.f15 β (argsEnc s15 e) k = G15 (P15 F39 F40 ) β e k := by kernel_rfl
theorem ok15 : FnOk D 15 (W15 F15) := fn_okW [(39, W39 F39), (40, W40 F40)] X15 (fun _ => rfl) Try.func15 rfl (tabL_cons ok39 (tabL_cons ok40 tabL_nil)) (k15 F39 F40 )

/-- impl.SentTo -/
abbrev T41 : Type 1 := (β : Type) → List V → List V → List V → Int → List UInt8 → (List V → Option β) → Option β
def P41 : T41 := fun β n_Servers n_Cache_Entries n_Log n_Now host k =>
 whileK (fun s1 =>
 br (decide ((lI s1 4) < (lI s1 3))) (
 chk (0 ≤ (lI s1 4)) <|
 idx true [.str, .str, .str, .bool] (lL s1 2) ((lI s1 4).toNat) fun (e2 : List UInt8 × List UInt8 × List UInt8 × Bool × Unit) =>
 br (e2.2.1 == (lS s1 0)) (
 chk (((lL s1 1).length + ([.agg [.str e2.1, .str e2.2.1, .str e2.2.2.1, .bool e2.2.2.2.1]] : List V).length) * 56 ≤ 140737488355328 ∧ (lL s1 1).length + ([.agg [.str e2.1, .str e2.2.1, .str e2.2.2.1, .bool e2.2.2.2.1]] : List V).length ≤ 140737488355328) <|
 some (.inl [.s (lS s1 0), .l ((lL s1 1) ++ ([.agg [.str e2.1, .str e2.2.1, .str e2.2.2.1, .bool e2.2.2.2.1]] : List V)), .l (lL s1 2), .i (lI s1 3), .i (IntKind.wrap .i64 ((lI s1 4) + 1))])) (
 some (.inl [.s (lS s1 0), .l (lL s1 1), .l (lL s1 2), .i (lI s1 3), .i (IntKind.wrap .i64 ((lI s1 4) + 1))]))) (
 some (.inr (0, [.l (lL s1 1)])))) [.s host, .l [], .l n_Log, .i (n_Log.length : Int), .i 0] fun (r3 : Nat × List Leaf) =>
 k (lL r3.2 0)
def F41 : T41 := P41 
def X41 : Exits := fun i => lookN i [] [(3, [(.exit 0, xk 27 [(5, .own 1000000 4 .flat [])] [])])]
abbrev s41 : List (Bool × List CK) := [(true, [.sl 2 false, .sl 10 true, .sl 4 true, .int .i64]), (false, [.str])]
def G41 (F : T41) (β : Type) (e : (List V × List V × List V × Int × Unit) × (List UInt8 × Unit) × Unit) (k : V → Option β) : Option β := F β e.1.1 e.1.2.1 e.1.2.2.1 e.1.2.2.2.1 e.2.1.1 (fun y1 => k (.own 0 4 .flat y1))
abbrev W41 (F : T41) : WT := wrap s41 (G41 F)
theorem k41 (β : Type) (e : argsT s41) (k : V → Option β) : fnK cfg (tabL []) X41 41 Try.f41 β (argsEnc s41 e) k = G41 (P41 ) β e k := by kernel_rfl
theorem ok41 : FnOk D 41 (W41 F41) := fn_okW [] X41 (fun _ => rfl) Try.func41 rfl (tabL_nil) (k41 )

/-- impl.SortAddrs -/
abbrev T42 : Type 1 := (β : Type) → List V → (List V → Option β) → Option β
def F42 : T42 := sortPrK
abbrev s42 : List (Bool × List CK) := [(false, [.sl 2 true])]
def G42 (F : T42) (β : Type) (e : (List V × Unit) × Unit) (k : V → Option β) : Option β := F β e.1.1 (fun y1 => k (.own 0 2 .flat y1))
abbrev W42 (F : T42) : WT := wrap s42 (G42 F)
theorem ok42 : FnOk D 42 (W42 F42) := ok_sortPr (fun _ => rfl)

/-- impl.CrossLearned -/
abbrev T16 : Type 1 := (β : Type) → List V → List V → List V → Int → List UInt8 → (List V → Option β) → Option β
def P16 (F41 : T41) (F42 : T42) : T16 := fun β n_Servers n_Cache_Entries n_Log n_Now host k =>
 F41 _ n_Servers n_Cache_Entries n_Log n_Now host fun l1 =>
 whileK (fun s2 =>
 br (decide ((lI s2 4) < (lI s2 3))) (
 chk (0 ≤ (lI s2 4) ∧ (lI s2 4).toNat < (lL s2 2).length) <|
 idxAt [.str, .str, .str, .bool] (lL s2 2) ((lI s2 4).toNat) 0 fun (e3 : List UInt8 × List UInt8 × List UInt8 × Bool × Unit) =>
 br (!(e3.1 == (lS s2 0))) (
 chk (((lL s2 1).length + ([.agg [.str e3.2.1, .str e3.2.2.1]] : List V).length) * 32 ≤ 140737488355328 ∧ (lL s2 1).length + ([.agg [.str e3.2.1, .str e3.2.2.1]] : List V).length ≤ 140737488355328) <|
 some (.inl [.s (lS s2 0), .l ((lL s2 1) ++ ([.agg [.str e3.2.1, .str e3.2.2.1]] : List V)), .l (lL s2 2), .i (lI s2 3), .i (IntKind.wrap .i64 ((lI s2 4) + 1))])) (
 some (.inl [.s (lS s2 0), .l (lL s2 1), .l (lL s2 2), .i (lI s2 3), .i (IntKind.wrap .i64 ((lI s2 4) + 1))]))) (
 some (.inr (0, [.l (lL s2 1)])))) [.s host, .l [], .l l1, .i (l1.length : Int), .i 0] fun (r4 : Nat × List Leaf) =>
 F42 _ (lL r4.2 0) fun l5 =>
 k l5
def F16 : T16 := P16 F41 F42 
def X16 : Exits := fun i => lookN i [] [(3, [(.exit 0, xk 29 [(5, .own 1000000 2 .flat [])] [])])]
abbrev s16 : List (Bool × List CK) := [(true, [.sl 2 false, .sl 10 true, .sl 4 true, .int .i64]), (false, [.str])]
def G16 (F : T16) (β : Type) (e : (List V × List V × List V × Int × Unit) × (List UInt8 × Unit) × Unit) (k : V → Option β) : Option β := F β e.1.1 e.1.2.1 e.1.2.2.1 e.1.2.2.2.1 e.2.1.1 (fun y1 => k (.own 0 2 .flat y1))
abbrev W16 (F : T16) : WT := wrap s16 (G16 F)
theorem k16 (F41 : T41) (F42 : T42) (β : Type) (e : argsT s16) (k : V → Option β) : fnK cfg (tabL [(41, W41 F41), (42, W42 F42)]) X16 16 Try.f16 β (argsEnc s16 e) k = G16 (P16 F41 F42 ) β e k := by kernel_rfl
theorem ok16 : FnOk D 16 (W16 F16) := fn_okW [(41, W41 F41), (42, W42 F42)] X16 (fun _ => rfl) Try.func16 rfl (tabL_cons ok41 (tabL_cons ok42 tabL_nil)) (k16 F41 F42 )

/-- spec.OwnLearned -/
abbrev T20 : Type 1 := (β : Type) → List V → List V → List V → Int → List UInt8 → (List V → Option β) → Option β
def P20 (F39 : T39) (F40 : T40) : T20 := fun β n_Servers n_Cache_Entries n_Log n_Now host k =>
 F39 _ n_Servers n_Cache_Entries n_Log n_Now host fun l1 =>
 whileK (fun s2 =>
 br (decide ((lI s2 3) < ((lL s2 2).length : Int))) (
 chk (0 ≤ (lI s2 3) ∧ (lI s2 3).toNat < (lL s2 2).length) <|
 idxAt [.str] (lL s2 2) ((lI s2 3).toNat) 0 fun (e3 : List UInt8 × Unit) =>
 br (e3.1 == (lS s2 0)) (
 chk (0 ≤ (lI s2 3) ∧ (lI s2 3).toNat < (lL s2 2).length) <|
 idxAt [.bool] (lL s2 2) ((lI s2 3).toNat) 3 fun (e4 : Bool × Unit) =>
 br (!e4.1) (
 chk (0 ≤ (lI s2 3) ∧ (lI s2 3).toNat < (lL s2 2).length) <|
 idxAt [.str, .str] (lL s2 2) ((lI s2 3).toNat) 1 fun (e5 : List UInt8 × List UInt8 × Unit) =>
 chk (((lL s2 1).length + ([.agg [.str e5.1, .str e5.2.1]] : List V).length) * 32 ≤ 140737488355328 ∧ (lL s2 1).length + ([.agg [.str e5.1, .str e5.2.1]] : List V).length ≤ 140737488355328) <|
 some (.inl [.s (lS s2 0), .l ((lL s2 1) ++ ([.agg [.str e5.1, .str e5.2.1]] : List V)), .l (lL s2 2), .i (IntKind.wrap .i64 ((lI s2 3) + 1))])) (
 some (.inl [.s (lS s2 0), .l (lL s2 1), .l (lL s2 2), .i (IntKind.wrap .i64 ((lI s2 3) + 1))]))) (
 some (.inl [.s (lS s2 0), .l (lL s2 1), .l (lL s2 2), .i (IntKind.wrap .i64 ((lI s2 3) + 1))]))) (
 some (.inr (0, [.l (lL s2 1)])))) [.s host, .l [], .l l1, .i 0] fun (r6 : Nat × List Leaf) =>
 F40 _ (lL r6.2 0) fun l7 =>
 k l7
def F20 : T20 := P20 F39 F40 
def X20 : Exits := fun i => lookN i [] [(4, [(.exit 0, xk 43 [(5, .own 1000000 2 .flat [])] [])])]
abbrev s20 : List (Bool × List CK) := [(true, [.sl 2 false, .sl 10 true, .sl 4 true, .int .i64]), (false, [.str])]
def G20 (F : T20) (β : Type) (e : (List V × List V × List V × Int × Unit) × (List UInt8 × Unit) × Unit) (k : V → Option β) : Option β := F β e.1.1 e.1.2.1 e.1.2.2.1 e.1.2.2.2.1 e.2.1.1 (fun y1 => k (.own 0 2 .flat y1))
abbrev W20 (F : T20) : WT := wrap s20 (G20 F)
theorem k20 (F39 : T39) (F40 : T40) (β : Type) (e : argsT s20) (k : V → Option β) : fnK cfg (tabL [(39, W39 F39), (40, W40 F40)]) X20 20 Try.f20 β (argsEnc s20 e) k = G20 (P20 F39 F40 ) β e k := by kernel_rfl
theorem ok20 : FnOk D 20 (W20 F20) := fn_okW [(39, W39 F39), (40, W40 F40)] X20 (fun _ => rfl) Try.func20 rfl (tabL_cons ok39 (tabL_cons ok40 tabL_nil)) (k20 F39 F40 )

/-- impl.OwnLearned -/
abbrev T21 : Type 1 := (β : Type) → List V → List V → List V → Int → List UInt8 → (List V → Option β) → Option β
def P21 (F41 : T41) (F42 : T42) : T21 := fun β n_Servers n_Cache_Entries n_Log n_Now host k =>
 F41 _ n_Servers n_Cache_Entries n_Log n_Now host fun l1 =>
 whileK (fun s2 =>
 br (decide ((lI s2 4) < (lI s2 3))) (
 chk (0 ≤ (lI s2 4) ∧ (lI s2 4).toNat < (lL s2 2).length) <|
 idxAt [.str, .str, .str, .bool] (lL s2 2) ((lI s2 4).toNat) 0 fun (e3 : List UInt8 × List UInt8 × List UInt8 × Bool × Unit) =>
 br (e3.1 == (lS s2 0)) (
 br (!e3.2.2.2.1) (
 chk (((lL s2 1).length + ([.agg [.str e3.2.1, .str e3.2.2.1]] : List V).length) * 32 ≤ 140737488355328 ∧ (lL s2 1).length + ([.agg [.str e3.2.1, .str e3.2.2.1]] : List V).length ≤ 140737488355328) <|
 some (.inl [.s (lS s2 0), .l ((lL s2 1) ++ ([.agg [.str e3.2.1, .str e3.2.2.1]] : List V)), .l (lL s2 2), .i (lI s2 3), .i (IntKind.wrap .i64 ((lI s2 4) + 1))])) (
 some (.inl [.s (lS s2 0), .l (lL s2 1), .l (lL s2 2), .i (lI s2 3), .i (IntKind.wrap .i64 ((lI s2 4) + 1))]))) (
 some (.inl [.s (lS s2 0), .l (lL s2 1), .l (lL s2 2), .i (lI s2 3), .i (IntKind.wrap .i64 ((lI s2 4) + 1))]))) (
 some (.inr (0, [.l (lL s2 1)])))) [.s host, .l [], .l l1, .i (l1.length : Int), .i 0] fun (r4 : Nat × List Leaf) =>
 F42 _ (lL r4.2 0) fun l5 =>
 k l5
def F21 : T21 := P21 F41 F42 
def X21 : Exits := fun i => lookN i [] [(3, [(.exit 0, xk 34 [(5, .own 1000000 2 .flat [])] [])])]
abbrev s21 : List (Bool × List CK) := [(true, [.sl 2 false, .sl 10 true, .sl 4 true, .int .i64]), (false, [.str])]
def G21 (F : T21) (β : Type) (e : (List V × List V × List V × Int × Unit) × (List UInt8 × Unit) × Unit) (k : V → Option β) : Option β := F β e.1.1 e.1.2.1 e.1.2.2.1 e.1.2.2.2.1 e.2.1.1 (fun y1 => k (.own 0 2 .flat y1))
abbrev W21 (F : T21) : WT := wrap s21 (G21 F)
theorem k21 (F41 : T41) (F42 : T42) (β : Type) (e : argsT s21) (k : V → Option β) : fnK cfg (tabL [(41, W41 F41), (42, W42 F42)]) X21 21 Try.f21 β (argsEnc s21 e) k = G21 (P21 F41 F42 ) β e k := by kernel_rfl
theorem ok21 : FnOk D 21 (W21 F21) := fn_okW [(41, W41 F41), (42, W42 F42)] X21 (fun _ => rfl) Try.func21 rfl (tabL_cons ok41 (tabL_cons ok42 tabL_nil)) (k21 F41 F42 )

end
end Go.Am

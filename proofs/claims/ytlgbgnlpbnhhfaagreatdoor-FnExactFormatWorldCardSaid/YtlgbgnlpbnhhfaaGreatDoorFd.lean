/-
  Functions of the program, extracted by program (sym.py) out of their code: what each computes, and, by the kernel's reckoning, that the machine's looking form computes just that; so what the machine answers.
-/
import Derived.Test.YtlgbgnlpbnhhfaaGreatDoorAmCfg
import Derived.Test.YtlgbgnlpbnhhfaaGreatDoorAmEvOk2
import Derived.KernelRfl
set_option maxRecDepth 10000
set_option linter.unusedVariables false
namespace Go.Am
open Go Go.Proofs
noncomputable section
abbrev WT : Type 1 := (β : Type) → List V → (V → Option β) → Option β
/-- laws.szResponse -/
abbrev T96 : Type 1 := (β : Type) → Int → Int → List UInt8 → Int → Bool → List UInt8 → Int → (Int → Option β) → Option β
def P96 : T96 := fun β a_Status a_Kind a_Body a_Age a_Shares a_Policy left k =>
 br (decide (IntKind.wrap .i64 (left - (a_Body.length : Int)) < 0)) (
 k (-1)) (
 br (decide (IntKind.wrap .i64 ((IntKind.wrap .i64 (left - (a_Body.length : Int))) - (a_Policy.length : Int)) < 0)) (
 k (-1)) (
 k (IntKind.wrap .i64 ((IntKind.wrap .i64 (left - (a_Body.length : Int))) - (a_Policy.length : Int)))))
def F96 : T96 := P96 
abbrev s96 : List (Bool × List CK) := [(true, [.int .i64, .int .i64, .str, .int .i64, .bool, .str]), (false, [.int .i64])]
def G96 (F : T96) (β : Type) (e : (Int × Int × List UInt8 × Int × Bool × List UInt8 × Unit) × (Int × Unit) × Unit) (k : V → Option β) : Option β := let a0_0 := e.1; let a0_1 := a0_0.2; let a0_2 := a0_1.2; let a0_3 := a0_2.2; let a0_4 := a0_3.2; let a0_5 := a0_4.2; F β a0_0.1 a0_1.1 a0_2.1 a0_3.1 a0_4.1 a0_5.1 e.2.1.1 (fun y1 => k (.int .i64 y1))
abbrev W96 (F : T96) : WT := wrap s96 (G96 F)
theorem k96 (β : Type) (e : argsT s96) (k : V → Option β) : fnK cfg (tabL []) noX 96 Tryz.f96 β (argsEnc s96 e) k = G96 (P96 ) β e k := by kernel_rfl
theorem ok96 : FnOk D 96 (W96 F96) := fn_okW [] noX (fun _ => rfl) Tryz.func96 rfl (tabL_nil) (k96 )

/-- laws.szFile -/
abbrev T114 : Type 1 := (β : Type) → List UInt8 → Int → Int → List UInt8 → Int → Bool → List UInt8 → Int → (Int → Option β) → Option β
def P114 (F96 : T96) : T114 := fun β a_Path a_Response_Status a_Response_Kind a_Response_Body a_Response_Age a_Response_Shares a_Response_Policy left k =>
 br (decide (IntKind.wrap .i64 (left - (a_Path.length : Int)) < 0)) (
 k (-1)) (
 F96 _ a_Response_Status a_Response_Kind a_Response_Body a_Response_Age a_Response_Shares a_Response_Policy (IntKind.wrap .i64 (left - (a_Path.length : Int))) fun n1 =>
 br (decide (n1 < 0)) (
 k (-1)) (
 k n1))
def F114 : T114 := P114 F96 
abbrev s114 : List (Bool × List CK) := [(true, [.str, .int .i64, .int .i64, .str, .int .i64, .bool, .str]), (false, [.int .i64])]
def G114 (F : T114) (β : Type) (e : (List UInt8 × Int × Int × List UInt8 × Int × Bool × List UInt8 × Unit) × (Int × Unit) × Unit) (k : V → Option β) : Option β := let a0_0 := e.1; let a0_1 := a0_0.2; let a0_2 := a0_1.2; let a0_3 := a0_2.2; let a0_4 := a0_3.2; let a0_5 := a0_4.2; let a0_6 := a0_5.2; F β a0_0.1 a0_1.1 a0_2.1 a0_3.1 a0_4.1 a0_5.1 a0_6.1 e.2.1.1 (fun y1 => k (.int .i64 y1))
abbrev W114 (F : T114) : WT := wrap s114 (G114 F)
theorem k114 (F96 : T96) (β : Type) (e : argsT s114) (k : V → Option β) : fnK cfg (tabL [(96, W96 F96)]) noX 114 Tryz.f114 β (argsEnc s114 e) k = G114 (P114 F96 ) β e k := by kernel_rfl
theorem ok114 : FnOk D 114 (W114 F114) := fn_okW [(96, W96 F96)] noX (fun _ => rfl) Tryz.func114 rfl (tabL_cons ok96 tabL_nil) (k114 F96 )

/-- laws.szFileS -/
abbrev T89 : Type 1 := (β : Type) → List V → Int → (Int → Option β) → Option β
def P89 (F114 : T114) : T89 := fun β a left k =>
 br (decide (IntKind.wrap .i64 (left - (a.length : Int)) < 0)) (
 k (-1)) (
 whileK (fun s1 =>
 br (decide ((lI s1 2) < ((lL s1 0).length : Int))) (
 chk (0 ≤ (lI s1 2)) <|
 idx true [.str, .int .i64, .int .i64, .str, .int .i64, .bool, .str] (lL s1 0) ((lI s1 2).toNat) fun (e2 : List UInt8 × Int × Int × List UInt8 × Int × Bool × List UInt8 × Unit) =>
 F114 _ e2.1 e2.2.1 e2.2.2.1 e2.2.2.2.1 e2.2.2.2.2.1 e2.2.2.2.2.2.1 e2.2.2.2.2.2.2.1 (lI s1 1) fun n3 =>
 br (decide (n3 < 0)) (
 some (.inr (0, [.i n3, .i (-1)]))) (
 some (.inl [.l (lL s1 0), .i n3, .i (IntKind.wrap .i64 ((lI s1 2) + 1))]))) (
 some (.inr (1, [.i (lI s1 1)])))) [.l a, .i (IntKind.wrap .i64 (left - (a.length : Int))), .i 0] fun (r4 : Nat × List Leaf) =>
 if r4.1 = 0 then
 k (lI r4.2 1)
 else
 k (lI r4.2 0))
def F89 : T89 := P89 F114 
def X89 : Exits := fun i => lookN i [] [(5, [(.ret, xk 27 [(1, .int .i64 0), (4, .int .i64 0)] []), (.exit 0, xk 27 [(1, .int .i64 0)] [])])]
abbrev s89 : List (Bool × List CK) := [(false, [.sl 7 true]), (false, [.int .i64])]
def G89 (F : T89) (β : Type) (e : (List V × Unit) × (Int × Unit) × Unit) (k : V → Option β) : Option β := F β e.1.1 e.2.1.1 (fun y1 => k (.int .i64 y1))
abbrev W89 (F : T89) : WT := wrap s89 (G89 F)
theorem k89 (F114 : T114) (β : Type) (e : argsT s89) (k : V → Option β) : fnK cfg (tabL [(114, W114 F114)]) X89 89 Tryz.f89 β (argsEnc s89 e) k = G89 (P89 F114 ) β e k := by kernel_rfl
theorem ok89 : FnOk D 89 (W89 F89) := fn_okW [(114, W114 F114)] X89 (fun _ => rfl) Tryz.func89 rfl (tabL_cons ok114 tabL_nil) (k89 F114 )

/-- laws.szServer -/
abbrev T46 : Type 1 := (β : Type) → List UInt8 → List V → Int → (Int → Option β) → Option β
def P46 (F89 : T89) : T46 := fun β a_Host a_Files left k =>
 br (decide (IntKind.wrap .i64 (left - (a_Host.length : Int)) < 0)) (
 k (-1)) (
 F89 _ a_Files (IntKind.wrap .i64 (left - (a_Host.length : Int))) fun n1 =>
 br (decide (n1 < 0)) (
 k (-1)) (
 k n1))
def F46 : T46 := P46 F89 
abbrev s46 : List (Bool × List CK) := [(true, [.str, .sl 7 true]), (false, [.int .i64])]
def G46 (F : T46) (β : Type) (e : (List UInt8 × List V × Unit) × (Int × Unit) × Unit) (k : V → Option β) : Option β := F β e.1.1 e.1.2.1 e.2.1.1 (fun y1 => k (.int .i64 y1))
abbrev W46 (F : T46) : WT := wrap s46 (G46 F)
theorem k46 (F89 : T89) (β : Type) (e : argsT s46) (k : V → Option β) : fnK cfg (tabL [(89, W89 F89)]) noX 46 Tryz.f46 β (argsEnc s46 e) k = G46 (P46 F89 ) β e k := by kernel_rfl
theorem ok46 : FnOk D 46 (W46 F46) := fn_okW [(89, W89 F89)] noX (fun _ => rfl) Tryz.func46 rfl (tabL_cons ok89 tabL_nil) (k46 F89 )

/-- laws.szServerS -/
abbrev T24 : Type 1 := (β : Type) → List V → Int → (Int → Option β) → Option β
def P24 (F46 : T46) : T24 := fun β a left k =>
 br (decide (IntKind.wrap .i64 (left - (a.length : Int)) < 0)) (
 k (-1)) (
 whileK (fun s1 =>
 br (decide ((lI s1 2) < ((lL s1 0).length : Int))) (
 chk (0 ≤ (lI s1 2)) <|
 idx true [.str, .sl 7 true] (lL s1 0) ((lI s1 2).toNat) fun (e2 : List UInt8 × List V × Unit) =>
 F46 _ e2.1 e2.2.1 (lI s1 1) fun n3 =>
 br (decide (n3 < 0)) (
 some (.inr (0, [.i n3, .i (-1)]))) (
 some (.inl [.l (lL s1 0), .i n3, .i (IntKind.wrap .i64 ((lI s1 2) + 1))]))) (
 some (.inr (1, [.i (lI s1 1)])))) [.l a, .i (IntKind.wrap .i64 (left - (a.length : Int))), .i 0] fun (r4 : Nat × List Leaf) =>
 if r4.1 = 0 then
 k (lI r4.2 1)
 else
 k (lI r4.2 0))
def F24 : T24 := P24 F46 
def X24 : Exits := fun i => lookN i [] [(5, [(.ret, xk 27 [(1, .int .i64 0), (4, .int .i64 0)] []), (.exit 0, xk 27 [(1, .int .i64 0)] [])])]
abbrev s24 : List (Bool × List CK) := [(false, [.sl 2 false]), (false, [.int .i64])]
def G24 (F : T24) (β : Type) (e : (List V × Unit) × (Int × Unit) × Unit) (k : V → Option β) : Option β := F β e.1.1 e.2.1.1 (fun y1 => k (.int .i64 y1))
abbrev W24 (F : T24) : WT := wrap s24 (G24 F)
theorem k24 (F46 : T46) (β : Type) (e : argsT s24) (k : V → Option β) : fnK cfg (tabL [(46, W46 F46)]) X24 24 Tryz.f24 β (argsEnc s24 e) k = G24 (P24 F46 ) β e k := by kernel_rfl
theorem ok24 : FnOk D 24 (W24 F24) := fn_okW [(46, W46 F46)] X24 (fun _ => rfl) Tryz.func24 rfl (tabL_cons ok46 tabL_nil) (k24 F46 )

/-- laws.szAddr -/
abbrev T50 : Type 1 := (β : Type) → List UInt8 → List UInt8 → Int → (Int → Option β) → Option β
def P50 : T50 := fun β a_Host a_Path left k =>
 br (decide (IntKind.wrap .i64 (left - (a_Host.length : Int)) < 0)) (
 k (-1)) (
 br (decide (IntKind.wrap .i64 ((IntKind.wrap .i64 (left - (a_Host.length : Int))) - (a_Path.length : Int)) < 0)) (
 k (-1)) (
 k (IntKind.wrap .i64 ((IntKind.wrap .i64 (left - (a_Host.length : Int))) - (a_Path.length : Int)))))
def F50 : T50 := P50 
abbrev s50 : List (Bool × List CK) := [(true, [.str, .str]), (false, [.int .i64])]
def G50 (F : T50) (β : Type) (e : (List UInt8 × List UInt8 × Unit) × (Int × Unit) × Unit) (k : V → Option β) : Option β := F β e.1.1 e.1.2.1 e.2.1.1 (fun y1 => k (.int .i64 y1))
abbrev W50 (F : T50) : WT := wrap s50 (G50 F)
theorem k50 (β : Type) (e : argsT s50) (k : V → Option β) : fnK cfg (tabL []) noX 50 Tryz.f50 β (argsEnc s50 e) k = G50 (P50 ) β e k := by kernel_rfl
theorem ok50 : FnOk D 50 (W50 F50) := fn_okW [] noX (fun _ => rfl) Tryz.func50 rfl (tabL_nil) (k50 )

/-- laws.szEntry -/
abbrev T90 : Type 1 := (β : Type) → List UInt8 → List UInt8 → List UInt8 → Int → Int → List UInt8 → Int → Bool → List UInt8 → Int → Int → (Int → Option β) → Option β
def P90 (F50 : T50) (F96 : T96) : T90 := fun β a_Top a_To_Host a_To_Path a_Response_Status a_Response_Kind a_Response_Body a_Response_Age a_Response_Shares a_Response_Policy a_Until left k =>
 br (decide (IntKind.wrap .i64 (left - (a_Top.length : Int)) < 0)) (
 k (-1)) (
 F50 _ a_To_Host a_To_Path (IntKind.wrap .i64 (left - (a_Top.length : Int))) fun n1 =>
 br (decide (n1 < 0)) (
 k (-1)) (
 F96 _ a_Response_Status a_Response_Kind a_Response_Body a_Response_Age a_Response_Shares a_Response_Policy n1 fun n2 =>
 br (decide (n2 < 0)) (
 k (-1)) (
 k n2)))
def F90 : T90 := P90 F50 F96 
abbrev s90 : List (Bool × List CK) := [(true, [.str, .str, .str, .int .i64, .int .i64, .str, .int .i64, .bool, .str, .int .i64]), (false, [.int .i64])]
def G90 (F : T90) (β : Type) (e : (List UInt8 × List UInt8 × List UInt8 × Int × Int × List UInt8 × Int × Bool × List UInt8 × Int × Unit) × (Int × Unit) × Unit) (k : V → Option β) : Option β := let a0_0 := e.1; let a0_1 := a0_0.2; let a0_2 := a0_1.2; let a0_3 := a0_2.2; let a0_4 := a0_3.2; let a0_5 := a0_4.2; let a0_6 := a0_5.2; let a0_7 := a0_6.2; let a0_8 := a0_7.2; let a0_9 := a0_8.2; F β a0_0.1 a0_1.1 a0_2.1 a0_3.1 a0_4.1 a0_5.1 a0_6.1 a0_7.1 a0_8.1 a0_9.1 e.2.1.1 (fun y1 => k (.int .i64 y1))
abbrev W90 (F : T90) : WT := wrap s90 (G90 F)
theorem k90 (F50 : T50) (F96 : T96) (β : Type) (e : argsT s90) (k : V → Option β) : fnK cfg (tabL [(50, W50 F50), (96, W96 F96)]) noX 90 Tryz.f90 β (argsEnc s90 e) k = G90 (P90 F50 F96 ) β e k := by kernel_rfl
theorem ok90 : FnOk D 90 (W90 F90) := fn_okW [(50, W50 F50), (96, W96 F96)] noX (fun _ => rfl) Tryz.func90 rfl (tabL_cons ok50 (tabL_cons ok96 tabL_nil)) (k90 F50 F96 )

/-- laws.szEntryS -/
abbrev T47 : Type 1 := (β : Type) → List V → Int → (Int → Option β) → Option β
def P47 (F90 : T90) : T47 := fun β a left k =>
 br (decide (IntKind.wrap .i64 (left - (a.length : Int)) < 0)) (
 k (-1)) (
 whileK (fun s1 =>
 br (decide ((lI s1 2) < ((lL s1 0).length : Int))) (
 chk (0 ≤ (lI s1 2)) <|
 idx true [.str, .str, .str, .int .i64, .int .i64, .str, .int .i64, .bool, .str, .int .i64] (lL s1 0) ((lI s1 2).toNat) fun (e2 : List UInt8 × List UInt8 × List UInt8 × Int × Int × List UInt8 × Int × Bool × List UInt8 × Int × Unit) =>
 F90 _ e2.1 e2.2.1 e2.2.2.1 e2.2.2.2.1 e2.2.2.2.2.1 e2.2.2.2.2.2.1 e2.2.2.2.2.2.2.1 e2.2.2.2.2.2.2.2.1 e2.2.2.2.2.2.2.2.2.1 e2.2.2.2.2.2.2.2.2.2.1 (lI s1 1) fun n3 =>
 br (decide (n3 < 0)) (
 some (.inr (0, [.i n3, .i (-1)]))) (
 some (.inl [.l (lL s1 0), .i n3, .i (IntKind.wrap .i64 ((lI s1 2) + 1))]))) (
 some (.inr (1, [.i (lI s1 1)])))) [.l a, .i (IntKind.wrap .i64 (left - (a.length : Int))), .i 0] fun (r4 : Nat × List Leaf) =>
 if r4.1 = 0 then
 k (lI r4.2 1)
 else
 k (lI r4.2 0))
def F47 : T47 := P47 F90 
def X47 : Exits := fun i => lookN i [] [(5, [(.ret, xk 27 [(1, .int .i64 0), (4, .int .i64 0)] []), (.exit 0, xk 27 [(1, .int .i64 0)] [])])]
abbrev s47 : List (Bool × List CK) := [(false, [.sl 10 true]), (false, [.int .i64])]
def G47 (F : T47) (β : Type) (e : (List V × Unit) × (Int × Unit) × Unit) (k : V → Option β) : Option β := F β e.1.1 e.2.1.1 (fun y1 => k (.int .i64 y1))
abbrev W47 (F : T47) : WT := wrap s47 (G47 F)
theorem k47 (F90 : T90) (β : Type) (e : argsT s47) (k : V → Option β) : fnK cfg (tabL [(90, W90 F90)]) X47 47 Tryz.f47 β (argsEnc s47 e) k = G47 (P47 F90 ) β e k := by kernel_rfl
theorem ok47 : FnOk D 47 (W47 F47) := fn_okW [(90, W90 F90)] X47 (fun _ => rfl) Tryz.func47 rfl (tabL_cons ok90 tabL_nil) (k47 F90 )

/-- laws.szCache -/
abbrev T25 : Type 1 := (β : Type) → List V → Int → (Int → Option β) → Option β
def P25 (F47 : T47) : T25 := fun β a_Entries left k =>
 F47 _ a_Entries left fun n1 =>
 br (decide (n1 < 0)) (
 k (-1)) (
 k n1)
def F25 : T25 := P25 F47 
abbrev s25 : List (Bool × List CK) := [(true, [.sl 10 true]), (false, [.int .i64])]
def G25 (F : T25) (β : Type) (e : (List V × Unit) × (Int × Unit) × Unit) (k : V → Option β) : Option β := F β e.1.1 e.2.1.1 (fun y1 => k (.int .i64 y1))
abbrev W25 (F : T25) : WT := wrap s25 (G25 F)
theorem k25 (F47 : T47) (β : Type) (e : argsT s25) (k : V → Option β) : fnK cfg (tabL [(47, W47 F47)]) noX 25 Tryz.f25 β (argsEnc s25 e) k = G25 (P25 F47 ) β e k := by kernel_rfl
theorem ok25 : FnOk D 25 (W25 F25) := fn_okW [(47, W47 F47)] noX (fun _ => rfl) Tryz.func25 rfl (tabL_cons ok47 tabL_nil) (k25 F47 )

/-- laws.szSent -/
abbrev T48 : Type 1 := (β : Type) → List UInt8 → List UInt8 → List UInt8 → Bool → Int → (Int → Option β) → Option β
def P48 (F50 : T50) : T48 := fun β a_Top a_To_Host a_To_Path a_Guess left k =>
 br (decide (IntKind.wrap .i64 (left - (a_Top.length : Int)) < 0)) (
 k (-1)) (
 F50 _ a_To_Host a_To_Path (IntKind.wrap .i64 (left - (a_Top.length : Int))) fun n1 =>
 br (decide (n1 < 0)) (
 k (-1)) (
 k n1))
def F48 : T48 := P48 F50 
abbrev s48 : List (Bool × List CK) := [(true, [.str, .str, .str, .bool]), (false, [.int .i64])]
def G48 (F : T48) (β : Type) (e : (List UInt8 × List UInt8 × List UInt8 × Bool × Unit) × (Int × Unit) × Unit) (k : V → Option β) : Option β := F β e.1.1 e.1.2.1 e.1.2.2.1 e.1.2.2.2.1 e.2.1.1 (fun y1 => k (.int .i64 y1))
abbrev W48 (F : T48) : WT := wrap s48 (G48 F)
theorem k48 (F50 : T50) (β : Type) (e : argsT s48) (k : V → Option β) : fnK cfg (tabL [(50, W50 F50)]) noX 48 Tryz.f48 β (argsEnc s48 e) k = G48 (P48 F50 ) β e k := by kernel_rfl
theorem ok48 : FnOk D 48 (W48 F48) := fn_okW [(50, W50 F50)] noX (fun _ => rfl) Tryz.func48 rfl (tabL_cons ok50 tabL_nil) (k48 F50 )

/-- laws.szSentS -/
abbrev T26 : Type 1 := (β : Type) → List V → Int → (Int → Option β) → Option β
def P26 (F48 : T48) : T26 := fun β a left k =>
 br (decide (IntKind.wrap .i64 (left - (a.length : Int)) < 0)) (
 k (-1)) (
 whileK (fun s1 =>
 br (decide ((lI s1 2) < ((lL s1 0).length : Int))) (
 chk (0 ≤ (lI s1 2)) <|
 idx true [.str, .str, .str, .bool] (lL s1 0) ((lI s1 2).toNat) fun (e2 : List UInt8 × List UInt8 × List UInt8 × Bool × Unit) =>
 F48 _ e2.1 e2.2.1 e2.2.2.1 e2.2.2.2.1 (lI s1 1) fun n3 =>
 br (decide (n3 < 0)) (
 some (.inr (0, [.i n3, .i (-1)]))) (
 some (.inl [.l (lL s1 0), .i n3, .i (IntKind.wrap .i64 ((lI s1 2) + 1))]))) (
 some (.inr (1, [.i (lI s1 1)])))) [.l a, .i (IntKind.wrap .i64 (left - (a.length : Int))), .i 0] fun (r4 : Nat × List Leaf) =>
 if r4.1 = 0 then
 k (lI r4.2 1)
 else
 k (lI r4.2 0))
def F26 : T26 := P26 F48 
def X26 : Exits := fun i => lookN i [] [(5, [(.ret, xk 27 [(1, .int .i64 0), (4, .int .i64 0)] []), (.exit 0, xk 27 [(1, .int .i64 0)] [])])]
abbrev s26 : List (Bool × List CK) := [(false, [.sl 4 true]), (false, [.int .i64])]
def G26 (F : T26) (β : Type) (e : (List V × Unit) × (Int × Unit) × Unit) (k : V → Option β) : Option β := F β e.1.1 e.2.1.1 (fun y1 => k (.int .i64 y1))
abbrev W26 (F : T26) : WT := wrap s26 (G26 F)
theorem k26 (F48 : T48) (β : Type) (e : argsT s26) (k : V → Option β) : fnK cfg (tabL [(48, W48 F48)]) X26 26 Tryz.f26 β (argsEnc s26 e) k = G26 (P26 F48 ) β e k := by kernel_rfl
theorem ok26 : FnOk D 26 (W26 F26) := fn_okW [(48, W48 F48)] X26 (fun _ => rfl) Tryz.func26 rfl (tabL_cons ok48 tabL_nil) (k26 F48 )

/-- laws.szNet -/
abbrev T9 : Type 1 := (β : Type) → List V → List V → List V → Int → Int → (Int → Option β) → Option β
def P9 (F24 : T24) (F25 : T25) (F26 : T26) : T9 := fun β a_Servers a_Cache_Entries a_Log a_Now left k =>
 F24 _ a_Servers left fun n1 =>
 br (decide (n1 < 0)) (
 k (-1)) (
 F25 _ a_Cache_Entries n1 fun n2 =>
 br (decide (n2 < 0)) (
 k (-1)) (
 F26 _ a_Log n2 fun n3 =>
 br (decide (n3 < 0)) (
 k (-1)) (
 k n3)))
def F9 : T9 := P9 F24 F25 F26 
abbrev s9 : List (Bool × List CK) := [(true, [.sl 2 false, .sl 10 true, .sl 4 true, .int .i64]), (false, [.int .i64])]
def G9 (F : T9) (β : Type) (e : (List V × List V × List V × Int × Unit) × (Int × Unit) × Unit) (k : V → Option β) : Option β := F β e.1.1 e.1.2.1 e.1.2.2.1 e.1.2.2.2.1 e.2.1.1 (fun y1 => k (.int .i64 y1))
abbrev W9 (F : T9) : WT := wrap s9 (G9 F)
theorem k9 (F24 : T24) (F25 : T25) (F26 : T26) (β : Type) (e : argsT s9) (k : V → Option β) : fnK cfg (tabL [(24, W24 F24), (25, W25 F25), (26, W26 F26)]) noX 9 Tryz.f9 β (argsEnc s9 e) k = G9 (P9 F24 F25 F26 ) β e k := by kernel_rfl
theorem ok9 : FnOk D 9 (W9 F9) := fn_okW [(24, W24 F24), (25, W25 F25), (26, W26 F26)] noX (fun _ => rfl) Tryz.func9 rfl (tabL_cons ok24 (tabL_cons ok25 (tabL_cons ok26 tabL_nil))) (k9 F24 F25 F26 )

/-- laws.szStringS -/
abbrev T58 : Type 1 := (β : Type) → List V → Int → (Int → Option β) → Option β
def P58 : T58 := fun β a left k =>
 br (decide (IntKind.wrap .i64 (left - (a.length : Int)) < 0)) (
 k (-1)) (
 whileK (fun s1 =>
 br (decide ((lI s1 2) < ((lL s1 0).length : Int))) (
 chk (0 ≤ (lI s1 2)) <|
 idx false [.str] (lL s1 0) ((lI s1 2).toNat) fun (e2 : List UInt8 × Unit) =>
 br (decide (IntKind.wrap .i64 ((lI s1 1) - (e2.1.length : Int)) < 0)) (
 some (.inr (0, [.i (IntKind.wrap .i64 ((lI s1 1) - (e2.1.length : Int))), .i (-1)]))) (
 some (.inl [.l (lL s1 0), .i (IntKind.wrap .i64 ((lI s1 1) - (e2.1.length : Int))), .i (IntKind.wrap .i64 ((lI s1 2) + 1))]))) (
 some (.inr (1, [.i (lI s1 1)])))) [.l a, .i (IntKind.wrap .i64 (left - (a.length : Int))), .i 0] fun (r3 : Nat × List Leaf) =>
 if r3.1 = 0 then
 k (lI r3.2 1)
 else
 k (lI r3.2 0))
def F58 : T58 := P58 
def X58 : Exits := fun i => lookN i [] [(5, [(.ret, xk 28 [(1, .int .i64 0), (4, .int .i64 0)] []), (.exit 0, xk 28 [(1, .int .i64 0)] [])])]
abbrev s58 : List (Bool × List CK) := [(false, [.sl 1 true]), (false, [.int .i64])]
def G58 (F : T58) (β : Type) (e : (List V × Unit) × (Int × Unit) × Unit) (k : V → Option β) : Option β := F β e.1.1 e.2.1.1 (fun y1 => k (.int .i64 y1))
abbrev W58 (F : T58) : WT := wrap s58 (G58 F)
theorem k58 (β : Type) (e : argsT s58) (k : V → Option β) : fnK cfg (tabL []) X58 58 Tryz.f58 β (argsEnc s58 e) k = G58 (P58 ) β e k := by kernel_rfl
theorem ok58 : FnOk D 58 (W58 F58) := fn_okW [] X58 (fun _ => rfl) Tryz.func58 rfl (tabL_nil) (k58 )

/-- laws.szPolicy -/
abbrev T51 : Type 1 := (β : Type) → Bool → List V → List V → List V → List UInt8 → Int → (Int → Option β) → Option β
def P51 (F58 : T58) : T51 := fun β a_Set a_Scripts a_Styles a_Images a_Nonce left k =>
 F58 _ a_Scripts left fun n1 =>
 br (decide (n1 < 0)) (
 k (-1)) (
 F58 _ a_Styles n1 fun n2 =>
 br (decide (n2 < 0)) (
 k (-1)) (
 F58 _ a_Images n2 fun n3 =>
 br (decide (n3 < 0)) (
 k (-1)) (
 br (decide (IntKind.wrap .i64 (n3 - (a_Nonce.length : Int)) < 0)) (
 k (-1)) (
 k (IntKind.wrap .i64 (n3 - (a_Nonce.length : Int)))))))
def F51 : T51 := P51 F58 
abbrev s51 : List (Bool × List CK) := [(true, [.bool, .sl 1 true, .sl 1 true, .sl 1 true, .str]), (false, [.int .i64])]
def G51 (F : T51) (β : Type) (e : (Bool × List V × List V × List V × List UInt8 × Unit) × (Int × Unit) × Unit) (k : V → Option β) : Option β := let a0_0 := e.1; let a0_1 := a0_0.2; let a0_2 := a0_1.2; let a0_3 := a0_2.2; let a0_4 := a0_3.2; F β a0_0.1 a0_1.1 a0_2.1 a0_3.1 a0_4.1 e.2.1.1 (fun y1 => k (.int .i64 y1))
abbrev W51 (F : T51) : WT := wrap s51 (G51 F)
theorem k51 (F58 : T58) (β : Type) (e : argsT s51) (k : V → Option β) : fnK cfg (tabL [(58, W58 F58)]) noX 51 Tryz.f51 β (argsEnc s51 e) k = G51 (P51 F58 ) β e k := by kernel_rfl
theorem ok51 : FnOk D 51 (W51 F51) := fn_okW [(58, W58 F58)] noX (fun _ => rfl) Tryz.func51 rfl (tabL_cons ok58 tabL_nil) (k51 F58 )

/-- laws.szTokenizer -/
abbrev T52 : Type 1 := (β : Type) → List UInt8 → Int → (Int → Option β) → Option β
def P52 : T52 := fun β a_Rest left k =>
 br (decide (IntKind.wrap .i64 (left - (a_Rest.length : Int)) < 0)) (
 k (-1)) (
 k (IntKind.wrap .i64 (left - (a_Rest.length : Int))))
def F52 : T52 := P52 
abbrev s52 : List (Bool × List CK) := [(true, [.str]), (false, [.int .i64])]
def G52 (F : T52) (β : Type) (e : (List UInt8 × Unit) × (Int × Unit) × Unit) (k : V → Option β) : Option β := F β e.1.1 e.2.1.1 (fun y1 => k (.int .i64 y1))
abbrev W52 (F : T52) : WT := wrap s52 (G52 F)
theorem k52 (β : Type) (e : argsT s52) (k : V → Option β) : fnK cfg (tabL []) noX 52 Tryz.f52 β (argsEnc s52 e) k = G52 (P52 ) β e k := by kernel_rfl
theorem ok52 : FnOk D 52 (W52 F52) := fn_okW [] noX (fun _ => rfl) Tryz.func52 rfl (tabL_nil) (k52 )

/-- laws.szAttr -/
abbrev T127 : Type 1 := (β : Type) → List UInt8 → List UInt8 → Int → (Int → Option β) → Option β
def P127 : T127 := fun β a_Name a_Value left k =>
 br (decide (IntKind.wrap .i64 (left - (a_Name.length : Int)) < 0)) (
 k (-1)) (
 br (decide (IntKind.wrap .i64 ((IntKind.wrap .i64 (left - (a_Name.length : Int))) - (a_Value.length : Int)) < 0)) (
 k (-1)) (
 k (IntKind.wrap .i64 ((IntKind.wrap .i64 (left - (a_Name.length : Int))) - (a_Value.length : Int)))))
def F127 : T127 := P127 
abbrev s127 : List (Bool × List CK) := [(true, [.str, .str]), (false, [.int .i64])]
def G127 (F : T127) (β : Type) (e : (List UInt8 × List UInt8 × Unit) × (Int × Unit) × Unit) (k : V → Option β) : Option β := F β e.1.1 e.1.2.1 e.2.1.1 (fun y1 => k (.int .i64 y1))
abbrev W127 (F : T127) : WT := wrap s127 (G127 F)
theorem k127 (β : Type) (e : argsT s127) (k : V → Option β) : fnK cfg (tabL []) noX 127 Tryz.f127 β (argsEnc s127 e) k = G127 (P127 ) β e k := by kernel_rfl
theorem ok127 : FnOk D 127 (W127 F127) := fn_okW [] noX (fun _ => rfl) Tryz.func127 rfl (tabL_nil) (k127 )

/-- laws.szAttrS -/
abbrev T115 : Type 1 := (β : Type) → List V → Int → (Int → Option β) → Option β
def P115 (F127 : T127) : T115 := fun β a left k =>
 br (decide (IntKind.wrap .i64 (left - (a.length : Int)) < 0)) (
 k (-1)) (
 whileK (fun s1 =>
 br (decide ((lI s1 2) < ((lL s1 0).length : Int))) (
 chk (0 ≤ (lI s1 2)) <|
 idx true [.str, .str] (lL s1 0) ((lI s1 2).toNat) fun (e2 : List UInt8 × List UInt8 × Unit) =>
 F127 _ e2.1 e2.2.1 (lI s1 1) fun n3 =>
 br (decide (n3 < 0)) (
 some (.inr (0, [.i n3, .i (-1)]))) (
 some (.inl [.l (lL s1 0), .i n3, .i (IntKind.wrap .i64 ((lI s1 2) + 1))]))) (
 some (.inr (1, [.i (lI s1 1)])))) [.l a, .i (IntKind.wrap .i64 (left - (a.length : Int))), .i 0] fun (r4 : Nat × List Leaf) =>
 if r4.1 = 0 then
 k (lI r4.2 1)
 else
 k (lI r4.2 0))
def F115 : T115 := P115 F127 
def X115 : Exits := fun i => lookN i [] [(5, [(.ret, xk 27 [(1, .int .i64 0), (4, .int .i64 0)] []), (.exit 0, xk 27 [(1, .int .i64 0)] [])])]
abbrev s115 : List (Bool × List CK) := [(false, [.sl 2 true]), (false, [.int .i64])]
def G115 (F : T115) (β : Type) (e : (List V × Unit) × (Int × Unit) × Unit) (k : V → Option β) : Option β := F β e.1.1 e.2.1.1 (fun y1 => k (.int .i64 y1))
abbrev W115 (F : T115) : WT := wrap s115 (G115 F)
theorem k115 (F127 : T127) (β : Type) (e : argsT s115) (k : V → Option β) : fnK cfg (tabL [(127, W127 F127)]) X115 115 Tryz.f115 β (argsEnc s115 e) k = G115 (P115 F127 ) β e k := by kernel_rfl
theorem ok115 : FnOk D 115 (W115 F115) := fn_okW [(127, W127 F127)] X115 (fun _ => rfl) Tryz.func115 rfl (tabL_cons ok127 tabL_nil) (k115 F127 )

/-- laws.szToken -/
abbrev T91 : Type 1 := (β : Type) → Int → List UInt8 → List V → List UInt8 → Int → (Int → Option β) → Option β
def P91 (F115 : T115) : T91 := fun β a_Kind a_Name a_Attrs a_Text left k =>
 br (decide (IntKind.wrap .i64 (left - (a_Name.length : Int)) < 0)) (
 k (-1)) (
 F115 _ a_Attrs (IntKind.wrap .i64 (left - (a_Name.length : Int))) fun n1 =>
 br (decide (n1 < 0)) (
 k (-1)) (
 br (decide (IntKind.wrap .i64 (n1 - (a_Text.length : Int)) < 0)) (
 k (-1)) (
 k (IntKind.wrap .i64 (n1 - (a_Text.length : Int))))))
def F91 : T91 := P91 F115 
abbrev s91 : List (Bool × List CK) := [(true, [.int .i64, .str, .sl 2 true, .str]), (false, [.int .i64])]
def G91 (F : T91) (β : Type) (e : (Int × List UInt8 × List V × List UInt8 × Unit) × (Int × Unit) × Unit) (k : V → Option β) : Option β := F β e.1.1 e.1.2.1 e.1.2.2.1 e.1.2.2.2.1 e.2.1.1 (fun y1 => k (.int .i64 y1))
abbrev W91 (F : T91) : WT := wrap s91 (G91 F)
theorem k91 (F115 : T115) (β : Type) (e : argsT s91) (k : V → Option β) : fnK cfg (tabL [(115, W115 F115)]) noX 91 Tryz.f91 β (argsEnc s91 e) k = G91 (P91 F115 ) β e k := by kernel_rfl
theorem ok91 : FnOk D 91 (W91 F91) := fn_okW [(115, W115 F115)] noX (fun _ => rfl) Tryz.func91 rfl (tabL_cons ok115 tabL_nil) (k91 F115 )

/-- laws.szTokenS -/
abbrev T53 : Type 1 := (β : Type) → List V → Int → (Int → Option β) → Option β
def P53 (F91 : T91) : T53 := fun β a left k =>
 br (decide (IntKind.wrap .i64 (left - (a.length : Int)) < 0)) (
 k (-1)) (
 whileK (fun s1 =>
 br (decide ((lI s1 2) < ((lL s1 0).length : Int))) (
 chk (0 ≤ (lI s1 2)) <|
 idx true [.int .i64, .str, .sl 2 true, .str] (lL s1 0) ((lI s1 2).toNat) fun (e2 : Int × List UInt8 × List V × List UInt8 × Unit) =>
 F91 _ e2.1 e2.2.1 e2.2.2.1 e2.2.2.2.1 (lI s1 1) fun n3 =>
 br (decide (n3 < 0)) (
 some (.inr (0, [.i n3, .i (-1)]))) (
 some (.inl [.l (lL s1 0), .i n3, .i (IntKind.wrap .i64 ((lI s1 2) + 1))]))) (
 some (.inr (1, [.i (lI s1 1)])))) [.l a, .i (IntKind.wrap .i64 (left - (a.length : Int))), .i 0] fun (r4 : Nat × List Leaf) =>
 if r4.1 = 0 then
 k (lI r4.2 1)
 else
 k (lI r4.2 0))
def F53 : T53 := P53 F91 
def X53 : Exits := fun i => lookN i [] [(5, [(.ret, xk 27 [(1, .int .i64 0), (4, .int .i64 0)] []), (.exit 0, xk 27 [(1, .int .i64 0)] [])])]
abbrev s53 : List (Bool × List CK) := [(false, [.sl 4 false]), (false, [.int .i64])]
def G53 (F : T53) (β : Type) (e : (List V × Unit) × (Int × Unit) × Unit) (k : V → Option β) : Option β := F β e.1.1 e.2.1.1 (fun y1 => k (.int .i64 y1))
abbrev W53 (F : T53) : WT := wrap s53 (G53 F)
theorem k53 (F91 : T91) (β : Type) (e : argsT s53) (k : V → Option β) : fnK cfg (tabL [(91, W91 F91)]) X53 53 Tryz.f53 β (argsEnc s53 e) k = G53 (P53 F91 ) β e k := by kernel_rfl
theorem ok53 : FnOk D 53 (W53 F53) := fn_okW [(91, W91 F91)] X53 (fun _ => rfl) Tryz.func53 rfl (tabL_cons ok91 tabL_nil) (k53 F91 )

/-- laws.szNode -/
abbrev T116 : Type 1 := (β : Type) → List UInt8 → List UInt8 → Int → List V → Int → (Int → Option β) → Option β
def P116 (F115 : T115) : T116 := fun β a_Name a_Text a_Parent a_Attrs left k =>
 br (decide (IntKind.wrap .i64 (left - (a_Name.length : Int)) < 0)) (
 k (-1)) (
 br (decide (IntKind.wrap .i64 ((IntKind.wrap .i64 (left - (a_Name.length : Int))) - (a_Text.length : Int)) < 0)) (
 k (-1)) (
 F115 _ a_Attrs (IntKind.wrap .i64 ((IntKind.wrap .i64 (left - (a_Name.length : Int))) - (a_Text.length : Int))) fun n1 =>
 br (decide (n1 < 0)) (
 k (-1)) (
 k n1)))
def F116 : T116 := P116 F115 
abbrev s116 : List (Bool × List CK) := [(true, [.str, .str, .int .i64, .sl 2 true]), (false, [.int .i64])]
def G116 (F : T116) (β : Type) (e : (List UInt8 × List UInt8 × Int × List V × Unit) × (Int × Unit) × Unit) (k : V → Option β) : Option β := F β e.1.1 e.1.2.1 e.1.2.2.1 e.1.2.2.2.1 e.2.1.1 (fun y1 => k (.int .i64 y1))
abbrev W116 (F : T116) : WT := wrap s116 (G116 F)
theorem k116 (F115 : T115) (β : Type) (e : argsT s116) (k : V → Option β) : fnK cfg (tabL [(115, W115 F115)]) noX 116 Tryz.f116 β (argsEnc s116 e) k = G116 (P116 F115 ) β e k := by kernel_rfl
theorem ok116 : FnOk D 116 (W116 F116) := fn_okW [(115, W115 F115)] noX (fun _ => rfl) Tryz.func116 rfl (tabL_cons ok115 tabL_nil) (k116 F115 )

/-- laws.szNodeS -/
abbrev T92 : Type 1 := (β : Type) → List V → Int → (Int → Option β) → Option β
def P92 (F116 : T116) : T92 := fun β a left k =>
 br (decide (IntKind.wrap .i64 (left - (a.length : Int)) < 0)) (
 k (-1)) (
 whileK (fun s1 =>
 br (decide ((lI s1 2) < ((lL s1 0).length : Int))) (
 chk (0 ≤ (lI s1 2)) <|
 idx true [.str, .str, .int .i64, .sl 2 true] (lL s1 0) ((lI s1 2).toNat) fun (e2 : List UInt8 × List UInt8 × Int × List V × Unit) =>
 F116 _ e2.1 e2.2.1 e2.2.2.1 e2.2.2.2.1 (lI s1 1) fun n3 =>
 br (decide (n3 < 0)) (
 some (.inr (0, [.i n3, .i (-1)]))) (
 some (.inl [.l (lL s1 0), .i n3, .i (IntKind.wrap .i64 ((lI s1 2) + 1))]))) (
 some (.inr (1, [.i (lI s1 1)])))) [.l a, .i (IntKind.wrap .i64 (left - (a.length : Int))), .i 0] fun (r4 : Nat × List Leaf) =>
 if r4.1 = 0 then
 k (lI r4.2 1)
 else
 k (lI r4.2 0))
def F92 : T92 := P92 F116 
def X92 : Exits := fun i => lookN i [] [(5, [(.ret, xk 27 [(1, .int .i64 0), (4, .int .i64 0)] []), (.exit 0, xk 27 [(1, .int .i64 0)] [])])]
abbrev s92 : List (Bool × List CK) := [(false, [.sl 4 false]), (false, [.int .i64])]
def G92 (F : T92) (β : Type) (e : (List V × Unit) × (Int × Unit) × Unit) (k : V → Option β) : Option β := F β e.1.1 e.2.1.1 (fun y1 => k (.int .i64 y1))
abbrev W92 (F : T92) : WT := wrap s92 (G92 F)
theorem k92 (F116 : T116) (β : Type) (e : argsT s92) (k : V → Option β) : fnK cfg (tabL [(116, W116 F116)]) X92 92 Tryz.f92 β (argsEnc s92 e) k = G92 (P92 F116 ) β e k := by kernel_rfl
theorem ok92 : FnOk D 92 (W92 F92) := fn_okW [(116, W116 F116)] X92 (fun _ => rfl) Tryz.func92 rfl (tabL_cons ok116 tabL_nil) (k92 F116 )

/-- laws.szIntS -/
abbrev T93 : Type 1 := (β : Type) → List V → Int → (Int → Option β) → Option β
def P93 : T93 := fun β a left k =>
 br (decide (IntKind.wrap .i64 (left - (a.length : Int)) < 0)) (
 k (-1)) (
 k (IntKind.wrap .i64 (left - (a.length : Int))))
def F93 : T93 := P93 
abbrev s93 : List (Bool × List CK) := [(false, [.sl 1 true]), (false, [.int .i64])]
def G93 (F : T93) (β : Type) (e : (List V × Unit) × (Int × Unit) × Unit) (k : V → Option β) : Option β := F β e.1.1 e.2.1.1 (fun y1 => k (.int .i64 y1))
abbrev W93 (F : T93) : WT := wrap s93 (G93 F)
theorem k93 (β : Type) (e : argsT s93) (k : V → Option β) : fnK cfg (tabL []) noX 93 Tryz.f93 β (argsEnc s93 e) k = G93 (P93 ) β e k := by kernel_rfl
theorem ok93 : FnOk D 93 (W93 F93) := fn_okW [] noX (fun _ => rfl) Tryz.func93 rfl (tabL_nil) (k93 )

/-- laws.szBuilder -/
abbrev T54 : Type 1 := (β : Type) → List V → List V → Int → (Int → Option β) → Option β
def P54 (F92 : T92) (F93 : T93) : T54 := fun β a_Nodes a_Open left k =>
 F92 _ a_Nodes left fun n1 =>
 br (decide (n1 < 0)) (
 k (-1)) (
 F93 _ a_Open n1 fun n2 =>
 br (decide (n2 < 0)) (
 k (-1)) (
 k n2))
def F54 : T54 := P54 F92 F93 
abbrev s54 : List (Bool × List CK) := [(true, [.sl 4 false, .sl 1 true]), (false, [.int .i64])]
def G54 (F : T54) (β : Type) (e : (List V × List V × Unit) × (Int × Unit) × Unit) (k : V → Option β) : Option β := F β e.1.1 e.1.2.1 e.2.1.1 (fun y1 => k (.int .i64 y1))
abbrev W54 (F : T54) : WT := wrap s54 (G54 F)
theorem k54 (F92 : T92) (F93 : T93) (β : Type) (e : argsT s54) (k : V → Option β) : fnK cfg (tabL [(92, W92 F92), (93, W93 F93)]) noX 54 Tryz.f54 β (argsEnc s54 e) k = G54 (P54 F92 F93 ) β e k := by kernel_rfl
theorem ok54 : FnOk D 54 (W54 F54) := fn_okW [(92, W92 F92), (93, W93 F93)] noX (fun _ => rfl) Tryz.func54 rfl (tabL_cons ok92 (tabL_cons ok93 tabL_nil)) (k54 F92 F93 )

/-- laws.szSlot -/
abbrev T94 : Type 1 := (β : Type) → Int → List UInt8 → List UInt8 → List UInt8 → Int → Bool → Int → List UInt8 → Int → (Int → Option β) → Option β
def P94 (F50 : T50) : T94 := fun β a_Mode a_To_Host a_To_Path a_Digest a_Node a_Done a_Code a_Body left k =>
 F50 _ a_To_Host a_To_Path left fun n1 =>
 br (decide (n1 < 0)) (
 k (-1)) (
 br (decide (IntKind.wrap .i64 (n1 - (a_Digest.length : Int)) < 0)) (
 k (-1)) (
 br (decide (IntKind.wrap .i64 ((IntKind.wrap .i64 (n1 - (a_Digest.length : Int))) - (a_Body.length : Int)) < 0)) (
 k (-1)) (
 k (IntKind.wrap .i64 ((IntKind.wrap .i64 (n1 - (a_Digest.length : Int))) - (a_Body.length : Int))))))
def F94 : T94 := P94 F50 
abbrev s94 : List (Bool × List CK) := [(true, [.int .i64, .str, .str, .str, .int .i64, .bool, .int .i64, .str]), (false, [.int .i64])]
def G94 (F : T94) (β : Type) (e : (Int × List UInt8 × List UInt8 × List UInt8 × Int × Bool × Int × List UInt8 × Unit) × (Int × Unit) × Unit) (k : V → Option β) : Option β := let a0_0 := e.1; let a0_1 := a0_0.2; let a0_2 := a0_1.2; let a0_3 := a0_2.2; let a0_4 := a0_3.2; let a0_5 := a0_4.2; let a0_6 := a0_5.2; let a0_7 := a0_6.2; F β a0_0.1 a0_1.1 a0_2.1 a0_3.1 a0_4.1 a0_5.1 a0_6.1 a0_7.1 e.2.1.1 (fun y1 => k (.int .i64 y1))
abbrev W94 (F : T94) : WT := wrap s94 (G94 F)
theorem k94 (F50 : T50) (β : Type) (e : argsT s94) (k : V → Option β) : fnK cfg (tabL [(50, W50 F50)]) noX 94 Tryz.f94 β (argsEnc s94 e) k = G94 (P94 F50 ) β e k := by kernel_rfl
theorem ok94 : FnOk D 94 (W94 F94) := fn_okW [(50, W50 F50)] noX (fun _ => rfl) Tryz.func94 rfl (tabL_cons ok50 tabL_nil) (k94 F50 )

/-- laws.szSlotS -/
abbrev T55 : Type 1 := (β : Type) → List V → Int → (Int → Option β) → Option β
def P55 (F94 : T94) : T55 := fun β a left k =>
 br (decide (IntKind.wrap .i64 (left - (a.length : Int)) < 0)) (
 k (-1)) (
 whileK (fun s1 =>
 br (decide ((lI s1 2) < ((lL s1 0).length : Int))) (
 chk (0 ≤ (lI s1 2)) <|
 idx true [.int .i64, .str, .str, .str, .int .i64, .bool, .int .i64, .str] (lL s1 0) ((lI s1 2).toNat) fun (e2 : Int × List UInt8 × List UInt8 × List UInt8 × Int × Bool × Int × List UInt8 × Unit) =>
 F94 _ e2.1 e2.2.1 e2.2.2.1 e2.2.2.2.1 e2.2.2.2.2.1 e2.2.2.2.2.2.1 e2.2.2.2.2.2.2.1 e2.2.2.2.2.2.2.2.1 (lI s1 1) fun n3 =>
 br (decide (n3 < 0)) (
 some (.inr (0, [.i n3, .i (-1)]))) (
 some (.inl [.l (lL s1 0), .i n3, .i (IntKind.wrap .i64 ((lI s1 2) + 1))]))) (
 some (.inr (1, [.i (lI s1 1)])))) [.l a, .i (IntKind.wrap .i64 (left - (a.length : Int))), .i 0] fun (r4 : Nat × List Leaf) =>
 if r4.1 = 0 then
 k (lI r4.2 1)
 else
 k (lI r4.2 0))
def F55 : T55 := P55 F94 
def X55 : Exits := fun i => lookN i [] [(5, [(.ret, xk 27 [(1, .int .i64 0), (4, .int .i64 0)] []), (.exit 0, xk 27 [(1, .int .i64 0)] [])])]
abbrev s55 : List (Bool × List CK) := [(false, [.sl 8 true]), (false, [.int .i64])]
def G55 (F : T55) (β : Type) (e : (List V × Unit) × (Int × Unit) × Unit) (k : V → Option β) : Option β := F β e.1.1 e.2.1.1 (fun y1 => k (.int .i64 y1))
abbrev W55 (F : T55) : WT := wrap s55 (G55 F)
theorem k55 (F94 : T94) (β : Type) (e : argsT s55) (k : V → Option β) : fnK cfg (tabL [(94, W94 F94)]) X55 55 Tryz.f55 β (argsEnc s55 e) k = G55 (P55 F94 ) β e k := by kernel_rfl
theorem ok55 : FnOk D 55 (W55 F55) := fn_okW [(94, W94 F94)] X55 (fun _ => rfl) Tryz.func55 rfl (tabL_cons ok94 tabL_nil) (k55 F94 )

/-- laws.szModule -/
abbrev T95 : Type 1 := (β : Type) → List UInt8 → List UInt8 → Bool → Int → List UInt8 → Int → (Int → Option β) → Option β
def P95 (F50 : T50) : T95 := fun β a_To_Host a_To_Path a_Done a_Code a_Body left k =>
 F50 _ a_To_Host a_To_Path left fun n1 =>
 br (decide (n1 < 0)) (
 k (-1)) (
 br (decide (IntKind.wrap .i64 (n1 - (a_Body.length : Int)) < 0)) (
 k (-1)) (
 k (IntKind.wrap .i64 (n1 - (a_Body.length : Int)))))
def F95 : T95 := P95 F50 
abbrev s95 : List (Bool × List CK) := [(true, [.str, .str, .bool, .int .i64, .str]), (false, [.int .i64])]
def G95 (F : T95) (β : Type) (e : (List UInt8 × List UInt8 × Bool × Int × List UInt8 × Unit) × (Int × Unit) × Unit) (k : V → Option β) : Option β := let a0_0 := e.1; let a0_1 := a0_0.2; let a0_2 := a0_1.2; let a0_3 := a0_2.2; let a0_4 := a0_3.2; F β a0_0.1 a0_1.1 a0_2.1 a0_3.1 a0_4.1 e.2.1.1 (fun y1 => k (.int .i64 y1))
abbrev W95 (F : T95) : WT := wrap s95 (G95 F)
theorem k95 (F50 : T50) (β : Type) (e : argsT s95) (k : V → Option β) : fnK cfg (tabL [(50, W50 F50)]) noX 95 Tryz.f95 β (argsEnc s95 e) k = G95 (P95 F50 ) β e k := by kernel_rfl
theorem ok95 : FnOk D 95 (W95 F95) := fn_okW [(50, W50 F50)] noX (fun _ => rfl) Tryz.func95 rfl (tabL_cons ok50 tabL_nil) (k95 F50 )

/-- laws.szModuleS -/
abbrev T56 : Type 1 := (β : Type) → List V → Int → (Int → Option β) → Option β
def P56 (F95 : T95) : T56 := fun β a left k =>
 br (decide (IntKind.wrap .i64 (left - (a.length : Int)) < 0)) (
 k (-1)) (
 whileK (fun s1 =>
 br (decide ((lI s1 2) < ((lL s1 0).length : Int))) (
 chk (0 ≤ (lI s1 2)) <|
 idx true [.str, .str, .bool, .int .i64, .str] (lL s1 0) ((lI s1 2).toNat) fun (e2 : List UInt8 × List UInt8 × Bool × Int × List UInt8 × Unit) =>
 F95 _ e2.1 e2.2.1 e2.2.2.1 e2.2.2.2.1 e2.2.2.2.2.1 (lI s1 1) fun n3 =>
 br (decide (n3 < 0)) (
 some (.inr (0, [.i n3, .i (-1)]))) (
 some (.inl [.l (lL s1 0), .i n3, .i (IntKind.wrap .i64 ((lI s1 2) + 1))]))) (
 some (.inr (1, [.i (lI s1 1)])))) [.l a, .i (IntKind.wrap .i64 (left - (a.length : Int))), .i 0] fun (r4 : Nat × List Leaf) =>
 if r4.1 = 0 then
 k (lI r4.2 1)
 else
 k (lI r4.2 0))
def F56 : T56 := P56 F95 
def X56 : Exits := fun i => lookN i [] [(5, [(.ret, xk 27 [(1, .int .i64 0), (4, .int .i64 0)] []), (.exit 0, xk 27 [(1, .int .i64 0)] [])])]
abbrev s56 : List (Bool × List CK) := [(false, [.sl 5 true]), (false, [.int .i64])]
def G56 (F : T56) (β : Type) (e : (List V × Unit) × (Int × Unit) × Unit) (k : V → Option β) : Option β := F β e.1.1 e.2.1.1 (fun y1 => k (.int .i64 y1))
abbrev W56 (F : T56) : WT := wrap s56 (G56 F)
theorem k56 (F95 : T95) (β : Type) (e : argsT s56) (k : V → Option β) : fnK cfg (tabL [(95, W95 F95)]) X56 56 Tryz.f56 β (argsEnc s56 e) k = G56 (P56 F95 ) β e k := by kernel_rfl
theorem ok56 : FnOk D 56 (W56 F56) := fn_okW [(95, W95 F95)] X56 (fun _ => rfl) Tryz.func56 rfl (tabL_cons ok95 tabL_nil) (k56 F95 )

/-- laws.szAddrS -/
abbrev T57 : Type 1 := (β : Type) → List V → Int → (Int → Option β) → Option β
def P57 (F50 : T50) : T57 := fun β a left k =>
 br (decide (IntKind.wrap .i64 (left - (a.length : Int)) < 0)) (
 k (-1)) (
 whileK (fun s1 =>
 br (decide ((lI s1 2) < ((lL s1 0).length : Int))) (
 chk (0 ≤ (lI s1 2)) <|
 idx true [.str, .str] (lL s1 0) ((lI s1 2).toNat) fun (e2 : List UInt8 × List UInt8 × Unit) =>
 F50 _ e2.1 e2.2.1 (lI s1 1) fun n3 =>
 br (decide (n3 < 0)) (
 some (.inr (0, [.i n3, .i (-1)]))) (
 some (.inl [.l (lL s1 0), .i n3, .i (IntKind.wrap .i64 ((lI s1 2) + 1))]))) (
 some (.inr (1, [.i (lI s1 1)])))) [.l a, .i (IntKind.wrap .i64 (left - (a.length : Int))), .i 0] fun (r4 : Nat × List Leaf) =>
 if r4.1 = 0 then
 k (lI r4.2 1)
 else
 k (lI r4.2 0))
def F57 : T57 := P57 F50 
def X57 : Exits := fun i => lookN i [] [(5, [(.ret, xk 27 [(1, .int .i64 0), (4, .int .i64 0)] []), (.exit 0, xk 27 [(1, .int .i64 0)] [])])]
abbrev s57 : List (Bool × List CK) := [(false, [.sl 2 true]), (false, [.int .i64])]
def G57 (F : T57) (β : Type) (e : (List V × Unit) × (Int × Unit) × Unit) (k : V → Option β) : Option β := F β e.1.1 e.2.1.1 (fun y1 => k (.int .i64 y1))
abbrev W57 (F : T57) : WT := wrap s57 (G57 F)
theorem k57 (F50 : T50) (β : Type) (e : argsT s57) (k : V → Option β) : fnK cfg (tabL [(50, W50 F50)]) X57 57 Tryz.f57 β (argsEnc s57 e) k = G57 (P57 F50 ) β e k := by kernel_rfl
theorem ok57 : FnOk D 57 (W57 F57) := fn_okW [(50, W50 F50)] X57 (fun _ => rfl) Tryz.func57 rfl (tabL_cons ok50 tabL_nil) (k57 F50 )

/-- laws.szPage -/
abbrev T28 : Type 1 := (β : Type) → List UInt8 → List UInt8 → Bool → List V → List V → List V → List UInt8 → List UInt8 → List V → Bool → List V → List V → List V → List V → List V → Int → Int → Int → Int → List V → List V → Bool → Int → (Int → Option β) → Option β
def P28 (F50 : T50) (F51 : T51) (F52 : T52) (F53 : T53) (F54 : T54) (F55 : T55) (F56 : T56) (F57 : T57) (F58 : T58) : T28 := fun β a_Addr_Host a_Addr_Path a_Policy_Set a_Policy_Scripts a_Policy_Styles a_Policy_Images a_Policy_Nonce a_Tok_Rest a_Queue a_Ended a_Builder_Nodes a_Builder_Open a_Slots a_Mods a_Entries a_Block a_Inline a_Deferred a_Entered a_Ran a_Log a_Loaded left k =>
 F50 _ a_Addr_Host a_Addr_Path left fun n1 =>
 br (decide (n1 < 0)) (
 k (-1)) (
 F51 _ a_Policy_Set a_Policy_Scripts a_Policy_Styles a_Policy_Images a_Policy_Nonce n1 fun n2 =>
 br (decide (n2 < 0)) (
 k (-1)) (
 F52 _ a_Tok_Rest n2 fun n3 =>
 br (decide (n3 < 0)) (
 k (-1)) (
 F53 _ a_Queue n3 fun n4 =>
 br (decide (n4 < 0)) (
 k (-1)) (
 F54 _ a_Builder_Nodes a_Builder_Open n4 fun n5 =>
 br (decide (n5 < 0)) (
 k (-1)) (
 F55 _ a_Slots n5 fun n6 =>
 br (decide (n6 < 0)) (
 k (-1)) (
 F56 _ a_Mods n6 fun n7 =>
 br (decide (n7 < 0)) (
 k (-1)) (
 F57 _ a_Entries n7 fun n8 =>
 br (decide (n8 < 0)) (
 k (-1)) (
 F57 _ a_Ran n8 fun n9 =>
 br (decide (n9 < 0)) (
 k (-1)) (
 F58 _ a_Log n9 fun n10 =>
 br (decide (n10 < 0)) (
 k (-1)) (
 k n10))))))))))
def F28 : T28 := P28 F50 F51 F52 F53 F54 F55 F56 F57 F58 
abbrev s28 : List (Bool × List CK) := [(true, [.str, .str, .bool, .sl 1 true, .sl 1 true, .sl 1 true, .str, .str, .sl 4 false, .bool, .sl 4 false, .sl 1 true, .sl 8 true, .sl 5 true, .sl 2 true, .int .i64, .int .i64, .int .i64, .int .i64, .sl 2 true, .sl 1 true, .bool]), (false, [.int .i64])]
def G28 (F : T28) (β : Type) (e : (List UInt8 × List UInt8 × Bool × List V × List V × List V × List UInt8 × List UInt8 × List V × Bool × List V × List V × List V × List V × List V × Int × Int × Int × Int × List V × List V × Bool × Unit) × (Int × Unit) × Unit) (k : V → Option β) : Option β := let a0_0 := e.1; let a0_1 := a0_0.2; let a0_2 := a0_1.2; let a0_3 := a0_2.2; let a0_4 := a0_3.2; let a0_5 := a0_4.2; let a0_6 := a0_5.2; let a0_7 := a0_6.2; let a0_8 := a0_7.2; let a0_9 := a0_8.2; let a0_10 := a0_9.2; let a0_11 := a0_10.2; let a0_12 := a0_11.2; let a0_13 := a0_12.2; let a0_14 := a0_13.2; let a0_15 := a0_14.2; let a0_16 := a0_15.2; let a0_17 := a0_16.2; let a0_18 := a0_17.2; let a0_19 := a0_18.2; let a0_20 := a0_19.2; let a0_21 := a0_20.2; F β a0_0.1 a0_1.1 a0_2.1 a0_3.1 a0_4.1 a0_5.1 a0_6.1 a0_7.1 a0_8.1 a0_9.1 a0_10.1 a0_11.1 a0_12.1 a0_13.1 a0_14.1 a0_15.1 a0_16.1 a0_17.1 a0_18.1 a0_19.1 a0_20.1 a0_21.1 e.2.1.1 (fun y1 => k (.int .i64 y1))
abbrev W28 (F : T28) : WT := wrap s28 (G28 F)
theorem k28 (F50 : T50) (F51 : T51) (F52 : T52) (F53 : T53) (F54 : T54) (F55 : T55) (F56 : T56) (F57 : T57) (F58 : T58) (β : Type) (e : argsT s28) (k : V → Option β) : fnK cfg (tabL [(50, W50 F50), (51, W51 F51), (52, W52 F52), (53, W53 F53), (54, W54 F54), (55, W55 F55), (56, W56 F56), (57, W57 F57), (58, W58 F58)]) noX 28 Tryz.f28 β (argsEnc s28 e) k = G28 (P28 F50 F51 F52 F53 F54 F55 F56 F57 F58 ) β e k := by kernel_rfl
theorem ok28 : FnOk D 28 (W28 F28) := fn_okW [(50, W50 F50), (51, W51 F51), (52, W52 F52), (53, W53 F53), (54, W54 F54), (55, W55 F55), (56, W56 F56), (57, W57 F57), (58, W58 F58)] noX (fun _ => rfl) Tryz.func28 rfl (tabL_cons ok50 (tabL_cons ok51 (tabL_cons ok52 (tabL_cons ok53 (tabL_cons ok54 (tabL_cons ok55 (tabL_cons ok56 (tabL_cons ok57 (tabL_cons ok58 tabL_nil))))))))) (k28 F50 F51 F52 F53 F54 F55 F56 F57 F58 )

/-- laws.szVisit -/
abbrev T49 : Type 1 := (β : Type) → List UInt8 → List UInt8 → List UInt8 → List UInt8 → Bool → List V → List V → List V → List UInt8 → List UInt8 → List V → Bool → List V → List V → List V → List V → List V → Int → Int → Int → Int → List V → List V → Bool → Bool → Int → (Int → Option β) → Option β
def P49 (F50 : T50) (F28 : T28) : T49 := fun β a_Addr_Host a_Addr_Path a_Page_Addr_Host a_Page_Addr_Path a_Page_Policy_Set a_Page_Policy_Scripts a_Page_Policy_Styles a_Page_Policy_Images a_Page_Policy_Nonce a_Page_Tok_Rest a_Page_Queue a_Page_Ended a_Page_Builder_Nodes a_Page_Builder_Open a_Page_Slots a_Page_Mods a_Page_Entries a_Page_Block a_Page_Inline a_Page_Deferred a_Page_Entered a_Page_Ran a_Page_Log a_Page_Loaded a_Kept left k =>
 F50 _ a_Addr_Host a_Addr_Path left fun n1 =>
 br (decide (n1 < 0)) (
 k (-1)) (
 F28 _ a_Page_Addr_Host a_Page_Addr_Path a_Page_Policy_Set a_Page_Policy_Scripts a_Page_Policy_Styles a_Page_Policy_Images a_Page_Policy_Nonce a_Page_Tok_Rest a_Page_Queue a_Page_Ended a_Page_Builder_Nodes a_Page_Builder_Open a_Page_Slots a_Page_Mods a_Page_Entries a_Page_Block a_Page_Inline a_Page_Deferred a_Page_Entered a_Page_Ran a_Page_Log a_Page_Loaded n1 fun n2 =>
 br (decide (n2 < 0)) (
 k (-1)) (
 k n2))
def F49 : T49 := P49 F50 F28 
abbrev s49 : List (Bool × List CK) := [(true, [.str, .str, .str, .str, .bool, .sl 1 true, .sl 1 true, .sl 1 true, .str, .str, .sl 4 false, .bool, .sl 4 false, .sl 1 true, .sl 8 true, .sl 5 true, .sl 2 true, .int .i64, .int .i64, .int .i64, .int .i64, .sl 2 true, .sl 1 true, .bool, .bool]), (false, [.int .i64])]
def G49 (F : T49) (β : Type) (e : (List UInt8 × List UInt8 × List UInt8 × List UInt8 × Bool × List V × List V × List V × List UInt8 × List UInt8 × List V × Bool × List V × List V × List V × List V × List V × Int × Int × Int × Int × List V × List V × Bool × Bool × Unit) × (Int × Unit) × Unit) (k : V → Option β) : Option β := let a0_0 := e.1; let a0_1 := a0_0.2; let a0_2 := a0_1.2; let a0_3 := a0_2.2; let a0_4 := a0_3.2; let a0_5 := a0_4.2; let a0_6 := a0_5.2; let a0_7 := a0_6.2; let a0_8 := a0_7.2; let a0_9 := a0_8.2; let a0_10 := a0_9.2; let a0_11 := a0_10.2; let a0_12 := a0_11.2; let a0_13 := a0_12.2; let a0_14 := a0_13.2; let a0_15 := a0_14.2; let a0_16 := a0_15.2; let a0_17 := a0_16.2; let a0_18 := a0_17.2; let a0_19 := a0_18.2; let a0_20 := a0_19.2; let a0_21 := a0_20.2; let a0_22 := a0_21.2; let a0_23 := a0_22.2; let a0_24 := a0_23.2; F β a0_0.1 a0_1.1 a0_2.1 a0_3.1 a0_4.1 a0_5.1 a0_6.1 a0_7.1 a0_8.1 a0_9.1 a0_10.1 a0_11.1 a0_12.1 a0_13.1 a0_14.1 a0_15.1 a0_16.1 a0_17.1 a0_18.1 a0_19.1 a0_20.1 a0_21.1 a0_22.1 a0_23.1 a0_24.1 e.2.1.1 (fun y1 => k (.int .i64 y1))
abbrev W49 (F : T49) : WT := wrap s49 (G49 F)
theorem k49 (F50 : T50) (F28 : T28) (β : Type) (e : argsT s49) (k : V → Option β) : fnK cfg (tabL [(50, W50 F50), (28, W28 F28)]) noX 49 Tryz.f49 β (argsEnc s49 e) k = G49 (P49 F50 F28 ) β e k := by kernel_rfl
theorem ok49 : FnOk D 49 (W49 F49) := fn_okW [(50, W50 F50), (28, W28 F28)] noX (fun _ => rfl) Tryz.func49 rfl (tabL_cons ok50 (tabL_cons ok28 tabL_nil)) (k49 F50 F28 )

/-- laws.szVisitS -/
abbrev T27 : Type 1 := (β : Type) → List V → Int → (Int → Option β) → Option β
def P27 (F49 : T49) : T27 := fun β a left k =>
 br (decide (IntKind.wrap .i64 (left - (a.length : Int)) < 0)) (
 k (-1)) (
 whileK (fun s1 =>
 br (decide ((lI s1 2) < ((lL s1 0).length : Int))) (
 chk (0 ≤ (lI s1 2)) <|
 idx true [.str, .str, .str, .str, .bool, .sl 1 true, .sl 1 true, .sl 1 true, .str, .str, .sl 4 false, .bool, .sl 4 false, .sl 1 true, .sl 8 true, .sl 5 true, .sl 2 true, .int .i64, .int .i64, .int .i64, .int .i64, .sl 2 true, .sl 1 true, .bool, .bool] (lL s1 0) ((lI s1 2).toNat) fun (e2 : List UInt8 × List UInt8 × List UInt8 × List UInt8 × Bool × List V × List V × List V × List UInt8 × List UInt8 × List V × Bool × List V × List V × List V × List V × List V × Int × Int × Int × Int × List V × List V × Bool × Bool × Unit) =>
 F49 _ e2.1 e2.2.1 e2.2.2.1 e2.2.2.2.1 e2.2.2.2.2.1 e2.2.2.2.2.2.1 e2.2.2.2.2.2.2.1 e2.2.2.2.2.2.2.2.1 e2.2.2.2.2.2.2.2.2.1 e2.2.2.2.2.2.2.2.2.2.1 e2.2.2.2.2.2.2.2.2.2.2.1 e2.2.2.2.2.2.2.2.2.2.2.2.1 e2.2.2.2.2.2.2.2.2.2.2.2.2.1 e2.2.2.2.2.2.2.2.2.2.2.2.2.2.1 e2.2.2.2.2.2.2.2.2.2.2.2.2.2.2.1 e2.2.2.2.2.2.2.2.2.2.2.2.2.2.2.2.1 e2.2.2.2.2.2.2.2.2.2.2.2.2.2.2.2.2.1 e2.2.2.2.2.2.2.2.2.2.2.2.2.2.2.2.2.2.1 e2.2.2.2.2.2.2.2.2.2.2.2.2.2.2.2.2.2.2.1 e2.2.2.2.2.2.2.2.2.2.2.2.2.2.2.2.2.2.2.2.1 e2.2.2.2.2.2.2.2.2.2.2.2.2.2.2.2.2.2.2.2.2.1 e2.2.2.2.2.2.2.2.2.2.2.2.2.2.2.2.2.2.2.2.2.2.1 e2.2.2.2.2.2.2.2.2.2.2.2.2.2.2.2.2.2.2.2.2.2.2.1 e2.2.2.2.2.2.2.2.2.2.2.2.2.2.2.2.2.2.2.2.2.2.2.2.1 e2.2.2.2.2.2.2.2.2.2.2.2.2.2.2.2.2.2.2.2.2.2.2.2.2.1 (lI s1 1) fun n3 =>
 br (decide (n3 < 0)) (
 some (.inr (0, [.i n3, .i (-1)]))) (
 some (.inl [.l (lL s1 0), .i n3, .i (IntKind.wrap .i64 ((lI s1 2) + 1))]))) (
 some (.inr (1, [.i (lI s1 1)])))) [.l a, .i (IntKind.wrap .i64 (left - (a.length : Int))), .i 0] fun (r4 : Nat × List Leaf) =>
 if r4.1 = 0 then
 k (lI r4.2 1)
 else
 k (lI r4.2 0))
def F27 : T27 := P27 F49 
def X27 : Exits := fun i => lookN i [] [(5, [(.ret, xk 27 [(1, .int .i64 0), (4, .int .i64 0)] []), (.exit 0, xk 27 [(1, .int .i64 0)] [])])]
abbrev s27 : List (Bool × List CK) := [(false, [.sl 25 false]), (false, [.int .i64])]
def G27 (F : T27) (β : Type) (e : (List V × Unit) × (Int × Unit) × Unit) (k : V → Option β) : Option β := F β e.1.1 e.2.1.1 (fun y1 => k (.int .i64 y1))
abbrev W27 (F : T27) : WT := wrap s27 (G27 F)
theorem k27 (F49 : T49) (β : Type) (e : argsT s27) (k : V → Option β) : fnK cfg (tabL [(49, W49 F49)]) X27 27 Tryz.f27 β (argsEnc s27 e) k = G27 (P27 F49 ) β e k := by kernel_rfl
theorem ok27 : FnOk D 27 (W27 F27) := fn_okW [(49, W49 F49)] X27 (fun _ => rfl) Tryz.func27 rfl (tabL_cons ok49 tabL_nil) (k27 F49 )

/-- laws.szTab -/
abbrev T10 : Type 1 := (β : Type) → List V → Int → Int → (Int → Option β) → Option β
def P10 (F27 : T27) : T10 := fun β a_Visits a_At left k =>
 F27 _ a_Visits left fun n1 =>
 br (decide (n1 < 0)) (
 k (-1)) (
 k n1)
def F10 : T10 := P10 F27 
abbrev s10 : List (Bool × List CK) := [(true, [.sl 25 false, .int .i64]), (false, [.int .i64])]
def G10 (F : T10) (β : Type) (e : (List V × Int × Unit) × (Int × Unit) × Unit) (k : V → Option β) : Option β := F β e.1.1 e.1.2.1 e.2.1.1 (fun y1 => k (.int .i64 y1))
abbrev W10 (F : T10) : WT := wrap s10 (G10 F)
theorem k10 (F27 : T27) (β : Type) (e : argsT s10) (k : V → Option β) : fnK cfg (tabL [(27, W27 F27)]) noX 10 Tryz.f10 β (argsEnc s10 e) k = G10 (P10 F27 ) β e k := by kernel_rfl
theorem ok10 : FnOk D 10 (W10 F10) := fn_okW [(27, W27 F27)] noX (fun _ => rfl) Tryz.func10 rfl (tabL_cons ok27 tabL_nil) (k10 F27 )

/-- laws.szKept -/
abbrev T59 : Type 1 := (β : Type) → List UInt8 → List UInt8 → Int → Int → List UInt8 → Int → Bool → List UInt8 → Int → (Int → Option β) → Option β
def P59 (F50 : T50) (F96 : T96) : T59 := fun β a_To_Host a_To_Path a_Response_Status a_Response_Kind a_Response_Body a_Response_Age a_Response_Shares a_Response_Policy left k =>
 F50 _ a_To_Host a_To_Path left fun n1 =>
 br (decide (n1 < 0)) (
 k (-1)) (
 F96 _ a_Response_Status a_Response_Kind a_Response_Body a_Response_Age a_Response_Shares a_Response_Policy n1 fun n2 =>
 br (decide (n2 < 0)) (
 k (-1)) (
 k n2))
def F59 : T59 := P59 F50 F96 
abbrev s59 : List (Bool × List CK) := [(true, [.str, .str, .int .i64, .int .i64, .str, .int .i64, .bool, .str]), (false, [.int .i64])]
def G59 (F : T59) (β : Type) (e : (List UInt8 × List UInt8 × Int × Int × List UInt8 × Int × Bool × List UInt8 × Unit) × (Int × Unit) × Unit) (k : V → Option β) : Option β := let a0_0 := e.1; let a0_1 := a0_0.2; let a0_2 := a0_1.2; let a0_3 := a0_2.2; let a0_4 := a0_3.2; let a0_5 := a0_4.2; let a0_6 := a0_5.2; let a0_7 := a0_6.2; F β a0_0.1 a0_1.1 a0_2.1 a0_3.1 a0_4.1 a0_5.1 a0_6.1 a0_7.1 e.2.1.1 (fun y1 => k (.int .i64 y1))
abbrev W59 (F : T59) : WT := wrap s59 (G59 F)
theorem k59 (F50 : T50) (F96 : T96) (β : Type) (e : argsT s59) (k : V → Option β) : fnK cfg (tabL [(50, W50 F50), (96, W96 F96)]) noX 59 Tryz.f59 β (argsEnc s59 e) k = G59 (P59 F50 F96 ) β e k := by kernel_rfl
theorem ok59 : FnOk D 59 (W59 F59) := fn_okW [(50, W50 F50), (96, W96 F96)] noX (fun _ => rfl) Tryz.func59 rfl (tabL_cons ok50 (tabL_cons ok96 tabL_nil)) (k59 F50 F96 )

/-- laws.szKeptS -/
abbrev T29 : Type 1 := (β : Type) → List V → Int → (Int → Option β) → Option β
def P29 (F59 : T59) : T29 := fun β a left k =>
 br (decide (IntKind.wrap .i64 (left - (a.length : Int)) < 0)) (
 k (-1)) (
 whileK (fun s1 =>
 br (decide ((lI s1 2) < ((lL s1 0).length : Int))) (
 chk (0 ≤ (lI s1 2)) <|
 idx true [.str, .str, .int .i64, .int .i64, .str, .int .i64, .bool, .str] (lL s1 0) ((lI s1 2).toNat) fun (e2 : List UInt8 × List UInt8 × Int × Int × List UInt8 × Int × Bool × List UInt8 × Unit) =>
 F59 _ e2.1 e2.2.1 e2.2.2.1 e2.2.2.2.1 e2.2.2.2.2.1 e2.2.2.2.2.2.1 e2.2.2.2.2.2.2.1 e2.2.2.2.2.2.2.2.1 (lI s1 1) fun n3 =>
 br (decide (n3 < 0)) (
 some (.inr (0, [.i n3, .i (-1)]))) (
 some (.inl [.l (lL s1 0), .i n3, .i (IntKind.wrap .i64 ((lI s1 2) + 1))]))) (
 some (.inr (1, [.i (lI s1 1)])))) [.l a, .i (IntKind.wrap .i64 (left - (a.length : Int))), .i 0] fun (r4 : Nat × List Leaf) =>
 if r4.1 = 0 then
 k (lI r4.2 1)
 else
 k (lI r4.2 0))
def F29 : T29 := P29 F59 
def X29 : Exits := fun i => lookN i [] [(5, [(.ret, xk 27 [(1, .int .i64 0), (4, .int .i64 0)] []), (.exit 0, xk 27 [(1, .int .i64 0)] [])])]
abbrev s29 : List (Bool × List CK) := [(false, [.sl 8 true]), (false, [.int .i64])]
def G29 (F : T29) (β : Type) (e : (List V × Unit) × (Int × Unit) × Unit) (k : V → Option β) : Option β := F β e.1.1 e.2.1.1 (fun y1 => k (.int .i64 y1))
abbrev W29 (F : T29) : WT := wrap s29 (G29 F)
theorem k29 (F59 : T59) (β : Type) (e : argsT s29) (k : V → Option β) : fnK cfg (tabL [(59, W59 F59)]) X29 29 Tryz.f29 β (argsEnc s29 e) k = G29 (P29 F59 ) β e k := by kernel_rfl
theorem ok29 : FnOk D 29 (W29 F29) := fn_okW [(59, W59 F59)] X29 (fun _ => rfl) Tryz.func29 rfl (tabL_cons ok59 tabL_nil) (k29 F59 )

/-- laws.szHidden -/
abbrev T11 : Type 1 := (β : Type) → Bool → List UInt8 → List UInt8 → Bool → List V → List V → List V → List UInt8 → List UInt8 → List V → Bool → List V → List V → List V → List V → List V → Int → Int → Int → Int → List V → List V → Bool → List V → List V → Int → Int → (Int → Option β) → Option β
def P11 (F28 : T28) (F29 : T29) (F24 : T24) : T11 := fun β a_Ready a_Page_Addr_Host a_Page_Addr_Path a_Page_Policy_Set a_Page_Policy_Scripts a_Page_Policy_Styles a_Page_Policy_Images a_Page_Policy_Nonce a_Page_Tok_Rest a_Page_Queue a_Page_Ended a_Page_Builder_Nodes a_Page_Builder_Open a_Page_Slots a_Page_Mods a_Page_Entries a_Page_Block a_Page_Inline a_Page_Deferred a_Page_Entered a_Page_Ran a_Page_Log a_Page_Loaded a_Taken a_Servers a_Now left k =>
 F28 _ a_Page_Addr_Host a_Page_Addr_Path a_Page_Policy_Set a_Page_Policy_Scripts a_Page_Policy_Styles a_Page_Policy_Images a_Page_Policy_Nonce a_Page_Tok_Rest a_Page_Queue a_Page_Ended a_Page_Builder_Nodes a_Page_Builder_Open a_Page_Slots a_Page_Mods a_Page_Entries a_Page_Block a_Page_Inline a_Page_Deferred a_Page_Entered a_Page_Ran a_Page_Log a_Page_Loaded left fun n1 =>
 br (decide (n1 < 0)) (
 k (-1)) (
 F29 _ a_Taken n1 fun n2 =>
 br (decide (n2 < 0)) (
 k (-1)) (
 F24 _ a_Servers n2 fun n3 =>
 br (decide (n3 < 0)) (
 k (-1)) (
 k n3)))
def F11 : T11 := P11 F28 F29 F24 
abbrev s11 : List (Bool × List CK) := [(true, [.bool, .str, .str, .bool, .sl 1 true, .sl 1 true, .sl 1 true, .str, .str, .sl 4 false, .bool, .sl 4 false, .sl 1 true, .sl 8 true, .sl 5 true, .sl 2 true, .int .i64, .int .i64, .int .i64, .int .i64, .sl 2 true, .sl 1 true, .bool, .sl 8 true, .sl 2 false, .int .i64]), (false, [.int .i64])]
def G11 (F : T11) (β : Type) (e : (Bool × List UInt8 × List UInt8 × Bool × List V × List V × List V × List UInt8 × List UInt8 × List V × Bool × List V × List V × List V × List V × List V × Int × Int × Int × Int × List V × List V × Bool × List V × List V × Int × Unit) × (Int × Unit) × Unit) (k : V → Option β) : Option β := let a0_0 := e.1; let a0_1 := a0_0.2; let a0_2 := a0_1.2; let a0_3 := a0_2.2; let a0_4 := a0_3.2; let a0_5 := a0_4.2; let a0_6 := a0_5.2; let a0_7 := a0_6.2; let a0_8 := a0_7.2; let a0_9 := a0_8.2; let a0_10 := a0_9.2; let a0_11 := a0_10.2; let a0_12 := a0_11.2; let a0_13 := a0_12.2; let a0_14 := a0_13.2; let a0_15 := a0_14.2; let a0_16 := a0_15.2; let a0_17 := a0_16.2; let a0_18 := a0_17.2; let a0_19 := a0_18.2; let a0_20 := a0_19.2; let a0_21 := a0_20.2; let a0_22 := a0_21.2; let a0_23 := a0_22.2; let a0_24 := a0_23.2; let a0_25 := a0_24.2; F β a0_0.1 a0_1.1 a0_2.1 a0_3.1 a0_4.1 a0_5.1 a0_6.1 a0_7.1 a0_8.1 a0_9.1 a0_10.1 a0_11.1 a0_12.1 a0_13.1 a0_14.1 a0_15.1 a0_16.1 a0_17.1 a0_18.1 a0_19.1 a0_20.1 a0_21.1 a0_22.1 a0_23.1 a0_24.1 a0_25.1 e.2.1.1 (fun y1 => k (.int .i64 y1))
abbrev W11 (F : T11) : WT := wrap s11 (G11 F)
theorem k11 (F28 : T28) (F29 : T29) (F24 : T24) (β : Type) (e : argsT s11) (k : V → Option β) : fnK cfg (tabL [(28, W28 F28), (29, W29 F29), (24, W24 F24)]) noX 11 Tryz.f11 β (argsEnc s11 e) k = G11 (P11 F28 F29 F24 ) β e k := by kernel_rfl
theorem ok11 : FnOk D 11 (W11 F11) := fn_okW [(28, W28 F28), (29, W29 F29), (24, W24 F24)] noX (fun _ => rfl) Tryz.func11 rfl (tabL_cons ok28 (tabL_cons ok29 (tabL_cons ok24 tabL_nil))) (k11 F28 F29 F24 )

/-- laws.szWorld -/
abbrev T4 : Type 1 := (β : Type) → List V → List V → List V → Int → List V → Int → Bool → List UInt8 → List UInt8 → Bool → List V → List V → List V → List UInt8 → List UInt8 → List V → Bool → List V → List V → List V → List V → List V → Int → Int → Int → Int → List V → List V → Bool → List V → List V → Int → Bool → Int → (Int → Option β) → Option β
def P4 (F9 : T9) (F10 : T10) (F11 : T11) : T4 := fun β a_Net_Servers a_Net_Cache_Entries a_Net_Log a_Net_Now a_Tab_Visits a_Tab_At a_Hidden_Ready a_Hidden_Page_Addr_Host a_Hidden_Page_Addr_Path a_Hidden_Page_Policy_Set a_Hidden_Page_Policy_Scripts a_Hidden_Page_Policy_Styles a_Hidden_Page_Policy_Images a_Hidden_Page_Policy_Nonce a_Hidden_Page_Tok_Rest a_Hidden_Page_Queue a_Hidden_Page_Ended a_Hidden_Page_Builder_Nodes a_Hidden_Page_Builder_Open a_Hidden_Page_Slots a_Hidden_Page_Mods a_Hidden_Page_Entries a_Hidden_Page_Block a_Hidden_Page_Inline a_Hidden_Page_Deferred a_Hidden_Page_Entered a_Hidden_Page_Ran a_Hidden_Page_Log a_Hidden_Page_Loaded a_Hidden_Taken a_Hidden_Servers a_Hidden_Now a_Fast left k =>
 F9 _ a_Net_Servers a_Net_Cache_Entries a_Net_Log a_Net_Now left fun n1 =>
 br (decide (n1 < 0)) (
 k (-1)) (
 F10 _ a_Tab_Visits a_Tab_At n1 fun n2 =>
 br (decide (n2 < 0)) (
 k (-1)) (
 F11 _ a_Hidden_Ready a_Hidden_Page_Addr_Host a_Hidden_Page_Addr_Path a_Hidden_Page_Policy_Set a_Hidden_Page_Policy_Scripts a_Hidden_Page_Policy_Styles a_Hidden_Page_Policy_Images a_Hidden_Page_Policy_Nonce a_Hidden_Page_Tok_Rest a_Hidden_Page_Queue a_Hidden_Page_Ended a_Hidden_Page_Builder_Nodes a_Hidden_Page_Builder_Open a_Hidden_Page_Slots a_Hidden_Page_Mods a_Hidden_Page_Entries a_Hidden_Page_Block a_Hidden_Page_Inline a_Hidden_Page_Deferred a_Hidden_Page_Entered a_Hidden_Page_Ran a_Hidden_Page_Log a_Hidden_Page_Loaded a_Hidden_Taken a_Hidden_Servers a_Hidden_Now n2 fun n3 =>
 br (decide (n3 < 0)) (
 k (-1)) (
 k n3)))
def F4 : T4 := P4 F9 F10 F11 
abbrev s4 : List (Bool × List CK) := [(true, [.sl 2 false, .sl 10 true, .sl 4 true, .int .i64, .sl 25 false, .int .i64, .bool, .str, .str, .bool, .sl 1 true, .sl 1 true, .sl 1 true, .str, .str, .sl 4 false, .bool, .sl 4 false, .sl 1 true, .sl 8 true, .sl 5 true, .sl 2 true, .int .i64, .int .i64, .int .i64, .int .i64, .sl 2 true, .sl 1 true, .bool, .sl 8 true, .sl 2 false, .int .i64, .bool]), (false, [.int .i64])]
def G4 (F : T4) (β : Type) (e : (List V × List V × List V × Int × List V × Int × Bool × List UInt8 × List UInt8 × Bool × List V × List V × List V × List UInt8 × List UInt8 × List V × Bool × List V × List V × List V × List V × List V × Int × Int × Int × Int × List V × List V × Bool × List V × List V × Int × Bool × Unit) × (Int × Unit) × Unit) (k : V → Option β) : Option β := let a0_0 := e.1; let a0_1 := a0_0.2; let a0_2 := a0_1.2; let a0_3 := a0_2.2; let a0_4 := a0_3.2; let a0_5 := a0_4.2; let a0_6 := a0_5.2; let a0_7 := a0_6.2; let a0_8 := a0_7.2; let a0_9 := a0_8.2; let a0_10 := a0_9.2; let a0_11 := a0_10.2; let a0_12 := a0_11.2; let a0_13 := a0_12.2; let a0_14 := a0_13.2; let a0_15 := a0_14.2; let a0_16 := a0_15.2; let a0_17 := a0_16.2; let a0_18 := a0_17.2; let a0_19 := a0_18.2; let a0_20 := a0_19.2; let a0_21 := a0_20.2; let a0_22 := a0_21.2; let a0_23 := a0_22.2; let a0_24 := a0_23.2; let a0_25 := a0_24.2; let a0_26 := a0_25.2; let a0_27 := a0_26.2; let a0_28 := a0_27.2; let a0_29 := a0_28.2; let a0_30 := a0_29.2; let a0_31 := a0_30.2; let a0_32 := a0_31.2; F β a0_0.1 a0_1.1 a0_2.1 a0_3.1 a0_4.1 a0_5.1 a0_6.1 a0_7.1 a0_8.1 a0_9.1 a0_10.1 a0_11.1 a0_12.1 a0_13.1 a0_14.1 a0_15.1 a0_16.1 a0_17.1 a0_18.1 a0_19.1 a0_20.1 a0_21.1 a0_22.1 a0_23.1 a0_24.1 a0_25.1 a0_26.1 a0_27.1 a0_28.1 a0_29.1 a0_30.1 a0_31.1 a0_32.1 e.2.1.1 (fun y1 => k (.int .i64 y1))
abbrev W4 (F : T4) : WT := wrap s4 (G4 F)
theorem k4 (F9 : T9) (F10 : T10) (F11 : T11) (β : Type) (e : argsT s4) (k : V → Option β) : fnK cfg (tabL [(9, W9 F9), (10, W10 F10), (11, W11 F11)]) noX 4 Tryz.f4 β (argsEnc s4 e) k = G4 (P4 F9 F10 F11 ) β e k := by kernel_rfl
theorem ok4 : FnOk D 4 (W4 F4) := fn_okW [(9, W9 F9), (10, W10 F10), (11, W11 F11)] noX (fun _ => rfl) Tryz.func4 rfl (tabL_cons ok9 (tabL_cons ok10 (tabL_cons ok11 tabL_nil))) (k4 F9 F10 F11 )

/-- laws.toResponse -/
abbrev T104 : Type 1 := (β : Type) → Int → Int → List UInt8 → Int → Bool → List UInt8 → (Int → Int → List UInt8 → Int → Bool → List UInt8 → Option β) → Option β
def P104 : T104 := fun β a_Status a_Kind a_Body a_Age a_Shares a_Policy k =>
 k a_Status a_Kind a_Body a_Age a_Shares a_Policy
def F104 : T104 := P104 
abbrev s104 : List (Bool × List CK) := [(true, [.int .i64, .int .i64, .str, .int .i64, .bool, .str])]
def G104 (F : T104) (β : Type) (e : (Int × Int × List UInt8 × Int × Bool × List UInt8 × Unit) × Unit) (k : V → Option β) : Option β := let a0_0 := e.1; let a0_1 := a0_0.2; let a0_2 := a0_1.2; let a0_3 := a0_2.2; let a0_4 := a0_3.2; let a0_5 := a0_4.2; F β a0_0.1 a0_1.1 a0_2.1 a0_3.1 a0_4.1 a0_5.1 (fun y1 y2 y3 y4 y5 y6 => k (.agg [.int .i64 y1, .int .i64 y2, .str y3, .int .i64 y4, .bool y5, .str y6]))
abbrev W104 (F : T104) : WT := wrap s104 (G104 F)
theorem k104 (β : Type) (e : argsT s104) (k : V → Option β) : fnK cfg (tabL []) noX 104 Tryz.f104 β (argsEnc s104 e) k = G104 (P104 ) β e k := by kernel_rfl
theorem ok104 : FnOk D 104 (W104 F104) := fn_okW [] noX (fun _ => rfl) Tryz.func104 rfl (tabL_nil) (k104 )

/-- laws.toFile -/
abbrev T117 : Type 1 := (β : Type) → List UInt8 → Int → Int → List UInt8 → Int → Bool → List UInt8 → (List UInt8 → Int → Int → List UInt8 → Int → Bool → List UInt8 → Option β) → Option β
def P117 (F104 : T104) : T117 := fun β a_Path a_Response_Status a_Response_Kind a_Response_Body a_Response_Age a_Response_Shares a_Response_Policy k =>
 F104 _ a_Response_Status a_Response_Kind a_Response_Body a_Response_Age a_Response_Shares a_Response_Policy fun n1 n2 t3 n4 b5 t6 =>
 k a_Path n1 n2 t3 n4 b5 t6
def F117 : T117 := P117 F104 
abbrev s117 : List (Bool × List CK) := [(true, [.str, .int .i64, .int .i64, .str, .int .i64, .bool, .str])]
def G117 (F : T117) (β : Type) (e : (List UInt8 × Int × Int × List UInt8 × Int × Bool × List UInt8 × Unit) × Unit) (k : V → Option β) : Option β := let a0_0 := e.1; let a0_1 := a0_0.2; let a0_2 := a0_1.2; let a0_3 := a0_2.2; let a0_4 := a0_3.2; let a0_5 := a0_4.2; let a0_6 := a0_5.2; F β a0_0.1 a0_1.1 a0_2.1 a0_3.1 a0_4.1 a0_5.1 a0_6.1 (fun y1 y2 y3 y4 y5 y6 y7 => k (.agg [.str y1, .int .i64 y2, .int .i64 y3, .str y4, .int .i64 y5, .bool y6, .str y7]))
abbrev W117 (F : T117) : WT := wrap s117 (G117 F)
theorem k117 (F104 : T104) (β : Type) (e : argsT s117) (k : V → Option β) : fnK cfg (tabL [(104, W104 F104)]) noX 117 Tryz.f117 β (argsEnc s117 e) k = G117 (P117 F104 ) β e k := by kernel_rfl
theorem ok117 : FnOk D 117 (W117 F117) := fn_okW [(104, W104 F104)] noX (fun _ => rfl) Tryz.func117 rfl (tabL_cons ok104 tabL_nil) (k117 F104 )

/-- laws.toFileS -/
abbrev T97 : Type 1 := (β : Type) → List V → (List V → Option β) → Option β
def P97 (F117 : T117) : T97 := fun β a k =>
 chk (0 ≤ (a.length : Int) ∧ (a.length : Int) ≤ (a.length : Int) ∧ (a.length : Int) * 80 ≤ 140737488355328 ∧ (a.length : Int) ≤ 140737488355328) <|
 whileK (fun s1 =>
 br (decide ((lI s1 2) < ((lL s1 0).length : Int))) (
 chk (0 ≤ (lI s1 2)) <|
 idx true [.str, .int .i64, .int .i64, .str, .int .i64, .bool, .str] (lL s1 0) ((lI s1 2).toNat) fun (e2 : List UInt8 × Int × Int × List UInt8 × Int × Bool × List UInt8 × Unit) =>
 F117 _ e2.1 e2.2.1 e2.2.2.1 e2.2.2.2.1 e2.2.2.2.2.1 e2.2.2.2.2.2.1 e2.2.2.2.2.2.2.1 fun t3 n4 n5 t6 n7 b8 t9 =>
 chk (0 ≤ (lI s1 2) ∧ (lI s1 2).toNat < (lL s1 1).length) <|
 storeO (lL s1 1) ((lI s1 2).toNat) 0 [.str t3, .int .i64 n4, .int .i64 n5, .str t6, .int .i64 n7, .bool b8, .str t9] fun l10 =>
 some (.inl [.l (lL s1 0), .l l10, .i (IntKind.wrap .i64 ((lI s1 2) + 1))])) (
 some (.inr (0, [.l (lL s1 1)])))) [.l a, .l (List.replicate ((a.length : Int).toNat) (.agg [.str [], .int .i64 0, .int .i64 0, .str [], .int .i64 0, .bool false, .str []])), .i 0] fun (r11 : Nat × List Leaf) =>
 k (lL r11.2 0)
def F97 : T97 := P97 F117 
def X97 : Exits := fun i => lookN i [] [(3, [(.exit 0, xk 23 [(3, .own 1000000 7 .flat [])] [])])]
abbrev s97 : List (Bool × List CK) := [(false, [.sl 7 true])]
def G97 (F : T97) (β : Type) (e : (List V × Unit) × Unit) (k : V → Option β) : Option β := F β e.1.1 (fun y1 => k (.own 0 7 .flat y1))
abbrev W97 (F : T97) : WT := wrap s97 (G97 F)
theorem k97 (F117 : T117) (β : Type) (e : argsT s97) (k : V → Option β) : fnK cfg (tabL [(117, W117 F117)]) X97 97 Tryz.f97 β (argsEnc s97 e) k = G97 (P97 F117 ) β e k := by kernel_rfl
theorem ok97 : FnOk D 97 (W97 F97) := fn_okW [(117, W117 F117)] X97 (fun _ => rfl) Tryz.func97 rfl (tabL_cons ok117 tabL_nil) (k97 F117 )

/-- laws.toServer -/
abbrev T60 : Type 1 := (β : Type) → List UInt8 → List V → (List UInt8 → List V → Option β) → Option β
def P60 (F97 : T97) : T60 := fun β a_Host a_Files k =>
 F97 _ a_Files fun l1 =>
 k a_Host l1
def F60 : T60 := P60 F97 
abbrev s60 : List (Bool × List CK) := [(true, [.str, .sl 7 true])]
def G60 (F : T60) (β : Type) (e : (List UInt8 × List V × Unit) × Unit) (k : V → Option β) : Option β := F β e.1.1 e.1.2.1 (fun y1 y2 => k (.agg [.str y1, .own 1 7 .flat y2]))
abbrev W60 (F : T60) : WT := wrap s60 (G60 F)
theorem k60 (F97 : T97) (β : Type) (e : argsT s60) (k : V → Option β) : fnK cfg (tabL [(97, W97 F97)]) noX 60 Tryz.f60 β (argsEnc s60 e) k = G60 (P60 F97 ) β e k := by kernel_rfl
theorem ok60 : FnOk D 60 (W60 F60) := fn_okW [(97, W97 F97)] noX (fun _ => rfl) Tryz.func60 rfl (tabL_cons ok97 tabL_nil) (k60 F97 )

/-- laws.toServerS -/
abbrev T31 : Type 1 := (β : Type) → List V → (List V → Option β) → Option β
def P31 (F60 : T60) : T31 := fun β a k =>
 chk (0 ≤ (a.length : Int) ∧ (a.length : Int) ≤ (a.length : Int) ∧ (a.length : Int) * 40 ≤ 140737488355328 ∧ (a.length : Int) ≤ 140737488355328) <|
 whileK (fun s1 =>
 br (decide ((lI s1 2) < ((lL s1 0).length : Int))) (
 chk (0 ≤ (lI s1 2)) <|
 idx true [.str, .sl 7 true] (lL s1 0) ((lI s1 2).toNat) fun (e2 : List UInt8 × List V × Unit) =>
 F60 _ e2.1 e2.2.1 fun t3 l4 =>
 chk (0 ≤ (lI s1 2) ∧ (lI s1 2).toNat < (lL s1 1).length) <|
 storeO (lL s1 1) ((lI s1 2).toNat) 0 [.str t3, .sl 7 true l4] fun l5 =>
 some (.inl [.l (lL s1 0), .l l5, .i (IntKind.wrap .i64 ((lI s1 2) + 1))])) (
 some (.inr (0, [.l (lL s1 1)])))) [.l a, .l (List.replicate ((a.length : Int).toNat) (.agg [.str [], .sl 7 true []])), .i 0] fun (r6 : Nat × List Leaf) =>
 k (lL r6.2 0)
def F31 : T31 := P31 F60 
def X31 : Exits := fun i => lookN i [] [(3, [(.exit 0, xk 23 [(3, .own 1000000 2 .clean [])] [])])]
abbrev s31 : List (Bool × List CK) := [(false, [.sl 2 false])]
def G31 (F : T31) (β : Type) (e : (List V × Unit) × Unit) (k : V → Option β) : Option β := F β e.1.1 (fun y1 => k (.own 0 2 .clean y1))
abbrev W31 (F : T31) : WT := wrap s31 (G31 F)
theorem k31 (F60 : T60) (β : Type) (e : argsT s31) (k : V → Option β) : fnK cfg (tabL [(60, W60 F60)]) X31 31 Tryz.f31 β (argsEnc s31 e) k = G31 (P31 F60 ) β e k := by kernel_rfl
theorem ok31 : FnOk D 31 (W31 F31) := fn_okW [(60, W60 F60)] X31 (fun _ => rfl) Tryz.func31 rfl (tabL_cons ok60 tabL_nil) (k31 F60 )

/-- laws.toAddr -/
abbrev T64 : Type 1 := (β : Type) → List UInt8 → List UInt8 → (List UInt8 → List UInt8 → Option β) → Option β
def P64 : T64 := fun β a_Host a_Path k =>
 k a_Host a_Path
def F64 : T64 := P64 
abbrev s64 : List (Bool × List CK) := [(true, [.str, .str])]
def G64 (F : T64) (β : Type) (e : (List UInt8 × List UInt8 × Unit) × Unit) (k : V → Option β) : Option β := F β e.1.1 e.1.2.1 (fun y1 y2 => k (.agg [.str y1, .str y2]))
abbrev W64 (F : T64) : WT := wrap s64 (G64 F)
theorem k64 (β : Type) (e : argsT s64) (k : V → Option β) : fnK cfg (tabL []) noX 64 Tryz.f64 β (argsEnc s64 e) k = G64 (P64 ) β e k := by kernel_rfl
theorem ok64 : FnOk D 64 (W64 F64) := fn_okW [] noX (fun _ => rfl) Tryz.func64 rfl (tabL_nil) (k64 )

/-- laws.toEntry -/
abbrev T98 : Type 1 := (β : Type) → List UInt8 → List UInt8 → List UInt8 → Int → Int → List UInt8 → Int → Bool → List UInt8 → Int → (List UInt8 → List UInt8 → List UInt8 → Int → Int → List UInt8 → Int → Bool → List UInt8 → Int → Option β) → Option β
def P98 (F64 : T64) (F104 : T104) : T98 := fun β a_Top a_To_Host a_To_Path a_Response_Status a_Response_Kind a_Response_Body a_Response_Age a_Response_Shares a_Response_Policy a_Until k =>
 F64 _ a_To_Host a_To_Path fun t1 t2 =>
 F104 _ a_Response_Status a_Response_Kind a_Response_Body a_Response_Age a_Response_Shares a_Response_Policy fun n3 n4 t5 n6 b7 t8 =>
 k a_Top t1 t2 n3 n4 t5 n6 b7 t8 a_Until
def F98 : T98 := P98 F64 F104 
abbrev s98 : List (Bool × List CK) := [(true, [.str, .str, .str, .int .i64, .int .i64, .str, .int .i64, .bool, .str, .int .i64])]
def G98 (F : T98) (β : Type) (e : (List UInt8 × List UInt8 × List UInt8 × Int × Int × List UInt8 × Int × Bool × List UInt8 × Int × Unit) × Unit) (k : V → Option β) : Option β := let a0_0 := e.1; let a0_1 := a0_0.2; let a0_2 := a0_1.2; let a0_3 := a0_2.2; let a0_4 := a0_3.2; let a0_5 := a0_4.2; let a0_6 := a0_5.2; let a0_7 := a0_6.2; let a0_8 := a0_7.2; let a0_9 := a0_8.2; F β a0_0.1 a0_1.1 a0_2.1 a0_3.1 a0_4.1 a0_5.1 a0_6.1 a0_7.1 a0_8.1 a0_9.1 (fun y1 y2 y3 y4 y5 y6 y7 y8 y9 y10 => k (.agg [.str y1, .str y2, .str y3, .int .i64 y4, .int .i64 y5, .str y6, .int .i64 y7, .bool y8, .str y9, .int .i64 y10]))
abbrev W98 (F : T98) : WT := wrap s98 (G98 F)
theorem k98 (F64 : T64) (F104 : T104) (β : Type) (e : argsT s98) (k : V → Option β) : fnK cfg (tabL [(64, W64 F64), (104, W104 F104)]) noX 98 Tryz.f98 β (argsEnc s98 e) k = G98 (P98 F64 F104 ) β e k := by kernel_rfl
theorem ok98 : FnOk D 98 (W98 F98) := fn_okW [(64, W64 F64), (104, W104 F104)] noX (fun _ => rfl) Tryz.func98 rfl (tabL_cons ok64 (tabL_cons ok104 tabL_nil)) (k98 F64 F104 )

/-- laws.toEntryS -/
abbrev T61 : Type 1 := (β : Type) → List V → (List V → Option β) → Option β
def P61 (F98 : T98) : T61 := fun β a k =>
 chk (0 ≤ (a.length : Int) ∧ (a.length : Int) ≤ (a.length : Int) ∧ (a.length : Int) * 120 ≤ 140737488355328 ∧ (a.length : Int) ≤ 140737488355328) <|
 whileK (fun s1 =>
 br (decide ((lI s1 2) < ((lL s1 0).length : Int))) (
 chk (0 ≤ (lI s1 2)) <|
 idx true [.str, .str, .str, .int .i64, .int .i64, .str, .int .i64, .bool, .str, .int .i64] (lL s1 0) ((lI s1 2).toNat) fun (e2 : List UInt8 × List UInt8 × List UInt8 × Int × Int × List UInt8 × Int × Bool × List UInt8 × Int × Unit) =>
 F98 _ e2.1 e2.2.1 e2.2.2.1 e2.2.2.2.1 e2.2.2.2.2.1 e2.2.2.2.2.2.1 e2.2.2.2.2.2.2.1 e2.2.2.2.2.2.2.2.1 e2.2.2.2.2.2.2.2.2.1 e2.2.2.2.2.2.2.2.2.2.1 fun t3 t4 t5 n6 n7 t8 n9 b10 t11 n12 =>
 chk (0 ≤ (lI s1 2) ∧ (lI s1 2).toNat < (lL s1 1).length) <|
 storeO (lL s1 1) ((lI s1 2).toNat) 0 [.str t3, .str t4, .str t5, .int .i64 n6, .int .i64 n7, .str t8, .int .i64 n9, .bool b10, .str t11, .int .i64 n12] fun l13 =>
 some (.inl [.l (lL s1 0), .l l13, .i (IntKind.wrap .i64 ((lI s1 2) + 1))])) (
 some (.inr (0, [.l (lL s1 1)])))) [.l a, .l (List.replicate ((a.length : Int).toNat) (.agg [.str [], .str [], .str [], .int .i64 0, .int .i64 0, .str [], .int .i64 0, .bool false, .str [], .int .i64 0])), .i 0] fun (r14 : Nat × List Leaf) =>
 k (lL r14.2 0)
def F61 : T61 := P61 F98 
def X61 : Exits := fun i => lookN i [] [(3, [(.exit 0, xk 23 [(3, .own 1000000 10 .flat [])] [])])]
abbrev s61 : List (Bool × List CK) := [(false, [.sl 10 true])]
def G61 (F : T61) (β : Type) (e : (List V × Unit) × Unit) (k : V → Option β) : Option β := F β e.1.1 (fun y1 => k (.own 0 10 .flat y1))
abbrev W61 (F : T61) : WT := wrap s61 (G61 F)
theorem k61 (F98 : T98) (β : Type) (e : argsT s61) (k : V → Option β) : fnK cfg (tabL [(98, W98 F98)]) X61 61 Tryz.f61 β (argsEnc s61 e) k = G61 (P61 F98 ) β e k := by kernel_rfl
theorem ok61 : FnOk D 61 (W61 F61) := fn_okW [(98, W98 F98)] X61 (fun _ => rfl) Tryz.func61 rfl (tabL_cons ok98 tabL_nil) (k61 F98 )

/-- laws.toCache -/
abbrev T32 : Type 1 := (β : Type) → List V → (List V → Option β) → Option β
def P32 (F61 : T61) : T32 := fun β a_Entries k =>
 F61 _ a_Entries fun l1 =>
 k l1
def F32 : T32 := P32 F61 
abbrev s32 : List (Bool × List CK) := [(true, [.sl 10 true])]
def G32 (F : T32) (β : Type) (e : (List V × Unit) × Unit) (k : V → Option β) : Option β := F β e.1.1 (fun y1 => k (.agg [.own 0 10 .flat y1]))
abbrev W32 (F : T32) : WT := wrap s32 (G32 F)
theorem k32 (F61 : T61) (β : Type) (e : argsT s32) (k : V → Option β) : fnK cfg (tabL [(61, W61 F61)]) noX 32 Tryz.f32 β (argsEnc s32 e) k = G32 (P32 F61 ) β e k := by kernel_rfl
theorem ok32 : FnOk D 32 (W32 F32) := fn_okW [(61, W61 F61)] noX (fun _ => rfl) Tryz.func32 rfl (tabL_cons ok61 tabL_nil) (k32 F61 )

/-- laws.toSent -/
abbrev T62 : Type 1 := (β : Type) → List UInt8 → List UInt8 → List UInt8 → Bool → (List UInt8 → List UInt8 → List UInt8 → Bool → Option β) → Option β
def P62 (F64 : T64) : T62 := fun β a_Top a_To_Host a_To_Path a_Guess k =>
 F64 _ a_To_Host a_To_Path fun t1 t2 =>
 k a_Top t1 t2 a_Guess
def F62 : T62 := P62 F64 
abbrev s62 : List (Bool × List CK) := [(true, [.str, .str, .str, .bool])]
def G62 (F : T62) (β : Type) (e : (List UInt8 × List UInt8 × List UInt8 × Bool × Unit) × Unit) (k : V → Option β) : Option β := F β e.1.1 e.1.2.1 e.1.2.2.1 e.1.2.2.2.1 (fun y1 y2 y3 y4 => k (.agg [.str y1, .str y2, .str y3, .bool y4]))
abbrev W62 (F : T62) : WT := wrap s62 (G62 F)
theorem k62 (F64 : T64) (β : Type) (e : argsT s62) (k : V → Option β) : fnK cfg (tabL [(64, W64 F64)]) noX 62 Tryz.f62 β (argsEnc s62 e) k = G62 (P62 F64 ) β e k := by kernel_rfl
theorem ok62 : FnOk D 62 (W62 F62) := fn_okW [(64, W64 F64)] noX (fun _ => rfl) Tryz.func62 rfl (tabL_cons ok64 tabL_nil) (k62 F64 )

/-- laws.toSentS -/
abbrev T33 : Type 1 := (β : Type) → List V → (List V → Option β) → Option β
def P33 (F62 : T62) : T33 := fun β a k =>
 chk (0 ≤ (a.length : Int) ∧ (a.length : Int) ≤ (a.length : Int) ∧ (a.length : Int) * 56 ≤ 140737488355328 ∧ (a.length : Int) ≤ 140737488355328) <|
 whileK (fun s1 =>
 br (decide ((lI s1 2) < ((lL s1 0).length : Int))) (
 chk (0 ≤ (lI s1 2)) <|
 idx true [.str, .str, .str, .bool] (lL s1 0) ((lI s1 2).toNat) fun (e2 : List UInt8 × List UInt8 × List UInt8 × Bool × Unit) =>
 F62 _ e2.1 e2.2.1 e2.2.2.1 e2.2.2.2.1 fun t3 t4 t5 b6 =>
 chk (0 ≤ (lI s1 2) ∧ (lI s1 2).toNat < (lL s1 1).length) <|
 storeO (lL s1 1) ((lI s1 2).toNat) 0 [.str t3, .str t4, .str t5, .bool b6] fun l7 =>
 some (.inl [.l (lL s1 0), .l l7, .i (IntKind.wrap .i64 ((lI s1 2) + 1))])) (
 some (.inr (0, [.l (lL s1 1)])))) [.l a, .l (List.replicate ((a.length : Int).toNat) (.agg [.str [], .str [], .str [], .bool false])), .i 0] fun (r8 : Nat × List Leaf) =>
 k (lL r8.2 0)
def F33 : T33 := P33 F62 
def X33 : Exits := fun i => lookN i [] [(3, [(.exit 0, xk 23 [(3, .own 1000000 4 .flat [])] [])])]
abbrev s33 : List (Bool × List CK) := [(false, [.sl 4 true])]
def G33 (F : T33) (β : Type) (e : (List V × Unit) × Unit) (k : V → Option β) : Option β := F β e.1.1 (fun y1 => k (.own 0 4 .flat y1))
abbrev W33 (F : T33) : WT := wrap s33 (G33 F)
theorem k33 (F62 : T62) (β : Type) (e : argsT s33) (k : V → Option β) : fnK cfg (tabL [(62, W62 F62)]) X33 33 Tryz.f33 β (argsEnc s33 e) k = G33 (P33 F62 ) β e k := by kernel_rfl
theorem ok33 : FnOk D 33 (W33 F33) := fn_okW [(62, W62 F62)] X33 (fun _ => rfl) Tryz.func33 rfl (tabL_cons ok62 tabL_nil) (k33 F62 )

/-- laws.toNet -/
abbrev T15 : Type 1 := (β : Type) → List V → List V → List V → Int → (List V → List V → List V → Int → Option β) → Option β
def P15 (F31 : T31) (F32 : T32) (F33 : T33) : T15 := fun β a_Servers a_Cache_Entries a_Log a_Now k =>
 F31 _ a_Servers fun l1 =>
 F32 _ a_Cache_Entries fun l2 =>
 F33 _ a_Log fun l3 =>
 k l1 l2 l3 a_Now
def F15 : T15 := P15 F31 F32 F33 
abbrev s15 : List (Bool × List CK) := [(true, [.sl 2 false, .sl 10 true, .sl 4 true, .int .i64])]
def G15 (F : T15) (β : Type) (e : (List V × List V × List V × Int × Unit) × Unit) (k : V → Option β) : Option β := F β e.1.1 e.1.2.1 e.1.2.2.1 e.1.2.2.2.1 (fun y1 y2 y3 y4 => k (.agg [.own 0 2 .clean y1, .own 1 10 .flat y2, .own 2 4 .flat y3, .int .i64 y4]))
abbrev W15 (F : T15) : WT := wrap s15 (G15 F)
theorem k15 (F31 : T31) (F32 : T32) (F33 : T33) (β : Type) (e : argsT s15) (k : V → Option β) : fnK cfg (tabL [(31, W31 F31), (32, W32 F32), (33, W33 F33)]) noX 15 Tryz.f15 β (argsEnc s15 e) k = G15 (P15 F31 F32 F33 ) β e k := by kernel_rfl
theorem ok15 : FnOk D 15 (W15 F15) := fn_okW [(31, W31 F31), (32, W32 F32), (33, W33 F33)] noX (fun _ => rfl) Tryz.func15 rfl (tabL_cons ok31 (tabL_cons ok32 (tabL_cons ok33 tabL_nil))) (k15 F31 F32 F33 )

/-- laws.toStringS -/
abbrev T72 : Type 1 := (β : Type) → List V → (List V → Option β) → Option β
def P72 : T72 := fun β a k =>
 chk (0 ≤ (a.length : Int) ∧ (a.length : Int) ≤ (a.length : Int) ∧ (a.length : Int) * 16 ≤ 140737488355328 ∧ (a.length : Int) ≤ 140737488355328) <|
 whileK (fun s1 =>
 br (decide ((lI s1 2) < ((lL s1 0).length : Int))) (
 chk (0 ≤ (lI s1 2)) <|
 idx false [.str] (lL s1 0) ((lI s1 2).toNat) fun (e2 : List UInt8 × Unit) =>
 chk (0 ≤ (lI s1 2) ∧ (lI s1 2).toNat < (lL s1 1).length) <|
 storeO (lL s1 1) ((lI s1 2).toNat) 0 [.str e2.1] fun l3 =>
 some (.inl [.l (lL s1 0), .l l3, .i (IntKind.wrap .i64 ((lI s1 2) + 1))])) (
 some (.inr (0, [.l (lL s1 1)])))) [.l a, .l (List.replicate ((a.length : Int).toNat) (.str [])), .i 0] fun (r4 : Nat × List Leaf) =>
 k (lL r4.2 0)
def F72 : T72 := P72 
def X72 : Exits := fun i => lookN i [] [(3, [(.exit 0, xk 22 [(3, .own 1000000 1 .flat [])] [])])]
abbrev s72 : List (Bool × List CK) := [(false, [.sl 1 true])]
def G72 (F : T72) (β : Type) (e : (List V × Unit) × Unit) (k : V → Option β) : Option β := F β e.1.1 (fun y1 => k (.own 0 1 .flat y1))
abbrev W72 (F : T72) : WT := wrap s72 (G72 F)
theorem k72 (β : Type) (e : argsT s72) (k : V → Option β) : fnK cfg (tabL []) X72 72 Tryz.f72 β (argsEnc s72 e) k = G72 (P72 ) β e k := by kernel_rfl
theorem ok72 : FnOk D 72 (W72 F72) := fn_okW [] X72 (fun _ => rfl) Tryz.func72 rfl (tabL_nil) (k72 )

/-- laws.toPolicy -/
abbrev T65 : Type 1 := (β : Type) → Bool → List V → List V → List V → List UInt8 → (Bool → List V → List V → List V → List UInt8 → Option β) → Option β
def P65 (F72 : T72) : T65 := fun β a_Set a_Scripts a_Styles a_Images a_Nonce k =>
 F72 _ a_Scripts fun l1 =>
 F72 _ a_Styles fun l2 =>
 F72 _ a_Images fun l3 =>
 k a_Set l1 l2 l3 a_Nonce
def F65 : T65 := P65 F72 
abbrev s65 : List (Bool × List CK) := [(true, [.bool, .sl 1 true, .sl 1 true, .sl 1 true, .str])]
def G65 (F : T65) (β : Type) (e : (Bool × List V × List V × List V × List UInt8 × Unit) × Unit) (k : V → Option β) : Option β := let a0_0 := e.1; let a0_1 := a0_0.2; let a0_2 := a0_1.2; let a0_3 := a0_2.2; let a0_4 := a0_3.2; F β a0_0.1 a0_1.1 a0_2.1 a0_3.1 a0_4.1 (fun y1 y2 y3 y4 y5 => k (.agg [.bool y1, .own 1 1 .flat y2, .own 2 1 .flat y3, .own 3 1 .flat y4, .str y5]))
abbrev W65 (F : T65) : WT := wrap s65 (G65 F)
theorem k65 (F72 : T72) (β : Type) (e : argsT s65) (k : V → Option β) : fnK cfg (tabL [(72, W72 F72)]) noX 65 Tryz.f65 β (argsEnc s65 e) k = G65 (P65 F72 ) β e k := by kernel_rfl
theorem ok65 : FnOk D 65 (W65 F65) := fn_okW [(72, W72 F72)] noX (fun _ => rfl) Tryz.func65 rfl (tabL_cons ok72 tabL_nil) (k65 F72 )

/-- laws.toTokenizer -/
abbrev T66 : Type 1 := (β : Type) → List UInt8 → (List UInt8 → Option β) → Option β
def P66 : T66 := fun β a_Rest k =>
 k a_Rest
def F66 : T66 := P66 
abbrev s66 : List (Bool × List CK) := [(true, [.str])]
def G66 (F : T66) (β : Type) (e : (List UInt8 × Unit) × Unit) (k : V → Option β) : Option β := F β e.1.1 (fun y1 => k (.agg [.str y1]))
abbrev W66 (F : T66) : WT := wrap s66 (G66 F)
theorem k66 (β : Type) (e : argsT s66) (k : V → Option β) : fnK cfg (tabL []) noX 66 Tryz.f66 β (argsEnc s66 e) k = G66 (P66 ) β e k := by kernel_rfl
theorem ok66 : FnOk D 66 (W66 F66) := fn_okW [] noX (fun _ => rfl) Tryz.func66 rfl (tabL_nil) (k66 )

/-- laws.toAttr -/
abbrev T128 : Type 1 := (β : Type) → List UInt8 → List UInt8 → (List UInt8 → List UInt8 → Option β) → Option β
def P128 : T128 := fun β a_Name a_Value k =>
 k a_Name a_Value
def F128 : T128 := P128 
abbrev s128 : List (Bool × List CK) := [(true, [.str, .str])]
def G128 (F : T128) (β : Type) (e : (List UInt8 × List UInt8 × Unit) × Unit) (k : V → Option β) : Option β := F β e.1.1 e.1.2.1 (fun y1 y2 => k (.agg [.str y1, .str y2]))
abbrev W128 (F : T128) : WT := wrap s128 (G128 F)
theorem k128 (β : Type) (e : argsT s128) (k : V → Option β) : fnK cfg (tabL []) noX 128 Tryz.f128 β (argsEnc s128 e) k = G128 (P128 ) β e k := by kernel_rfl
theorem ok128 : FnOk D 128 (W128 F128) := fn_okW [] noX (fun _ => rfl) Tryz.func128 rfl (tabL_nil) (k128 )

/-- laws.toAttrS -/
abbrev T118 : Type 1 := (β : Type) → List V → (List V → Option β) → Option β
def P118 (F128 : T128) : T118 := fun β a k =>
 chk (0 ≤ (a.length : Int) ∧ (a.length : Int) ≤ (a.length : Int) ∧ (a.length : Int) * 32 ≤ 140737488355328 ∧ (a.length : Int) ≤ 140737488355328) <|
 whileK (fun s1 =>
 br (decide ((lI s1 2) < ((lL s1 0).length : Int))) (
 chk (0 ≤ (lI s1 2)) <|
 idx true [.str, .str] (lL s1 0) ((lI s1 2).toNat) fun (e2 : List UInt8 × List UInt8 × Unit) =>
 F128 _ e2.1 e2.2.1 fun t3 t4 =>
 chk (0 ≤ (lI s1 2) ∧ (lI s1 2).toNat < (lL s1 1).length) <|
 storeO (lL s1 1) ((lI s1 2).toNat) 0 [.str t3, .str t4] fun l5 =>
 some (.inl [.l (lL s1 0), .l l5, .i (IntKind.wrap .i64 ((lI s1 2) + 1))])) (
 some (.inr (0, [.l (lL s1 1)])))) [.l a, .l (List.replicate ((a.length : Int).toNat) (.agg [.str [], .str []])), .i 0] fun (r6 : Nat × List Leaf) =>
 k (lL r6.2 0)
def F118 : T118 := P118 F128 
def X118 : Exits := fun i => lookN i [] [(3, [(.exit 0, xk 23 [(3, .own 1000000 2 .flat [])] [])])]
abbrev s118 : List (Bool × List CK) := [(false, [.sl 2 true])]
def G118 (F : T118) (β : Type) (e : (List V × Unit) × Unit) (k : V → Option β) : Option β := F β e.1.1 (fun y1 => k (.own 0 2 .flat y1))
abbrev W118 (F : T118) : WT := wrap s118 (G118 F)
theorem k118 (F128 : T128) (β : Type) (e : argsT s118) (k : V → Option β) : fnK cfg (tabL [(128, W128 F128)]) X118 118 Tryz.f118 β (argsEnc s118 e) k = G118 (P118 F128 ) β e k := by kernel_rfl
theorem ok118 : FnOk D 118 (W118 F118) := fn_okW [(128, W128 F128)] X118 (fun _ => rfl) Tryz.func118 rfl (tabL_cons ok128 tabL_nil) (k118 F128 )

/-- laws.toToken -/
abbrev T99 : Type 1 := (β : Type) → Int → List UInt8 → List V → List UInt8 → (Int → List UInt8 → List V → List UInt8 → Option β) → Option β
def P99 (F118 : T118) : T99 := fun β a_Kind a_Name a_Attrs a_Text k =>
 F118 _ a_Attrs fun l1 =>
 k a_Kind a_Name l1 a_Text
def F99 : T99 := P99 F118 
abbrev s99 : List (Bool × List CK) := [(true, [.int .i64, .str, .sl 2 true, .str])]
def G99 (F : T99) (β : Type) (e : (Int × List UInt8 × List V × List UInt8 × Unit) × Unit) (k : V → Option β) : Option β := F β e.1.1 e.1.2.1 e.1.2.2.1 e.1.2.2.2.1 (fun y1 y2 y3 y4 => k (.agg [.int .i64 y1, .str y2, .own 2 2 .flat y3, .str y4]))
abbrev W99 (F : T99) : WT := wrap s99 (G99 F)
theorem k99 (F118 : T118) (β : Type) (e : argsT s99) (k : V → Option β) : fnK cfg (tabL [(118, W118 F118)]) noX 99 Tryz.f99 β (argsEnc s99 e) k = G99 (P99 F118 ) β e k := by kernel_rfl
theorem ok99 : FnOk D 99 (W99 F99) := fn_okW [(118, W118 F118)] noX (fun _ => rfl) Tryz.func99 rfl (tabL_cons ok118 tabL_nil) (k99 F118 )

/-- laws.toTokenS -/
abbrev T67 : Type 1 := (β : Type) → List V → (List V → Option β) → Option β
def P67 (F99 : T99) : T67 := fun β a k =>
 chk (0 ≤ (a.length : Int) ∧ (a.length : Int) ≤ (a.length : Int) ∧ (a.length : Int) * 64 ≤ 140737488355328 ∧ (a.length : Int) ≤ 140737488355328) <|
 whileK (fun s1 =>
 br (decide ((lI s1 2) < ((lL s1 0).length : Int))) (
 chk (0 ≤ (lI s1 2)) <|
 idx true [.int .i64, .str, .sl 2 true, .str] (lL s1 0) ((lI s1 2).toNat) fun (e2 : Int × List UInt8 × List V × List UInt8 × Unit) =>
 F99 _ e2.1 e2.2.1 e2.2.2.1 e2.2.2.2.1 fun n3 t4 l5 t6 =>
 chk (0 ≤ (lI s1 2) ∧ (lI s1 2).toNat < (lL s1 1).length) <|
 storeO (lL s1 1) ((lI s1 2).toNat) 0 [.int .i64 n3, .str t4, .sl 2 true l5, .str t6] fun l7 =>
 some (.inl [.l (lL s1 0), .l l7, .i (IntKind.wrap .i64 ((lI s1 2) + 1))])) (
 some (.inr (0, [.l (lL s1 1)])))) [.l a, .l (List.replicate ((a.length : Int).toNat) (.agg [.int .i64 0, .str [], .sl 2 true [], .str []])), .i 0] fun (r8 : Nat × List Leaf) =>
 k (lL r8.2 0)
def F67 : T67 := P67 F99 
def X67 : Exits := fun i => lookN i [] [(3, [(.exit 0, xk 23 [(3, .own 1000000 4 .clean [])] [])])]
abbrev s67 : List (Bool × List CK) := [(false, [.sl 4 false])]
def G67 (F : T67) (β : Type) (e : (List V × Unit) × Unit) (k : V → Option β) : Option β := F β e.1.1 (fun y1 => k (.own 0 4 .clean y1))
abbrev W67 (F : T67) : WT := wrap s67 (G67 F)
theorem k67 (F99 : T99) (β : Type) (e : argsT s67) (k : V → Option β) : fnK cfg (tabL [(99, W99 F99)]) X67 67 Tryz.f67 β (argsEnc s67 e) k = G67 (P67 F99 ) β e k := by kernel_rfl
theorem ok67 : FnOk D 67 (W67 F67) := fn_okW [(99, W99 F99)] X67 (fun _ => rfl) Tryz.func67 rfl (tabL_cons ok99 tabL_nil) (k67 F99 )

/-- laws.toNode -/
abbrev T119 : Type 1 := (β : Type) → List UInt8 → List UInt8 → Int → List V → (List UInt8 → List UInt8 → Int → List V → Option β) → Option β
def P119 (F118 : T118) : T119 := fun β a_Name a_Text a_Parent a_Attrs k =>
 F118 _ a_Attrs fun l1 =>
 k a_Name a_Text a_Parent l1
def F119 : T119 := P119 F118 
abbrev s119 : List (Bool × List CK) := [(true, [.str, .str, .int .i64, .sl 2 true])]
def G119 (F : T119) (β : Type) (e : (List UInt8 × List UInt8 × Int × List V × Unit) × Unit) (k : V → Option β) : Option β := F β e.1.1 e.1.2.1 e.1.2.2.1 e.1.2.2.2.1 (fun y1 y2 y3 y4 => k (.agg [.str y1, .str y2, .int .i64 y3, .own 3 2 .flat y4]))
abbrev W119 (F : T119) : WT := wrap s119 (G119 F)
theorem k119 (F118 : T118) (β : Type) (e : argsT s119) (k : V → Option β) : fnK cfg (tabL [(118, W118 F118)]) noX 119 Tryz.f119 β (argsEnc s119 e) k = G119 (P119 F118 ) β e k := by kernel_rfl
theorem ok119 : FnOk D 119 (W119 F119) := fn_okW [(118, W118 F118)] noX (fun _ => rfl) Tryz.func119 rfl (tabL_cons ok118 tabL_nil) (k119 F118 )

/-- laws.toNodeS -/
abbrev T100 : Type 1 := (β : Type) → List V → (List V → Option β) → Option β
def P100 (F119 : T119) : T100 := fun β a k =>
 chk (0 ≤ (a.length : Int) ∧ (a.length : Int) ≤ (a.length : Int) ∧ (a.length : Int) * 64 ≤ 140737488355328 ∧ (a.length : Int) ≤ 140737488355328) <|
 whileK (fun s1 =>
 br (decide ((lI s1 2) < ((lL s1 0).length : Int))) (
 chk (0 ≤ (lI s1 2)) <|
 idx true [.str, .str, .int .i64, .sl 2 true] (lL s1 0) ((lI s1 2).toNat) fun (e2 : List UInt8 × List UInt8 × Int × List V × Unit) =>
 F119 _ e2.1 e2.2.1 e2.2.2.1 e2.2.2.2.1 fun t3 t4 n5 l6 =>
 chk (0 ≤ (lI s1 2) ∧ (lI s1 2).toNat < (lL s1 1).length) <|
 storeO (lL s1 1) ((lI s1 2).toNat) 0 [.str t3, .str t4, .int .i64 n5, .sl 2 true l6] fun l7 =>
 some (.inl [.l (lL s1 0), .l l7, .i (IntKind.wrap .i64 ((lI s1 2) + 1))])) (
 some (.inr (0, [.l (lL s1 1)])))) [.l a, .l (List.replicate ((a.length : Int).toNat) (.agg [.str [], .str [], .int .i64 0, .sl 2 true []])), .i 0] fun (r8 : Nat × List Leaf) =>
 k (lL r8.2 0)
def F100 : T100 := P100 F119 
def X100 : Exits := fun i => lookN i [] [(3, [(.exit 0, xk 23 [(3, .own 1000000 4 .clean [])] [])])]
abbrev s100 : List (Bool × List CK) := [(false, [.sl 4 false])]
def G100 (F : T100) (β : Type) (e : (List V × Unit) × Unit) (k : V → Option β) : Option β := F β e.1.1 (fun y1 => k (.own 0 4 .clean y1))
abbrev W100 (F : T100) : WT := wrap s100 (G100 F)
theorem k100 (F119 : T119) (β : Type) (e : argsT s100) (k : V → Option β) : fnK cfg (tabL [(119, W119 F119)]) X100 100 Tryz.f100 β (argsEnc s100 e) k = G100 (P100 F119 ) β e k := by kernel_rfl
theorem ok100 : FnOk D 100 (W100 F100) := fn_okW [(119, W119 F119)] X100 (fun _ => rfl) Tryz.func100 rfl (tabL_cons ok119 tabL_nil) (k100 F119 )

/-- laws.toIntS -/
abbrev T101 : Type 1 := (β : Type) → List V → (List V → Option β) → Option β
def P101 : T101 := fun β a k =>
 chk (0 ≤ (a.length : Int) ∧ (a.length : Int) ≤ (a.length : Int) ∧ (a.length : Int) * 8 ≤ 140737488355328 ∧ (a.length : Int) ≤ 140737488355328) <|
 whileK (fun s1 =>
 br (decide ((lI s1 2) < ((lL s1 0).length : Int))) (
 chk (0 ≤ (lI s1 2)) <|
 idx false [.int .i64] (lL s1 0) ((lI s1 2).toNat) fun (e2 : Int × Unit) =>
 chk (0 ≤ (lI s1 2) ∧ (lI s1 2).toNat < (lL s1 1).length) <|
 storeO (lL s1 1) ((lI s1 2).toNat) 0 [.int .i64 e2.1] fun l3 =>
 some (.inl [.l (lL s1 0), .l l3, .i (IntKind.wrap .i64 ((lI s1 2) + 1))])) (
 some (.inr (0, [.l (lL s1 1)])))) [.l a, .l (List.replicate ((a.length : Int).toNat) (.int .i64 0)), .i 0] fun (r4 : Nat × List Leaf) =>
 k (lL r4.2 0)
def F101 : T101 := P101 
def X101 : Exits := fun i => lookN i [] [(3, [(.exit 0, xk 22 [(3, .own 1000000 1 .flat [])] [])])]
abbrev s101 : List (Bool × List CK) := [(false, [.sl 1 true])]
def G101 (F : T101) (β : Type) (e : (List V × Unit) × Unit) (k : V → Option β) : Option β := F β e.1.1 (fun y1 => k (.own 0 1 .flat y1))
abbrev W101 (F : T101) : WT := wrap s101 (G101 F)
theorem k101 (β : Type) (e : argsT s101) (k : V → Option β) : fnK cfg (tabL []) X101 101 Tryz.f101 β (argsEnc s101 e) k = G101 (P101 ) β e k := by kernel_rfl
theorem ok101 : FnOk D 101 (W101 F101) := fn_okW [] X101 (fun _ => rfl) Tryz.func101 rfl (tabL_nil) (k101 )

/-- laws.toBuilder -/
abbrev T68 : Type 1 := (β : Type) → List V → List V → (List V → List V → Option β) → Option β
def P68 (F100 : T100) (F101 : T101) : T68 := fun β a_Nodes a_Open k =>
 F100 _ a_Nodes fun l1 =>
 F101 _ a_Open fun l2 =>
 k l1 l2
def F68 : T68 := P68 F100 F101 
abbrev s68 : List (Bool × List CK) := [(true, [.sl 4 false, .sl 1 true])]
def G68 (F : T68) (β : Type) (e : (List V × List V × Unit) × Unit) (k : V → Option β) : Option β := F β e.1.1 e.1.2.1 (fun y1 y2 => k (.agg [.own 0 4 .clean y1, .own 1 1 .flat y2]))
abbrev W68 (F : T68) : WT := wrap s68 (G68 F)
theorem k68 (F100 : T100) (F101 : T101) (β : Type) (e : argsT s68) (k : V → Option β) : fnK cfg (tabL [(100, W100 F100), (101, W101 F101)]) noX 68 Tryz.f68 β (argsEnc s68 e) k = G68 (P68 F100 F101 ) β e k := by kernel_rfl
theorem ok68 : FnOk D 68 (W68 F68) := fn_okW [(100, W100 F100), (101, W101 F101)] noX (fun _ => rfl) Tryz.func68 rfl (tabL_cons ok100 (tabL_cons ok101 tabL_nil)) (k68 F100 F101 )

/-- laws.toSlot -/
abbrev T102 : Type 1 := (β : Type) → Int → List UInt8 → List UInt8 → List UInt8 → Int → Bool → Int → List UInt8 → (Int → List UInt8 → List UInt8 → List UInt8 → Int → Bool → Int → List UInt8 → Option β) → Option β
def P102 (F64 : T64) : T102 := fun β a_Mode a_To_Host a_To_Path a_Digest a_Node a_Done a_Code a_Body k =>
 F64 _ a_To_Host a_To_Path fun t1 t2 =>
 k a_Mode t1 t2 a_Digest a_Node a_Done a_Code a_Body
def F102 : T102 := P102 F64 
abbrev s102 : List (Bool × List CK) := [(true, [.int .i64, .str, .str, .str, .int .i64, .bool, .int .i64, .str])]
def G102 (F : T102) (β : Type) (e : (Int × List UInt8 × List UInt8 × List UInt8 × Int × Bool × Int × List UInt8 × Unit) × Unit) (k : V → Option β) : Option β := let a0_0 := e.1; let a0_1 := a0_0.2; let a0_2 := a0_1.2; let a0_3 := a0_2.2; let a0_4 := a0_3.2; let a0_5 := a0_4.2; let a0_6 := a0_5.2; let a0_7 := a0_6.2; F β a0_0.1 a0_1.1 a0_2.1 a0_3.1 a0_4.1 a0_5.1 a0_6.1 a0_7.1 (fun y1 y2 y3 y4 y5 y6 y7 y8 => k (.agg [.int .i64 y1, .str y2, .str y3, .str y4, .int .i64 y5, .bool y6, .int .i64 y7, .str y8]))
abbrev W102 (F : T102) : WT := wrap s102 (G102 F)
theorem k102 (F64 : T64) (β : Type) (e : argsT s102) (k : V → Option β) : fnK cfg (tabL [(64, W64 F64)]) noX 102 Tryz.f102 β (argsEnc s102 e) k = G102 (P102 F64 ) β e k := by kernel_rfl
theorem ok102 : FnOk D 102 (W102 F102) := fn_okW [(64, W64 F64)] noX (fun _ => rfl) Tryz.func102 rfl (tabL_cons ok64 tabL_nil) (k102 F64 )

/-- laws.toSlotS -/
abbrev T69 : Type 1 := (β : Type) → List V → (List V → Option β) → Option β
def P69 (F102 : T102) : T69 := fun β a k =>
 chk (0 ≤ (a.length : Int) ∧ (a.length : Int) ≤ (a.length : Int) ∧ (a.length : Int) * 96 ≤ 140737488355328 ∧ (a.length : Int) ≤ 140737488355328) <|
 whileK (fun s1 =>
 br (decide ((lI s1 2) < ((lL s1 0).length : Int))) (
 chk (0 ≤ (lI s1 2)) <|
 idx true [.int .i64, .str, .str, .str, .int .i64, .bool, .int .i64, .str] (lL s1 0) ((lI s1 2).toNat) fun (e2 : Int × List UInt8 × List UInt8 × List UInt8 × Int × Bool × Int × List UInt8 × Unit) =>
 F102 _ e2.1 e2.2.1 e2.2.2.1 e2.2.2.2.1 e2.2.2.2.2.1 e2.2.2.2.2.2.1 e2.2.2.2.2.2.2.1 e2.2.2.2.2.2.2.2.1 fun n3 t4 t5 t6 n7 b8 n9 t10 =>
 chk (0 ≤ (lI s1 2) ∧ (lI s1 2).toNat < (lL s1 1).length) <|
 storeO (lL s1 1) ((lI s1 2).toNat) 0 [.int .i64 n3, .str t4, .str t5, .str t6, .int .i64 n7, .bool b8, .int .i64 n9, .str t10] fun l11 =>
 some (.inl [.l (lL s1 0), .l l11, .i (IntKind.wrap .i64 ((lI s1 2) + 1))])) (
 some (.inr (0, [.l (lL s1 1)])))) [.l a, .l (List.replicate ((a.length : Int).toNat) (.agg [.int .i64 0, .str [], .str [], .str [], .int .i64 0, .bool false, .int .i64 0, .str []])), .i 0] fun (r12 : Nat × List Leaf) =>
 k (lL r12.2 0)
def F69 : T69 := P69 F102 
def X69 : Exits := fun i => lookN i [] [(3, [(.exit 0, xk 23 [(3, .own 1000000 8 .flat [])] [])])]
abbrev s69 : List (Bool × List CK) := [(false, [.sl 8 true])]
def G69 (F : T69) (β : Type) (e : (List V × Unit) × Unit) (k : V → Option β) : Option β := F β e.1.1 (fun y1 => k (.own 0 8 .flat y1))
abbrev W69 (F : T69) : WT := wrap s69 (G69 F)
theorem k69 (F102 : T102) (β : Type) (e : argsT s69) (k : V → Option β) : fnK cfg (tabL [(102, W102 F102)]) X69 69 Tryz.f69 β (argsEnc s69 e) k = G69 (P69 F102 ) β e k := by kernel_rfl
theorem ok69 : FnOk D 69 (W69 F69) := fn_okW [(102, W102 F102)] X69 (fun _ => rfl) Tryz.func69 rfl (tabL_cons ok102 tabL_nil) (k69 F102 )

/-- laws.toModule -/
abbrev T103 : Type 1 := (β : Type) → List UInt8 → List UInt8 → Bool → Int → List UInt8 → (List UInt8 → List UInt8 → Bool → Int → List UInt8 → Option β) → Option β
def P103 (F64 : T64) : T103 := fun β a_To_Host a_To_Path a_Done a_Code a_Body k =>
 F64 _ a_To_Host a_To_Path fun t1 t2 =>
 k t1 t2 a_Done a_Code a_Body
def F103 : T103 := P103 F64 
abbrev s103 : List (Bool × List CK) := [(true, [.str, .str, .bool, .int .i64, .str])]
def G103 (F : T103) (β : Type) (e : (List UInt8 × List UInt8 × Bool × Int × List UInt8 × Unit) × Unit) (k : V → Option β) : Option β := let a0_0 := e.1; let a0_1 := a0_0.2; let a0_2 := a0_1.2; let a0_3 := a0_2.2; let a0_4 := a0_3.2; F β a0_0.1 a0_1.1 a0_2.1 a0_3.1 a0_4.1 (fun y1 y2 y3 y4 y5 => k (.agg [.str y1, .str y2, .bool y3, .int .i64 y4, .str y5]))
abbrev W103 (F : T103) : WT := wrap s103 (G103 F)
theorem k103 (F64 : T64) (β : Type) (e : argsT s103) (k : V → Option β) : fnK cfg (tabL [(64, W64 F64)]) noX 103 Tryz.f103 β (argsEnc s103 e) k = G103 (P103 F64 ) β e k := by kernel_rfl
theorem ok103 : FnOk D 103 (W103 F103) := fn_okW [(64, W64 F64)] noX (fun _ => rfl) Tryz.func103 rfl (tabL_cons ok64 tabL_nil) (k103 F64 )

/-- laws.toModuleS -/
abbrev T70 : Type 1 := (β : Type) → List V → (List V → Option β) → Option β
def P70 (F103 : T103) : T70 := fun β a k =>
 chk (0 ≤ (a.length : Int) ∧ (a.length : Int) ≤ (a.length : Int) ∧ (a.length : Int) * 64 ≤ 140737488355328 ∧ (a.length : Int) ≤ 140737488355328) <|
 whileK (fun s1 =>
 br (decide ((lI s1 2) < ((lL s1 0).length : Int))) (
 chk (0 ≤ (lI s1 2)) <|
 idx true [.str, .str, .bool, .int .i64, .str] (lL s1 0) ((lI s1 2).toNat) fun (e2 : List UInt8 × List UInt8 × Bool × Int × List UInt8 × Unit) =>
 F103 _ e2.1 e2.2.1 e2.2.2.1 e2.2.2.2.1 e2.2.2.2.2.1 fun t3 t4 b5 n6 t7 =>
 chk (0 ≤ (lI s1 2) ∧ (lI s1 2).toNat < (lL s1 1).length) <|
 storeO (lL s1 1) ((lI s1 2).toNat) 0 [.str t3, .str t4, .bool b5, .int .i64 n6, .str t7] fun l8 =>
 some (.inl [.l (lL s1 0), .l l8, .i (IntKind.wrap .i64 ((lI s1 2) + 1))])) (
 some (.inr (0, [.l (lL s1 1)])))) [.l a, .l (List.replicate ((a.length : Int).toNat) (.agg [.str [], .str [], .bool false, .int .i64 0, .str []])), .i 0] fun (r9 : Nat × List Leaf) =>
 k (lL r9.2 0)
def F70 : T70 := P70 F103 
def X70 : Exits := fun i => lookN i [] [(3, [(.exit 0, xk 23 [(3, .own 1000000 5 .flat [])] [])])]
abbrev s70 : List (Bool × List CK) := [(false, [.sl 5 true])]
def G70 (F : T70) (β : Type) (e : (List V × Unit) × Unit) (k : V → Option β) : Option β := F β e.1.1 (fun y1 => k (.own 0 5 .flat y1))
abbrev W70 (F : T70) : WT := wrap s70 (G70 F)
theorem k70 (F103 : T103) (β : Type) (e : argsT s70) (k : V → Option β) : fnK cfg (tabL [(103, W103 F103)]) X70 70 Tryz.f70 β (argsEnc s70 e) k = G70 (P70 F103 ) β e k := by kernel_rfl
theorem ok70 : FnOk D 70 (W70 F70) := fn_okW [(103, W103 F103)] X70 (fun _ => rfl) Tryz.func70 rfl (tabL_cons ok103 tabL_nil) (k70 F103 )

/-- laws.toAddrS -/
abbrev T71 : Type 1 := (β : Type) → List V → (List V → Option β) → Option β
def P71 (F64 : T64) : T71 := fun β a k =>
 chk (0 ≤ (a.length : Int) ∧ (a.length : Int) ≤ (a.length : Int) ∧ (a.length : Int) * 32 ≤ 140737488355328 ∧ (a.length : Int) ≤ 140737488355328) <|
 whileK (fun s1 =>
 br (decide ((lI s1 2) < ((lL s1 0).length : Int))) (
 chk (0 ≤ (lI s1 2)) <|
 idx true [.str, .str] (lL s1 0) ((lI s1 2).toNat) fun (e2 : List UInt8 × List UInt8 × Unit) =>
 F64 _ e2.1 e2.2.1 fun t3 t4 =>
 chk (0 ≤ (lI s1 2) ∧ (lI s1 2).toNat < (lL s1 1).length) <|
 storeO (lL s1 1) ((lI s1 2).toNat) 0 [.str t3, .str t4] fun l5 =>
 some (.inl [.l (lL s1 0), .l l5, .i (IntKind.wrap .i64 ((lI s1 2) + 1))])) (
 some (.inr (0, [.l (lL s1 1)])))) [.l a, .l (List.replicate ((a.length : Int).toNat) (.agg [.str [], .str []])), .i 0] fun (r6 : Nat × List Leaf) =>
 k (lL r6.2 0)
def F71 : T71 := P71 F64 
def X71 : Exits := fun i => lookN i [] [(3, [(.exit 0, xk 23 [(3, .own 1000000 2 .flat [])] [])])]
abbrev s71 : List (Bool × List CK) := [(false, [.sl 2 true])]
def G71 (F : T71) (β : Type) (e : (List V × Unit) × Unit) (k : V → Option β) : Option β := F β e.1.1 (fun y1 => k (.own 0 2 .flat y1))
abbrev W71 (F : T71) : WT := wrap s71 (G71 F)
theorem k71 (F64 : T64) (β : Type) (e : argsT s71) (k : V → Option β) : fnK cfg (tabL [(64, W64 F64)]) X71 71 Tryz.f71 β (argsEnc s71 e) k = G71 (P71 F64 ) β e k := by kernel_rfl
theorem ok71 : FnOk D 71 (W71 F71) := fn_okW [(64, W64 F64)] X71 (fun _ => rfl) Tryz.func71 rfl (tabL_cons ok64 tabL_nil) (k71 F64 )

/-- laws.toPage -/
abbrev T35 : Type 1 := (β : Type) → List UInt8 → List UInt8 → Bool → List V → List V → List V → List UInt8 → List UInt8 → List V → Bool → List V → List V → List V → List V → List V → Int → Int → Int → Int → List V → List V → Bool → (List UInt8 → List UInt8 → Bool → List V → List V → List V → List UInt8 → List UInt8 → List V → Bool → List V → List V → List V → List V → List V → Int → Int → Int → Int → List V → List V → Bool → Option β) → Option β
def P35 (F64 : T64) (F65 : T65) (F66 : T66) (F67 : T67) (F68 : T68) (F69 : T69) (F70 : T70) (F71 : T71) (F72 : T72) : T35 := fun β a_Addr_Host a_Addr_Path a_Policy_Set a_Policy_Scripts a_Policy_Styles a_Policy_Images a_Policy_Nonce a_Tok_Rest a_Queue a_Ended a_Builder_Nodes a_Builder_Open a_Slots a_Mods a_Entries a_Block a_Inline a_Deferred a_Entered a_Ran a_Log a_Loaded k =>
 F64 _ a_Addr_Host a_Addr_Path fun t1 t2 =>
 F65 _ a_Policy_Set a_Policy_Scripts a_Policy_Styles a_Policy_Images a_Policy_Nonce fun b3 l4 l5 l6 t7 =>
 F66 _ a_Tok_Rest fun t8 =>
 F67 _ a_Queue fun l9 =>
 F68 _ a_Builder_Nodes a_Builder_Open fun l10 l11 =>
 F69 _ a_Slots fun l12 =>
 F70 _ a_Mods fun l13 =>
 F71 _ a_Entries fun l14 =>
 F71 _ a_Ran fun l15 =>
 F72 _ a_Log fun l16 =>
 k t1 t2 b3 l4 l5 l6 t7 t8 l9 a_Ended l10 l11 l12 l13 l14 a_Block a_Inline a_Deferred a_Entered l15 l16 a_Loaded
def F35 : T35 := P35 F64 F65 F66 F67 F68 F69 F70 F71 F72 
abbrev s35 : List (Bool × List CK) := [(true, [.str, .str, .bool, .sl 1 true, .sl 1 true, .sl 1 true, .str, .str, .sl 4 false, .bool, .sl 4 false, .sl 1 true, .sl 8 true, .sl 5 true, .sl 2 true, .int .i64, .int .i64, .int .i64, .int .i64, .sl 2 true, .sl 1 true, .bool])]
def G35 (F : T35) (β : Type) (e : (List UInt8 × List UInt8 × Bool × List V × List V × List V × List UInt8 × List UInt8 × List V × Bool × List V × List V × List V × List V × List V × Int × Int × Int × Int × List V × List V × Bool × Unit) × Unit) (k : V → Option β) : Option β := let a0_0 := e.1; let a0_1 := a0_0.2; let a0_2 := a0_1.2; let a0_3 := a0_2.2; let a0_4 := a0_3.2; let a0_5 := a0_4.2; let a0_6 := a0_5.2; let a0_7 := a0_6.2; let a0_8 := a0_7.2; let a0_9 := a0_8.2; let a0_10 := a0_9.2; let a0_11 := a0_10.2; let a0_12 := a0_11.2; let a0_13 := a0_12.2; let a0_14 := a0_13.2; let a0_15 := a0_14.2; let a0_16 := a0_15.2; let a0_17 := a0_16.2; let a0_18 := a0_17.2; let a0_19 := a0_18.2; let a0_20 := a0_19.2; let a0_21 := a0_20.2; F β a0_0.1 a0_1.1 a0_2.1 a0_3.1 a0_4.1 a0_5.1 a0_6.1 a0_7.1 a0_8.1 a0_9.1 a0_10.1 a0_11.1 a0_12.1 a0_13.1 a0_14.1 a0_15.1 a0_16.1 a0_17.1 a0_18.1 a0_19.1 a0_20.1 a0_21.1 (fun y1 y2 y3 y4 y5 y6 y7 y8 y9 y10 y11 y12 y13 y14 y15 y16 y17 y18 y19 y20 y21 y22 => k (.agg [.str y1, .str y2, .bool y3, .own 3 1 .flat y4, .own 4 1 .flat y5, .own 5 1 .flat y6, .str y7, .str y8, .own 8 4 .clean y9, .bool y10, .own 10 4 .clean y11, .own 11 1 .flat y12, .own 12 8 .flat y13, .own 13 5 .flat y14, .own 14 2 .flat y15, .int .i64 y16, .int .i64 y17, .int .i64 y18, .int .i64 y19, .own 19 2 .flat y20, .own 20 1 .flat y21, .bool y22]))
abbrev W35 (F : T35) : WT := wrap s35 (G35 F)
theorem k35 (F64 : T64) (F65 : T65) (F66 : T66) (F67 : T67) (F68 : T68) (F69 : T69) (F70 : T70) (F71 : T71) (F72 : T72) (β : Type) (e : argsT s35) (k : V → Option β) : fnK cfg (tabL [(64, W64 F64), (65, W65 F65), (66, W66 F66), (67, W67 F67), (68, W68 F68), (69, W69 F69), (70, W70 F70), (71, W71 F71), (72, W72 F72)]) noX 35 Tryz.f35 β (argsEnc s35 e) k = G35 (P35 F64 F65 F66 F67 F68 F69 F70 F71 F72 ) β e k := by kernel_rfl
theorem ok35 : FnOk D 35 (W35 F35) := fn_okW [(64, W64 F64), (65, W65 F65), (66, W66 F66), (67, W67 F67), (68, W68 F68), (69, W69 F69), (70, W70 F70), (71, W71 F71), (72, W72 F72)] noX (fun _ => rfl) Tryz.func35 rfl (tabL_cons ok64 (tabL_cons ok65 (tabL_cons ok66 (tabL_cons ok67 (tabL_cons ok68 (tabL_cons ok69 (tabL_cons ok70 (tabL_cons ok71 (tabL_cons ok72 tabL_nil))))))))) (k35 F64 F65 F66 F67 F68 F69 F70 F71 F72 )

/-- laws.toVisit -/
abbrev T63 : Type 1 := (β : Type) → List UInt8 → List UInt8 → List UInt8 → List UInt8 → Bool → List V → List V → List V → List UInt8 → List UInt8 → List V → Bool → List V → List V → List V → List V → List V → Int → Int → Int → Int → List V → List V → Bool → Bool → (List UInt8 → List UInt8 → List UInt8 → List UInt8 → Bool → List V → List V → List V → List UInt8 → List UInt8 → List V → Bool → List V → List V → List V → List V → List V → Int → Int → Int → Int → List V → List V → Bool → Bool → Option β) → Option β
def P63 (F64 : T64) (F35 : T35) : T63 := fun β a_Addr_Host a_Addr_Path a_Page_Addr_Host a_Page_Addr_Path a_Page_Policy_Set a_Page_Policy_Scripts a_Page_Policy_Styles a_Page_Policy_Images a_Page_Policy_Nonce a_Page_Tok_Rest a_Page_Queue a_Page_Ended a_Page_Builder_Nodes a_Page_Builder_Open a_Page_Slots a_Page_Mods a_Page_Entries a_Page_Block a_Page_Inline a_Page_Deferred a_Page_Entered a_Page_Ran a_Page_Log a_Page_Loaded a_Kept k =>
 F64 _ a_Addr_Host a_Addr_Path fun t1 t2 =>
 F35 _ a_Page_Addr_Host a_Page_Addr_Path a_Page_Policy_Set a_Page_Policy_Scripts a_Page_Policy_Styles a_Page_Policy_Images a_Page_Policy_Nonce a_Page_Tok_Rest a_Page_Queue a_Page_Ended a_Page_Builder_Nodes a_Page_Builder_Open a_Page_Slots a_Page_Mods a_Page_Entries a_Page_Block a_Page_Inline a_Page_Deferred a_Page_Entered a_Page_Ran a_Page_Log a_Page_Loaded fun t3 t4 b5 l6 l7 l8 t9 t10 l11 b12 l13 l14 l15 l16 l17 n18 n19 n20 n21 l22 l23 b24 =>
 k t1 t2 t3 t4 b5 l6 l7 l8 t9 t10 l11 b12 l13 l14 l15 l16 l17 n18 n19 n20 n21 l22 l23 b24 a_Kept
def F63 : T63 := P63 F64 F35 
abbrev s63 : List (Bool × List CK) := [(true, [.str, .str, .str, .str, .bool, .sl 1 true, .sl 1 true, .sl 1 true, .str, .str, .sl 4 false, .bool, .sl 4 false, .sl 1 true, .sl 8 true, .sl 5 true, .sl 2 true, .int .i64, .int .i64, .int .i64, .int .i64, .sl 2 true, .sl 1 true, .bool, .bool])]
def G63 (F : T63) (β : Type) (e : (List UInt8 × List UInt8 × List UInt8 × List UInt8 × Bool × List V × List V × List V × List UInt8 × List UInt8 × List V × Bool × List V × List V × List V × List V × List V × Int × Int × Int × Int × List V × List V × Bool × Bool × Unit) × Unit) (k : V → Option β) : Option β := let a0_0 := e.1; let a0_1 := a0_0.2; let a0_2 := a0_1.2; let a0_3 := a0_2.2; let a0_4 := a0_3.2; let a0_5 := a0_4.2; let a0_6 := a0_5.2; let a0_7 := a0_6.2; let a0_8 := a0_7.2; let a0_9 := a0_8.2; let a0_10 := a0_9.2; let a0_11 := a0_10.2; let a0_12 := a0_11.2; let a0_13 := a0_12.2; let a0_14 := a0_13.2; let a0_15 := a0_14.2; let a0_16 := a0_15.2; let a0_17 := a0_16.2; let a0_18 := a0_17.2; let a0_19 := a0_18.2; let a0_20 := a0_19.2; let a0_21 := a0_20.2; let a0_22 := a0_21.2; let a0_23 := a0_22.2; let a0_24 := a0_23.2; F β a0_0.1 a0_1.1 a0_2.1 a0_3.1 a0_4.1 a0_5.1 a0_6.1 a0_7.1 a0_8.1 a0_9.1 a0_10.1 a0_11.1 a0_12.1 a0_13.1 a0_14.1 a0_15.1 a0_16.1 a0_17.1 a0_18.1 a0_19.1 a0_20.1 a0_21.1 a0_22.1 a0_23.1 a0_24.1 (fun y1 y2 y3 y4 y5 y6 y7 y8 y9 y10 y11 y12 y13 y14 y15 y16 y17 y18 y19 y20 y21 y22 y23 y24 y25 => k (.agg [.str y1, .str y2, .str y3, .str y4, .bool y5, .own 5 1 .flat y6, .own 6 1 .flat y7, .own 7 1 .flat y8, .str y9, .str y10, .own 10 4 .clean y11, .bool y12, .own 12 4 .clean y13, .own 13 1 .flat y14, .own 14 8 .flat y15, .own 15 5 .flat y16, .own 16 2 .flat y17, .int .i64 y18, .int .i64 y19, .int .i64 y20, .int .i64 y21, .own 21 2 .flat y22, .own 22 1 .flat y23, .bool y24, .bool y25]))
abbrev W63 (F : T63) : WT := wrap s63 (G63 F)
theorem k63 (F64 : T64) (F35 : T35) (β : Type) (e : argsT s63) (k : V → Option β) : fnK cfg (tabL [(64, W64 F64), (35, W35 F35)]) noX 63 Tryz.f63 β (argsEnc s63 e) k = G63 (P63 F64 F35 ) β e k := by kernel_rfl
theorem ok63 : FnOk D 63 (W63 F63) := fn_okW [(64, W64 F64), (35, W35 F35)] noX (fun _ => rfl) Tryz.func63 rfl (tabL_cons ok64 (tabL_cons ok35 tabL_nil)) (k63 F64 F35 )

/-- laws.toVisitS -/
abbrev T34 : Type 1 := (β : Type) → List V → (List V → Option β) → Option β
def P34 (F63 : T63) : T34 := fun β a k =>
 chk (0 ≤ (a.length : Int) ∧ (a.length : Int) ≤ (a.length : Int) ∧ (a.length : Int) * 424 ≤ 140737488355328 ∧ (a.length : Int) ≤ 140737488355328) <|
 whileK (fun s1 =>
 br (decide ((lI s1 2) < ((lL s1 0).length : Int))) (
 chk (0 ≤ (lI s1 2)) <|
 idx true [.str, .str, .str, .str, .bool, .sl 1 true, .sl 1 true, .sl 1 true, .str, .str, .sl 4 false, .bool, .sl 4 false, .sl 1 true, .sl 8 true, .sl 5 true, .sl 2 true, .int .i64, .int .i64, .int .i64, .int .i64, .sl 2 true, .sl 1 true, .bool, .bool] (lL s1 0) ((lI s1 2).toNat) fun (e2 : List UInt8 × List UInt8 × List UInt8 × List UInt8 × Bool × List V × List V × List V × List UInt8 × List UInt8 × List V × Bool × List V × List V × List V × List V × List V × Int × Int × Int × Int × List V × List V × Bool × Bool × Unit) =>
 F63 _ e2.1 e2.2.1 e2.2.2.1 e2.2.2.2.1 e2.2.2.2.2.1 e2.2.2.2.2.2.1 e2.2.2.2.2.2.2.1 e2.2.2.2.2.2.2.2.1 e2.2.2.2.2.2.2.2.2.1 e2.2.2.2.2.2.2.2.2.2.1 e2.2.2.2.2.2.2.2.2.2.2.1 e2.2.2.2.2.2.2.2.2.2.2.2.1 e2.2.2.2.2.2.2.2.2.2.2.2.2.1 e2.2.2.2.2.2.2.2.2.2.2.2.2.2.1 e2.2.2.2.2.2.2.2.2.2.2.2.2.2.2.1 e2.2.2.2.2.2.2.2.2.2.2.2.2.2.2.2.1 e2.2.2.2.2.2.2.2.2.2.2.2.2.2.2.2.2.1 e2.2.2.2.2.2.2.2.2.2.2.2.2.2.2.2.2.2.1 e2.2.2.2.2.2.2.2.2.2.2.2.2.2.2.2.2.2.2.1 e2.2.2.2.2.2.2.2.2.2.2.2.2.2.2.2.2.2.2.2.1 e2.2.2.2.2.2.2.2.2.2.2.2.2.2.2.2.2.2.2.2.2.1 e2.2.2.2.2.2.2.2.2.2.2.2.2.2.2.2.2.2.2.2.2.2.1 e2.2.2.2.2.2.2.2.2.2.2.2.2.2.2.2.2.2.2.2.2.2.2.1 e2.2.2.2.2.2.2.2.2.2.2.2.2.2.2.2.2.2.2.2.2.2.2.2.1 e2.2.2.2.2.2.2.2.2.2.2.2.2.2.2.2.2.2.2.2.2.2.2.2.2.1 fun t3 t4 t5 t6 b7 l8 l9 l10 t11 t12 l13 b14 l15 l16 l17 l18 l19 n20 n21 n22 n23 l24 l25 b26 b27 =>
 chk (0 ≤ (lI s1 2) ∧ (lI s1 2).toNat < (lL s1 1).length) <|
 storeO (lL s1 1) ((lI s1 2).toNat) 0 [.str t3, .str t4, .str t5, .str t6, .bool b7, .sl 1 true l8, .sl 1 true l9, .sl 1 true l10, .str t11, .str t12, .sl 4 false l13, .bool b14, .sl 4 false l15, .sl 1 true l16, .sl 8 true l17, .sl 5 true l18, .sl 2 true l19, .int .i64 n20, .int .i64 n21, .int .i64 n22, .int .i64 n23, .sl 2 true l24, .sl 1 true l25, .bool b26, .bool b27] fun l28 =>
 some (.inl [.l (lL s1 0), .l l28, .i (IntKind.wrap .i64 ((lI s1 2) + 1))])) (
 some (.inr (0, [.l (lL s1 1)])))) [.l a, .l (List.replicate ((a.length : Int).toNat) (.agg [.str [], .str [], .str [], .str [], .bool false, .sl 1 true [], .sl 1 true [], .sl 1 true [], .str [], .str [], .sl 4 false [], .bool false, .sl 4 false [], .sl 1 true [], .sl 8 true [], .sl 5 true [], .sl 2 true [], .int .i64 0, .int .i64 0, .int .i64 0, .int .i64 0, .sl 2 true [], .sl 1 true [], .bool false, .bool false])), .i 0] fun (r29 : Nat × List Leaf) =>
 k (lL r29.2 0)
def F34 : T34 := P34 F63 
def X34 : Exits := fun i => lookN i [] [(3, [(.exit 0, xk 23 [(3, .own 1000000 25 .clean [])] [])])]
abbrev s34 : List (Bool × List CK) := [(false, [.sl 25 false])]
def G34 (F : T34) (β : Type) (e : (List V × Unit) × Unit) (k : V → Option β) : Option β := F β e.1.1 (fun y1 => k (.own 0 25 .clean y1))
abbrev W34 (F : T34) : WT := wrap s34 (G34 F)
theorem k34 (F63 : T63) (β : Type) (e : argsT s34) (k : V → Option β) : fnK cfg (tabL [(63, W63 F63)]) X34 34 Tryz.f34 β (argsEnc s34 e) k = G34 (P34 F63 ) β e k := by kernel_rfl
theorem ok34 : FnOk D 34 (W34 F34) := fn_okW [(63, W63 F63)] X34 (fun _ => rfl) Tryz.func34 rfl (tabL_cons ok63 tabL_nil) (k34 F63 )

/-- laws.toTab -/
abbrev T16 : Type 1 := (β : Type) → List V → Int → (List V → Int → Option β) → Option β
def P16 (F34 : T34) : T16 := fun β a_Visits a_At k =>
 F34 _ a_Visits fun l1 =>
 k l1 a_At
def F16 : T16 := P16 F34 
abbrev s16 : List (Bool × List CK) := [(true, [.sl 25 false, .int .i64])]
def G16 (F : T16) (β : Type) (e : (List V × Int × Unit) × Unit) (k : V → Option β) : Option β := F β e.1.1 e.1.2.1 (fun y1 y2 => k (.agg [.own 0 25 .clean y1, .int .i64 y2]))
abbrev W16 (F : T16) : WT := wrap s16 (G16 F)
theorem k16 (F34 : T34) (β : Type) (e : argsT s16) (k : V → Option β) : fnK cfg (tabL [(34, W34 F34)]) noX 16 Tryz.f16 β (argsEnc s16 e) k = G16 (P16 F34 ) β e k := by kernel_rfl
theorem ok16 : FnOk D 16 (W16 F16) := fn_okW [(34, W34 F34)] noX (fun _ => rfl) Tryz.func16 rfl (tabL_cons ok34 tabL_nil) (k16 F34 )

/-- laws.toKept -/
abbrev T73 : Type 1 := (β : Type) → List UInt8 → List UInt8 → Int → Int → List UInt8 → Int → Bool → List UInt8 → (List UInt8 → List UInt8 → Int → Int → List UInt8 → Int → Bool → List UInt8 → Option β) → Option β
def P73 (F64 : T64) (F104 : T104) : T73 := fun β a_To_Host a_To_Path a_Response_Status a_Response_Kind a_Response_Body a_Response_Age a_Response_Shares a_Response_Policy k =>
 F64 _ a_To_Host a_To_Path fun t1 t2 =>
 F104 _ a_Response_Status a_Response_Kind a_Response_Body a_Response_Age a_Response_Shares a_Response_Policy fun n3 n4 t5 n6 b7 t8 =>
 k t1 t2 n3 n4 t5 n6 b7 t8
def F73 : T73 := P73 F64 F104 
abbrev s73 : List (Bool × List CK) := [(true, [.str, .str, .int .i64, .int .i64, .str, .int .i64, .bool, .str])]
def G73 (F : T73) (β : Type) (e : (List UInt8 × List UInt8 × Int × Int × List UInt8 × Int × Bool × List UInt8 × Unit) × Unit) (k : V → Option β) : Option β := let a0_0 := e.1; let a0_1 := a0_0.2; let a0_2 := a0_1.2; let a0_3 := a0_2.2; let a0_4 := a0_3.2; let a0_5 := a0_4.2; let a0_6 := a0_5.2; let a0_7 := a0_6.2; F β a0_0.1 a0_1.1 a0_2.1 a0_3.1 a0_4.1 a0_5.1 a0_6.1 a0_7.1 (fun y1 y2 y3 y4 y5 y6 y7 y8 => k (.agg [.str y1, .str y2, .int .i64 y3, .int .i64 y4, .str y5, .int .i64 y6, .bool y7, .str y8]))
abbrev W73 (F : T73) : WT := wrap s73 (G73 F)
theorem k73 (F64 : T64) (F104 : T104) (β : Type) (e : argsT s73) (k : V → Option β) : fnK cfg (tabL [(64, W64 F64), (104, W104 F104)]) noX 73 Tryz.f73 β (argsEnc s73 e) k = G73 (P73 F64 F104 ) β e k := by kernel_rfl
theorem ok73 : FnOk D 73 (W73 F73) := fn_okW [(64, W64 F64), (104, W104 F104)] noX (fun _ => rfl) Tryz.func73 rfl (tabL_cons ok64 (tabL_cons ok104 tabL_nil)) (k73 F64 F104 )

/-- laws.toKeptS -/
abbrev T36 : Type 1 := (β : Type) → List V → (List V → Option β) → Option β
def P36 (F73 : T73) : T36 := fun β a k =>
 chk (0 ≤ (a.length : Int) ∧ (a.length : Int) ≤ (a.length : Int) ∧ (a.length : Int) * 96 ≤ 140737488355328 ∧ (a.length : Int) ≤ 140737488355328) <|
 whileK (fun s1 =>
 br (decide ((lI s1 2) < ((lL s1 0).length : Int))) (
 chk (0 ≤ (lI s1 2)) <|
 idx true [.str, .str, .int .i64, .int .i64, .str, .int .i64, .bool, .str] (lL s1 0) ((lI s1 2).toNat) fun (e2 : List UInt8 × List UInt8 × Int × Int × List UInt8 × Int × Bool × List UInt8 × Unit) =>
 F73 _ e2.1 e2.2.1 e2.2.2.1 e2.2.2.2.1 e2.2.2.2.2.1 e2.2.2.2.2.2.1 e2.2.2.2.2.2.2.1 e2.2.2.2.2.2.2.2.1 fun t3 t4 n5 n6 t7 n8 b9 t10 =>
 chk (0 ≤ (lI s1 2) ∧ (lI s1 2).toNat < (lL s1 1).length) <|
 storeO (lL s1 1) ((lI s1 2).toNat) 0 [.str t3, .str t4, .int .i64 n5, .int .i64 n6, .str t7, .int .i64 n8, .bool b9, .str t10] fun l11 =>
 some (.inl [.l (lL s1 0), .l l11, .i (IntKind.wrap .i64 ((lI s1 2) + 1))])) (
 some (.inr (0, [.l (lL s1 1)])))) [.l a, .l (List.replicate ((a.length : Int).toNat) (.agg [.str [], .str [], .int .i64 0, .int .i64 0, .str [], .int .i64 0, .bool false, .str []])), .i 0] fun (r12 : Nat × List Leaf) =>
 k (lL r12.2 0)
def F36 : T36 := P36 F73 
def X36 : Exits := fun i => lookN i [] [(3, [(.exit 0, xk 23 [(3, .own 1000000 8 .flat [])] [])])]
abbrev s36 : List (Bool × List CK) := [(false, [.sl 8 true])]
def G36 (F : T36) (β : Type) (e : (List V × Unit) × Unit) (k : V → Option β) : Option β := F β e.1.1 (fun y1 => k (.own 0 8 .flat y1))
abbrev W36 (F : T36) : WT := wrap s36 (G36 F)
theorem k36 (F73 : T73) (β : Type) (e : argsT s36) (k : V → Option β) : fnK cfg (tabL [(73, W73 F73)]) X36 36 Tryz.f36 β (argsEnc s36 e) k = G36 (P36 F73 ) β e k := by kernel_rfl
theorem ok36 : FnOk D 36 (W36 F36) := fn_okW [(73, W73 F73)] X36 (fun _ => rfl) Tryz.func36 rfl (tabL_cons ok73 tabL_nil) (k36 F73 )

/-- laws.toHidden -/
abbrev T17 : Type 1 := (β : Type) → Bool → List UInt8 → List UInt8 → Bool → List V → List V → List V → List UInt8 → List UInt8 → List V → Bool → List V → List V → List V → List V → List V → Int → Int → Int → Int → List V → List V → Bool → List V → List V → Int → (Bool → List UInt8 → List UInt8 → Bool → List V → List V → List V → List UInt8 → List UInt8 → List V → Bool → List V → List V → List V → List V → List V → Int → Int → Int → Int → List V → List V → Bool → List V → List V → Int → Option β) → Option β
def P17 (F35 : T35) (F36 : T36) (F31 : T31) : T17 := fun β a_Ready a_Page_Addr_Host a_Page_Addr_Path a_Page_Policy_Set a_Page_Policy_Scripts a_Page_Policy_Styles a_Page_Policy_Images a_Page_Policy_Nonce a_Page_Tok_Rest a_Page_Queue a_Page_Ended a_Page_Builder_Nodes a_Page_Builder_Open a_Page_Slots a_Page_Mods a_Page_Entries a_Page_Block a_Page_Inline a_Page_Deferred a_Page_Entered a_Page_Ran a_Page_Log a_Page_Loaded a_Taken a_Servers a_Now k =>
 F35 _ a_Page_Addr_Host a_Page_Addr_Path a_Page_Policy_Set a_Page_Policy_Scripts a_Page_Policy_Styles a_Page_Policy_Images a_Page_Policy_Nonce a_Page_Tok_Rest a_Page_Queue a_Page_Ended a_Page_Builder_Nodes a_Page_Builder_Open a_Page_Slots a_Page_Mods a_Page_Entries a_Page_Block a_Page_Inline a_Page_Deferred a_Page_Entered a_Page_Ran a_Page_Log a_Page_Loaded fun t1 t2 b3 l4 l5 l6 t7 t8 l9 b10 l11 l12 l13 l14 l15 n16 n17 n18 n19 l20 l21 b22 =>
 F36 _ a_Taken fun l23 =>
 F31 _ a_Servers fun l24 =>
 k a_Ready t1 t2 b3 l4 l5 l6 t7 t8 l9 b10 l11 l12 l13 l14 l15 n16 n17 n18 n19 l20 l21 b22 l23 l24 a_Now
def F17 : T17 := P17 F35 F36 F31 
abbrev s17 : List (Bool × List CK) := [(true, [.bool, .str, .str, .bool, .sl 1 true, .sl 1 true, .sl 1 true, .str, .str, .sl 4 false, .bool, .sl 4 false, .sl 1 true, .sl 8 true, .sl 5 true, .sl 2 true, .int .i64, .int .i64, .int .i64, .int .i64, .sl 2 true, .sl 1 true, .bool, .sl 8 true, .sl 2 false, .int .i64])]
def G17 (F : T17) (β : Type) (e : (Bool × List UInt8 × List UInt8 × Bool × List V × List V × List V × List UInt8 × List UInt8 × List V × Bool × List V × List V × List V × List V × List V × Int × Int × Int × Int × List V × List V × Bool × List V × List V × Int × Unit) × Unit) (k : V → Option β) : Option β := let a0_0 := e.1; let a0_1 := a0_0.2; let a0_2 := a0_1.2; let a0_3 := a0_2.2; let a0_4 := a0_3.2; let a0_5 := a0_4.2; let a0_6 := a0_5.2; let a0_7 := a0_6.2; let a0_8 := a0_7.2; let a0_9 := a0_8.2; let a0_10 := a0_9.2; let a0_11 := a0_10.2; let a0_12 := a0_11.2; let a0_13 := a0_12.2; let a0_14 := a0_13.2; let a0_15 := a0_14.2; let a0_16 := a0_15.2; let a0_17 := a0_16.2; let a0_18 := a0_17.2; let a0_19 := a0_18.2; let a0_20 := a0_19.2; let a0_21 := a0_20.2; let a0_22 := a0_21.2; let a0_23 := a0_22.2; let a0_24 := a0_23.2; let a0_25 := a0_24.2; F β a0_0.1 a0_1.1 a0_2.1 a0_3.1 a0_4.1 a0_5.1 a0_6.1 a0_7.1 a0_8.1 a0_9.1 a0_10.1 a0_11.1 a0_12.1 a0_13.1 a0_14.1 a0_15.1 a0_16.1 a0_17.1 a0_18.1 a0_19.1 a0_20.1 a0_21.1 a0_22.1 a0_23.1 a0_24.1 a0_25.1 (fun y1 y2 y3 y4 y5 y6 y7 y8 y9 y10 y11 y12 y13 y14 y15 y16 y17 y18 y19 y20 y21 y22 y23 y24 y25 y26 => k (.agg [.bool y1, .str y2, .str y3, .bool y4, .own 4 1 .flat y5, .own 5 1 .flat y6, .own 6 1 .flat y7, .str y8, .str y9, .own 9 4 .clean y10, .bool y11, .own 11 4 .clean y12, .own 12 1 .flat y13, .own 13 8 .flat y14, .own 14 5 .flat y15, .own 15 2 .flat y16, .int .i64 y17, .int .i64 y18, .int .i64 y19, .int .i64 y20, .own 20 2 .flat y21, .own 21 1 .flat y22, .bool y23, .own 23 8 .flat y24, .own 24 2 .clean y25, .int .i64 y26]))
abbrev W17 (F : T17) : WT := wrap s17 (G17 F)
theorem k17 (F35 : T35) (F36 : T36) (F31 : T31) (β : Type) (e : argsT s17) (k : V → Option β) : fnK cfg (tabL [(35, W35 F35), (36, W36 F36), (31, W31 F31)]) noX 17 Tryz.f17 β (argsEnc s17 e) k = G17 (P17 F35 F36 F31 ) β e k := by kernel_rfl
theorem ok17 : FnOk D 17 (W17 F17) := fn_okW [(35, W35 F35), (36, W36 F36), (31, W31 F31)] noX (fun _ => rfl) Tryz.func17 rfl (tabL_cons ok35 (tabL_cons ok36 (tabL_cons ok31 tabL_nil))) (k17 F35 F36 F31 )

/-- laws.toWorld -/
abbrev T6 : Type 1 := (β : Type) → List V → List V → List V → Int → List V → Int → Bool → List UInt8 → List UInt8 → Bool → List V → List V → List V → List UInt8 → List UInt8 → List V → Bool → List V → List V → List V → List V → List V → Int → Int → Int → Int → List V → List V → Bool → List V → List V → Int → Bool → (List V → List V → List V → Int → List V → Int → Bool → List UInt8 → List UInt8 → Bool → List V → List V → List V → List UInt8 → List UInt8 → List V → Bool → List V → List V → List V → List V → List V → Int → Int → Int → Int → List V → List V → Bool → List V → List V → Int → Bool → Option β) → Option β
def P6 (F15 : T15) (F16 : T16) (F17 : T17) : T6 := fun β a_Net_Servers a_Net_Cache_Entries a_Net_Log a_Net_Now a_Tab_Visits a_Tab_At a_Hidden_Ready a_Hidden_Page_Addr_Host a_Hidden_Page_Addr_Path a_Hidden_Page_Policy_Set a_Hidden_Page_Policy_Scripts a_Hidden_Page_Policy_Styles a_Hidden_Page_Policy_Images a_Hidden_Page_Policy_Nonce a_Hidden_Page_Tok_Rest a_Hidden_Page_Queue a_Hidden_Page_Ended a_Hidden_Page_Builder_Nodes a_Hidden_Page_Builder_Open a_Hidden_Page_Slots a_Hidden_Page_Mods a_Hidden_Page_Entries a_Hidden_Page_Block a_Hidden_Page_Inline a_Hidden_Page_Deferred a_Hidden_Page_Entered a_Hidden_Page_Ran a_Hidden_Page_Log a_Hidden_Page_Loaded a_Hidden_Taken a_Hidden_Servers a_Hidden_Now a_Fast k =>
 F15 _ a_Net_Servers a_Net_Cache_Entries a_Net_Log a_Net_Now fun l1 l2 l3 n4 =>
 F16 _ a_Tab_Visits a_Tab_At fun l5 n6 =>
 F17 _ a_Hidden_Ready a_Hidden_Page_Addr_Host a_Hidden_Page_Addr_Path a_Hidden_Page_Policy_Set a_Hidden_Page_Policy_Scripts a_Hidden_Page_Policy_Styles a_Hidden_Page_Policy_Images a_Hidden_Page_Policy_Nonce a_Hidden_Page_Tok_Rest a_Hidden_Page_Queue a_Hidden_Page_Ended a_Hidden_Page_Builder_Nodes a_Hidden_Page_Builder_Open a_Hidden_Page_Slots a_Hidden_Page_Mods a_Hidden_Page_Entries a_Hidden_Page_Block a_Hidden_Page_Inline a_Hidden_Page_Deferred a_Hidden_Page_Entered a_Hidden_Page_Ran a_Hidden_Page_Log a_Hidden_Page_Loaded a_Hidden_Taken a_Hidden_Servers a_Hidden_Now fun b7 t8 t9 b10 l11 l12 l13 t14 t15 l16 b17 l18 l19 l20 l21 l22 n23 n24 n25 n26 l27 l28 b29 l30 l31 n32 =>
 k l1 l2 l3 n4 l5 n6 b7 t8 t9 b10 l11 l12 l13 t14 t15 l16 b17 l18 l19 l20 l21 l22 n23 n24 n25 n26 l27 l28 b29 l30 l31 n32 a_Fast
def F6 : T6 := P6 F15 F16 F17 
abbrev s6 : List (Bool × List CK) := [(true, [.sl 2 false, .sl 10 true, .sl 4 true, .int .i64, .sl 25 false, .int .i64, .bool, .str, .str, .bool, .sl 1 true, .sl 1 true, .sl 1 true, .str, .str, .sl 4 false, .bool, .sl 4 false, .sl 1 true, .sl 8 true, .sl 5 true, .sl 2 true, .int .i64, .int .i64, .int .i64, .int .i64, .sl 2 true, .sl 1 true, .bool, .sl 8 true, .sl 2 false, .int .i64, .bool])]
def G6 (F : T6) (β : Type) (e : (List V × List V × List V × Int × List V × Int × Bool × List UInt8 × List UInt8 × Bool × List V × List V × List V × List UInt8 × List UInt8 × List V × Bool × List V × List V × List V × List V × List V × Int × Int × Int × Int × List V × List V × Bool × List V × List V × Int × Bool × Unit) × Unit) (k : V → Option β) : Option β := let a0_0 := e.1; let a0_1 := a0_0.2; let a0_2 := a0_1.2; let a0_3 := a0_2.2; let a0_4 := a0_3.2; let a0_5 := a0_4.2; let a0_6 := a0_5.2; let a0_7 := a0_6.2; let a0_8 := a0_7.2; let a0_9 := a0_8.2; let a0_10 := a0_9.2; let a0_11 := a0_10.2; let a0_12 := a0_11.2; let a0_13 := a0_12.2; let a0_14 := a0_13.2; let a0_15 := a0_14.2; let a0_16 := a0_15.2; let a0_17 := a0_16.2; let a0_18 := a0_17.2; let a0_19 := a0_18.2; let a0_20 := a0_19.2; let a0_21 := a0_20.2; let a0_22 := a0_21.2; let a0_23 := a0_22.2; let a0_24 := a0_23.2; let a0_25 := a0_24.2; let a0_26 := a0_25.2; let a0_27 := a0_26.2; let a0_28 := a0_27.2; let a0_29 := a0_28.2; let a0_30 := a0_29.2; let a0_31 := a0_30.2; let a0_32 := a0_31.2; F β a0_0.1 a0_1.1 a0_2.1 a0_3.1 a0_4.1 a0_5.1 a0_6.1 a0_7.1 a0_8.1 a0_9.1 a0_10.1 a0_11.1 a0_12.1 a0_13.1 a0_14.1 a0_15.1 a0_16.1 a0_17.1 a0_18.1 a0_19.1 a0_20.1 a0_21.1 a0_22.1 a0_23.1 a0_24.1 a0_25.1 a0_26.1 a0_27.1 a0_28.1 a0_29.1 a0_30.1 a0_31.1 a0_32.1 (fun y1 y2 y3 y4 y5 y6 y7 y8 y9 y10 y11 y12 y13 y14 y15 y16 y17 y18 y19 y20 y21 y22 y23 y24 y25 y26 y27 y28 y29 y30 y31 y32 y33 => k (.agg [.own 0 2 .clean y1, .own 1 10 .flat y2, .own 2 4 .flat y3, .int .i64 y4, .own 4 25 .clean y5, .int .i64 y6, .bool y7, .str y8, .str y9, .bool y10, .own 10 1 .flat y11, .own 11 1 .flat y12, .own 12 1 .flat y13, .str y14, .str y15, .own 15 4 .clean y16, .bool y17, .own 17 4 .clean y18, .own 18 1 .flat y19, .own 19 8 .flat y20, .own 20 5 .flat y21, .own 21 2 .flat y22, .int .i64 y23, .int .i64 y24, .int .i64 y25, .int .i64 y26, .own 26 2 .flat y27, .own 27 1 .flat y28, .bool y29, .own 29 8 .flat y30, .own 30 2 .clean y31, .int .i64 y32, .bool y33]))
abbrev W6 (F : T6) : WT := wrap s6 (G6 F)
theorem k6 (F15 : T15) (F16 : T16) (F17 : T17) (β : Type) (e : argsT s6) (k : V → Option β) : fnK cfg (tabL [(15, W15 F15), (16, W16 F16), (17, W17 F17)]) noX 6 Tryz.f6 β (argsEnc s6 e) k = G6 (P6 F15 F16 F17 ) β e k := by kernel_rfl
theorem ok6 : FnOk D 6 (W6 F6) := fn_okW [(15, W15 F15), (16, W16 F16), (17, W17 F17)] noX (fun _ => rfl) Tryz.func6 rfl (tabL_cons ok15 (tabL_cons ok16 (tabL_cons ok17 tabL_nil))) (k6 F15 F16 F17 )

/-- spec.FormatInt -/
abbrev T12 : Type 1 := (β : Type) → Int → (List UInt8 → Option β) → Option β
def P12 : T12 := fun β n k =>
 br (n == 0) (
 k [48]) (
 whileK (fun s1 =>
 br ((lI s1 2) != 0) (
 br (decide (Int.tmod (lI s1 2) 10 < 0)) (
 strO [.int .u8 (IntKind.wrap .u8 (IntKind.wrap .i64 (48 + (IntKind.wrap .i64 (0 - (Int.tmod (lI s1 2) 10))))))] fun t2 =>
 chk (t2.length + (lS s1 1).length ≤ 9223372036854775807) <|
 some (.inl [.i (lI s1 0), .s (t2 ++ (lS s1 1)), .i (IntKind.wrap .i64 (Int.tdiv (lI s1 2) 10))])) (
 strO [.int .u8 (IntKind.wrap .u8 (IntKind.wrap .i64 (48 + (Int.tmod (lI s1 2) 10))))] fun t3 =>
 chk (t3.length + (lS s1 1).length ≤ 9223372036854775807) <|
 some (.inl [.i (lI s1 0), .s (t3 ++ (lS s1 1)), .i (IntKind.wrap .i64 (Int.tdiv (lI s1 2) 10))]))) (
 some (.inr (0, [.i (lI s1 0), .s (lS s1 1)])))) [.i n, .s [], .i n] fun (r4 : Nat × List Leaf) =>
 br (decide ((lI r4.2 0) < 0)) (
 chk (([45] : List UInt8).length + (lS r4.2 1).length ≤ 9223372036854775807) <|
 k ([45] ++ (lS r4.2 1))) (
 k (lS r4.2 1)))
def F12 : T12 := P12 
def X12 : Exits := fun i => lookN i [] [(5, [(.exit 0, xk 31 [(0, .int .i64 0), (3, .str [])] [])])]
abbrev s12 : List (Bool × List CK) := [(false, [.int .i64])]
def G12 (F : T12) (β : Type) (e : (Int × Unit) × Unit) (k : V → Option β) : Option β := F β e.1.1 (fun y1 => k (.str y1))
abbrev W12 (F : T12) : WT := wrap s12 (G12 F)
theorem k12 (β : Type) (e : argsT s12) (k : V → Option β) : fnK cfg (tabL []) X12 12 Tryz.f12 β (argsEnc s12 e) k = G12 (P12 ) β e k := by kernel_rfl
theorem ok12 : FnOk D 12 (W12 F12) := fn_okW [] X12 (fun _ => rfl) Tryz.func12 rfl (tabL_nil) (k12 )

/-- spec.FreshEntries -/
abbrev T30 : Type 1 := (β : Type) → List V → Int → (Int → Option β) → Option β
def P30 : T30 := fun β c_Entries now k =>
 whileK (fun s1 =>
 br (decide ((lI s1 2) < ((lL s1 3).length : Int))) (
 chk (0 ≤ (lI s1 2)) <|
 idx true [.str, .str, .str, .int .i64, .int .i64, .str, .int .i64, .bool, .str, .int .i64] (lL s1 3) ((lI s1 2).toNat) fun (e2 : List UInt8 × List UInt8 × List UInt8 × Int × Int × List UInt8 × Int × Bool × List UInt8 × Int × Unit) =>
 br (decide (e2.2.2.2.2.2.2.2.2.2.1 ≥ (lI s1 0))) (
 some (.inl [.i (lI s1 0), .i (IntKind.wrap .i64 ((lI s1 1) + 1)), .i (IntKind.wrap .i64 ((lI s1 2) + 1)), .l (lL s1 3)])) (
 some (.inl [.i (lI s1 0), .i (lI s1 1), .i (IntKind.wrap .i64 ((lI s1 2) + 1)), .l (lL s1 3)]))) (
 some (.inr (0, [.i (lI s1 1)])))) [.i now, .i 0, .i 0, .l c_Entries] fun (r3 : Nat × List Leaf) =>
 k (lI r3.2 0)
def F30 : T30 := P30 
def X30 : Exits := fun i => lookN i [] [(3, [(.exit 0, xk 25 [(5, .int .i64 0)] [])])]
abbrev s30 : List (Bool × List CK) := [(true, [.sl 10 true]), (false, [.int .i64])]
def G30 (F : T30) (β : Type) (e : (List V × Unit) × (Int × Unit) × Unit) (k : V → Option β) : Option β := F β e.1.1 e.2.1.1 (fun y1 => k (.int .i64 y1))
abbrev W30 (F : T30) : WT := wrap s30 (G30 F)
theorem k30 (β : Type) (e : argsT s30) (k : V → Option β) : fnK cfg (tabL []) X30 30 Tryz.f30 β (argsEnc s30 e) k = G30 (P30 ) β e k := by kernel_rfl
theorem ok30 : FnOk D 30 (W30 F30) := fn_okW [] X30 (fun _ => rfl) Tryz.func30 rfl (tabL_nil) (k30 )

/-- spec.FormatCache -/
abbrev T13 : Type 1 := (β : Type) → List V → Int → (List UInt8 → Option β) → Option β
def P13 (F30 : T30) (F12 : T12) : T13 := fun β c_Entries now k =>
 F30 _ c_Entries now fun n1 =>
 F12 _ n1 fun t2 =>
 chk (t2.length + ([47] : List UInt8).length ≤ 9223372036854775807) <|
 F12 _ (c_Entries.length : Int) fun t3 =>
 chk ((t2 ++ [47]).length + t3.length ≤ 9223372036854775807) <|
 k ((t2 ++ [47]) ++ t3)
def F13 : T13 := P13 F30 F12 
abbrev s13 : List (Bool × List CK) := [(true, [.sl 10 true]), (false, [.int .i64])]
def G13 (F : T13) (β : Type) (e : (List V × Unit) × (Int × Unit) × Unit) (k : V → Option β) : Option β := F β e.1.1 e.2.1.1 (fun y1 => k (.str y1))
abbrev W13 (F : T13) : WT := wrap s13 (G13 F)
theorem k13 (F30 : T30) (F12 : T12) (β : Type) (e : argsT s13) (k : V → Option β) : fnK cfg (tabL [(30, W30 F30), (12, W12 F12)]) noX 13 Tryz.f13 β (argsEnc s13 e) k = G13 (P13 F30 F12 ) β e k := by kernel_rfl
theorem ok13 : FnOk D 13 (W13 F13) := fn_okW [(30, W30 F30), (12, W12 F12)] noX (fun _ => rfl) Tryz.func13 rfl (tabL_cons ok30 (tabL_cons ok12 tabL_nil)) (k13 F30 F12 )

/-- spec.CountGuesses -/
abbrev T14 : Type 1 := (β : Type) → List V → List V → List V → Int → (Int → Option β) → Option β
def P14 : T14 := fun β n_Servers n_Cache_Entries n_Log n_Now k =>
 whileK (fun s1 =>
 br (decide ((lI s1 1) < ((lL s1 4).length : Int))) (
 chk (0 ≤ (lI s1 1)) <|
 idx true [.str, .str, .str, .bool] (lL s1 4) ((lI s1 1).toNat) fun (e2 : List UInt8 × List UInt8 × List UInt8 × Bool × Unit) =>
 br e2.2.2.2.1 (
 some (.inl [.i (IntKind.wrap .i64 ((lI s1 0) + 1)), .i (IntKind.wrap .i64 ((lI s1 1) + 1)), .l (lL s1 2), .l (lL s1 3), .l (lL s1 4), .i (lI s1 5)])) (
 some (.inl [.i (lI s1 0), .i (IntKind.wrap .i64 ((lI s1 1) + 1)), .l (lL s1 2), .l (lL s1 3), .l (lL s1 4), .i (lI s1 5)]))) (
 some (.inr (0, [.i (lI s1 0)])))) [.i 0, .i 0, .l n_Servers, .l n_Cache_Entries, .l n_Log, .i n_Now] fun (r3 : Nat × List Leaf) =>
 k (lI r3.2 0)
def F14 : T14 := P14 
def X14 : Exits := fun i => lookN i [] [(3, [(.exit 0, xk 21 [(3, .int .i64 0)] [])])]
abbrev s14 : List (Bool × List CK) := [(true, [.sl 2 false, .sl 10 true, .sl 4 true, .int .i64])]
def G14 (F : T14) (β : Type) (e : (List V × List V × List V × Int × Unit) × Unit) (k : V → Option β) : Option β := F β e.1.1 e.1.2.1 e.1.2.2.1 e.1.2.2.2.1 (fun y1 => k (.int .i64 y1))
abbrev W14 (F : T14) : WT := wrap s14 (G14 F)
theorem k14 (β : Type) (e : argsT s14) (k : V → Option β) : fnK cfg (tabL []) X14 14 Tryz.f14 β (argsEnc s14 e) k = G14 (P14 ) β e k := by kernel_rfl
theorem ok14 : FnOk D 14 (W14 F14) := fn_okW [] X14 (fun _ => rfl) Tryz.func14 rfl (tabL_nil) (k14 )

/-- spec.FormatWorld -/
abbrev T5 : Type 1 := (β : Type) → List V → List V → List V → Int → List V → Int → Bool → List UInt8 → List UInt8 → Bool → List V → List V → List V → List UInt8 → List UInt8 → List V → Bool → List V → List V → List V → List V → List V → Int → Int → Int → Int → List V → List V → Bool → List V → List V → Int → Bool → (List UInt8 → Option β) → Option β
def P5 (F12 : T12) (F13 : T13) (F14 : T14) : T5 := fun β w_Net_Servers w_Net_Cache_Entries w_Net_Log w_Net_Now w_Tab_Visits w_Tab_At w_Hidden_Ready w_Hidden_Page_Addr_Host w_Hidden_Page_Addr_Path w_Hidden_Page_Policy_Set w_Hidden_Page_Policy_Scripts w_Hidden_Page_Policy_Styles w_Hidden_Page_Policy_Images w_Hidden_Page_Policy_Nonce w_Hidden_Page_Tok_Rest w_Hidden_Page_Queue w_Hidden_Page_Ended w_Hidden_Page_Builder_Nodes w_Hidden_Page_Builder_Open w_Hidden_Page_Slots w_Hidden_Page_Mods w_Hidden_Page_Entries w_Hidden_Page_Block w_Hidden_Page_Inline w_Hidden_Page_Deferred w_Hidden_Page_Entered w_Hidden_Page_Ran w_Hidden_Page_Log w_Hidden_Page_Loaded w_Hidden_Taken w_Hidden_Servers w_Hidden_Now w_Fast k =>
 F12 _ w_Net_Now fun t1 =>
 chk (t1.length + ([32] : List UInt8).length ≤ 9223372036854775807) <|
 F13 _ w_Net_Cache_Entries w_Net_Now fun t2 =>
 chk ((t1 ++ [32]).length + t2.length ≤ 9223372036854775807) <|
 chk (((t1 ++ [32]) ++ t2).length + ([32] : List UInt8).length ≤ 9223372036854775807) <|
 F12 _ (w_Net_Log.length : Int) fun t3 =>
 chk ((((t1 ++ [32]) ++ t2) ++ [32]).length + t3.length ≤ 9223372036854775807) <|
 chk (((((t1 ++ [32]) ++ t2) ++ [32]) ++ t3).length + ([32] : List UInt8).length ≤ 9223372036854775807) <|
 F14 _ w_Net_Servers w_Net_Cache_Entries w_Net_Log w_Net_Now fun n4 =>
 F12 _ n4 fun t5 =>
 chk ((((((t1 ++ [32]) ++ t2) ++ [32]) ++ t3) ++ [32]).length + t5.length ≤ 9223372036854775807) <|
 chk (((((((t1 ++ [32]) ++ t2) ++ [32]) ++ t3) ++ [32]) ++ t5).length + ([32, 115, 108, 111, 119] : List UInt8).length ≤ 9223372036854775807) <|
 br w_Fast (
 chk (0 ≤ (0 : Int) ∧ (0 : Int) ≤ IntKind.wrap .i64 (((((((((t1 ++ [32]) ++ t2) ++ [32]) ++ t3) ++ [32]) ++ t5) ++ [32, 115, 108, 111, 119]).length : Int) - 4) ∧ IntKind.wrap .i64 (((((((((t1 ++ [32]) ++ t2) ++ [32]) ++ t3) ++ [32]) ++ t5) ++ [32, 115, 108, 111, 119]).length : Int) - 4) ≤ ((((((((t1 ++ [32]) ++ t2) ++ [32]) ++ t3) ++ [32]) ++ t5) ++ [32, 115, 108, 111, 119]).length : Int)) <|
 chk ((((((((((t1 ++ [32]) ++ t2) ++ [32]) ++ t3) ++ [32]) ++ t5) ++ [32, 115, 108, 111, 119]).take ((IntKind.wrap .i64 (((((((((t1 ++ [32]) ++ t2) ++ [32]) ++ t3) ++ [32]) ++ t5) ++ [32, 115, 108, 111, 119]).length : Int) - 4)).toNat)).drop 0).length + ([102, 97, 115, 116] : List UInt8).length ≤ 9223372036854775807) <|
 br w_Hidden_Ready (
 chk (((((((((((t1 ++ [32]) ++ t2) ++ [32]) ++ t3) ++ [32]) ++ t5) ++ [32, 115, 108, 111, 119]).take ((IntKind.wrap .i64 (((((((((t1 ++ [32]) ++ t2) ++ [32]) ++ t3) ++ [32]) ++ t5) ++ [32, 115, 108, 111, 119]).length : Int) - 4)).toNat)).drop 0) ++ [102, 97, 115, 116]).length + ([32, 114, 101, 97, 100, 121] : List UInt8).length ≤ 9223372036854775807) <|
 k (((((((((((t1 ++ [32]) ++ t2) ++ [32]) ++ t3) ++ [32]) ++ t5) ++ [32, 115, 108, 111, 119]).take ((IntKind.wrap .i64 (((((((((t1 ++ [32]) ++ t2) ++ [32]) ++ t3) ++ [32]) ++ t5) ++ [32, 115, 108, 111, 119]).length : Int) - 4)).toNat)).drop 0) ++ [102, 97, 115, 116]) ++ [32, 114, 101, 97, 100, 121])) (
 k ((((((((((t1 ++ [32]) ++ t2) ++ [32]) ++ t3) ++ [32]) ++ t5) ++ [32, 115, 108, 111, 119]).take ((IntKind.wrap .i64 (((((((((t1 ++ [32]) ++ t2) ++ [32]) ++ t3) ++ [32]) ++ t5) ++ [32, 115, 108, 111, 119]).length : Int) - 4)).toNat)).drop 0) ++ [102, 97, 115, 116]))) (
 br w_Hidden_Ready (
 chk ((((((((t1 ++ [32]) ++ t2) ++ [32]) ++ t3) ++ [32]) ++ t5) ++ [32, 115, 108, 111, 119]).length + ([32, 114, 101, 97, 100, 121] : List UInt8).length ≤ 9223372036854775807) <|
 k ((((((((t1 ++ [32]) ++ t2) ++ [32]) ++ t3) ++ [32]) ++ t5) ++ [32, 115, 108, 111, 119]) ++ [32, 114, 101, 97, 100, 121])) (
 k (((((((t1 ++ [32]) ++ t2) ++ [32]) ++ t3) ++ [32]) ++ t5) ++ [32, 115, 108, 111, 119])))
def F5 : T5 := P5 F12 F13 F14 
abbrev s5 : List (Bool × List CK) := [(true, [.sl 2 false, .sl 10 true, .sl 4 true, .int .i64, .sl 25 false, .int .i64, .bool, .str, .str, .bool, .sl 1 true, .sl 1 true, .sl 1 true, .str, .str, .sl 4 false, .bool, .sl 4 false, .sl 1 true, .sl 8 true, .sl 5 true, .sl 2 true, .int .i64, .int .i64, .int .i64, .int .i64, .sl 2 true, .sl 1 true, .bool, .sl 8 true, .sl 2 false, .int .i64, .bool])]
def G5 (F : T5) (β : Type) (e : (List V × List V × List V × Int × List V × Int × Bool × List UInt8 × List UInt8 × Bool × List V × List V × List V × List UInt8 × List UInt8 × List V × Bool × List V × List V × List V × List V × List V × Int × Int × Int × Int × List V × List V × Bool × List V × List V × Int × Bool × Unit) × Unit) (k : V → Option β) : Option β := let a0_0 := e.1; let a0_1 := a0_0.2; let a0_2 := a0_1.2; let a0_3 := a0_2.2; let a0_4 := a0_3.2; let a0_5 := a0_4.2; let a0_6 := a0_5.2; let a0_7 := a0_6.2; let a0_8 := a0_7.2; let a0_9 := a0_8.2; let a0_10 := a0_9.2; let a0_11 := a0_10.2; let a0_12 := a0_11.2; let a0_13 := a0_12.2; let a0_14 := a0_13.2; let a0_15 := a0_14.2; let a0_16 := a0_15.2; let a0_17 := a0_16.2; let a0_18 := a0_17.2; let a0_19 := a0_18.2; let a0_20 := a0_19.2; let a0_21 := a0_20.2; let a0_22 := a0_21.2; let a0_23 := a0_22.2; let a0_24 := a0_23.2; let a0_25 := a0_24.2; let a0_26 := a0_25.2; let a0_27 := a0_26.2; let a0_28 := a0_27.2; let a0_29 := a0_28.2; let a0_30 := a0_29.2; let a0_31 := a0_30.2; let a0_32 := a0_31.2; F β a0_0.1 a0_1.1 a0_2.1 a0_3.1 a0_4.1 a0_5.1 a0_6.1 a0_7.1 a0_8.1 a0_9.1 a0_10.1 a0_11.1 a0_12.1 a0_13.1 a0_14.1 a0_15.1 a0_16.1 a0_17.1 a0_18.1 a0_19.1 a0_20.1 a0_21.1 a0_22.1 a0_23.1 a0_24.1 a0_25.1 a0_26.1 a0_27.1 a0_28.1 a0_29.1 a0_30.1 a0_31.1 a0_32.1 (fun y1 => k (.str y1))
abbrev W5 (F : T5) : WT := wrap s5 (G5 F)
theorem k5 (F12 : T12) (F13 : T13) (F14 : T14) (β : Type) (e : argsT s5) (k : V → Option β) : fnK cfg (tabL [(12, W12 F12), (13, W13 F13), (14, W14 F14)]) noX 5 Tryz.f5 β (argsEnc s5 e) k = G5 (P5 F12 F13 F14 ) β e k := by kernel_rfl
theorem ok5 : FnOk D 5 (W5 F5) := fn_okW [(12, W12 F12), (13, W13 F13), (14, W14 F14)] noX (fun _ => rfl) Tryz.func5 rfl (tabL_cons ok12 (tabL_cons ok13 (tabL_cons ok14 tabL_nil))) (k5 F12 F13 F14 )

/-- strconv.Itoa -/
abbrev T37 : Type 1 := (β : Type) → Int → (List UInt8 → Option β) → Option β
def F37 : T37 := itoaK
abbrev s37 : List (Bool × List CK) := [(false, [.int .i64])]
def G37 (F : T37) (β : Type) (e : (Int × Unit) × Unit) (k : V → Option β) : Option β := F β e.1.1 (fun y1 => k (.str y1))
abbrev W37 (F : T37) : WT := wrap s37 (G37 F)
theorem ok37 : FnOk D 37 (W37 F37) := ok_itoa (fun _ => rfl)

/-- impl.FormatInt -/
abbrev T18 : Type 1 := (β : Type) → Int → (List UInt8 → Option β) → Option β
def P18 (F37 : T37) : T18 := fun β n k =>
 F37 _ n fun t1 =>
 k t1
def F18 : T18 := P18 F37 
abbrev s18 : List (Bool × List CK) := [(false, [.int .i64])]
def G18 (F : T18) (β : Type) (e : (Int × Unit) × Unit) (k : V → Option β) : Option β := F β e.1.1 (fun y1 => k (.str y1))
abbrev W18 (F : T18) : WT := wrap s18 (G18 F)
theorem k18 (F37 : T37) (β : Type) (e : argsT s18) (k : V → Option β) : fnK cfg (tabL [(37, W37 F37)]) noX 18 Tryz.f18 β (argsEnc s18 e) k = G18 (P18 F37 ) β e k := by kernel_rfl
theorem ok18 : FnOk D 18 (W18 F18) := fn_okW [(37, W37 F37)] noX (fun _ => rfl) Tryz.func18 rfl (tabL_cons ok37 tabL_nil) (k18 F37 )

/-- impl.FreshEntries -/
abbrev T38 : Type 1 := (β : Type) → List V → Int → (Int → Option β) → Option β
def P38 : T38 := fun β c_Entries now k =>
 whileK (fun s1 =>
 br (decide ((lI s1 4) < (lI s1 3))) (
 chk (0 ≤ (lI s1 4)) <|
 idx true [.str, .str, .str, .int .i64, .int .i64, .str, .int .i64, .bool, .str, .int .i64] (lL s1 2) ((lI s1 4).toNat) fun (e2 : List UInt8 × List UInt8 × List UInt8 × Int × Int × List UInt8 × Int × Bool × List UInt8 × Int × Unit) =>
 br (decide (e2.2.2.2.2.2.2.2.2.2.1 ≥ (lI s1 0))) (
 some (.inl [.i (lI s1 0), .i (IntKind.wrap .i64 ((lI s1 1) + 1)), .l (lL s1 2), .i (lI s1 3), .i (IntKind.wrap .i64 ((lI s1 4) + 1))])) (
 some (.inl [.i (lI s1 0), .i (lI s1 1), .l (lL s1 2), .i (lI s1 3), .i (IntKind.wrap .i64 ((lI s1 4) + 1))]))) (
 some (.inr (0, [.i (lI s1 1)])))) [.i now, .i 0, .l c_Entries, .i (c_Entries.length : Int), .i 0] fun (r3 : Nat × List Leaf) =>
 k (lI r3.2 0)
def F38 : T38 := P38 
def X38 : Exits := fun i => lookN i [] [(3, [(.exit 0, xk 23 [(5, .int .i64 0)] [])])]
abbrev s38 : List (Bool × List CK) := [(true, [.sl 10 true]), (false, [.int .i64])]
def G38 (F : T38) (β : Type) (e : (List V × Unit) × (Int × Unit) × Unit) (k : V → Option β) : Option β := F β e.1.1 e.2.1.1 (fun y1 => k (.int .i64 y1))
abbrev W38 (F : T38) : WT := wrap s38 (G38 F)
theorem k38 (β : Type) (e : argsT s38) (k : V → Option β) : fnK cfg (tabL []) X38 38 Tryz.f38 β (argsEnc s38 e) k = G38 (P38 ) β e k := by kernel_rfl
theorem ok38 : FnOk D 38 (W38 F38) := fn_okW [] X38 (fun _ => rfl) Tryz.func38 rfl (tabL_nil) (k38 )

/-- impl.FormatCache -/
abbrev T19 : Type 1 := (β : Type) → List V → Int → (List UInt8 → Option β) → Option β
def P19 (F38 : T38) (F18 : T18) : T19 := fun β c_Entries now k =>
 F38 _ c_Entries now fun n1 =>
 F18 _ n1 fun t2 =>
 chk (t2.length + ([47] : List UInt8).length ≤ 9223372036854775807) <|
 F18 _ (c_Entries.length : Int) fun t3 =>
 chk ((t2 ++ [47]).length + t3.length ≤ 9223372036854775807) <|
 k ((t2 ++ [47]) ++ t3)
def F19 : T19 := P19 F38 F18 
abbrev s19 : List (Bool × List CK) := [(true, [.sl 10 true]), (false, [.int .i64])]
def G19 (F : T19) (β : Type) (e : (List V × Unit) × (Int × Unit) × Unit) (k : V → Option β) : Option β := F β e.1.1 e.2.1.1 (fun y1 => k (.str y1))
abbrev W19 (F : T19) : WT := wrap s19 (G19 F)
theorem k19 (F38 : T38) (F18 : T18) (β : Type) (e : argsT s19) (k : V → Option β) : fnK cfg (tabL [(38, W38 F38), (18, W18 F18)]) noX 19 Tryz.f19 β (argsEnc s19 e) k = G19 (P19 F38 F18 ) β e k := by kernel_rfl
theorem ok19 : FnOk D 19 (W19 F19) := fn_okW [(38, W38 F38), (18, W18 F18)] noX (fun _ => rfl) Tryz.func19 rfl (tabL_cons ok38 (tabL_cons ok18 tabL_nil)) (k19 F38 F18 )

/-- impl.countGuesses -/
abbrev T39 : Type 1 := (β : Type) → List V → (Int → Option β) → Option β
def P39 : T39 := fun β l k =>
 whileK (fun s1 =>
 br (decide ((lI s1 3) < (lI s1 2))) (
 chk (0 ≤ (lI s1 3)) <|
 idx true [.str, .str, .str, .bool] (lL s1 1) ((lI s1 3).toNat) fun (e2 : List UInt8 × List UInt8 × List UInt8 × Bool × Unit) =>
 br e2.2.2.2.1 (
 some (.inl [.i (IntKind.wrap .i64 ((lI s1 0) + 1)), .l (lL s1 1), .i (lI s1 2), .i (IntKind.wrap .i64 ((lI s1 3) + 1))])) (
 some (.inl [.i (lI s1 0), .l (lL s1 1), .i (lI s1 2), .i (IntKind.wrap .i64 ((lI s1 3) + 1))]))) (
 some (.inr (0, [.i (lI s1 0)])))) [.i 0, .l l, .i (l.length : Int), .i 0] fun (r3 : Nat × List Leaf) =>
 k (lI r3.2 0)
def F39 : T39 := P39 
def X39 : Exits := fun i => lookN i [] [(3, [(.exit 0, xk 18 [(3, .int .i64 0)] [])])]
abbrev s39 : List (Bool × List CK) := [(false, [.sl 4 true])]
def G39 (F : T39) (β : Type) (e : (List V × Unit) × Unit) (k : V → Option β) : Option β := F β e.1.1 (fun y1 => k (.int .i64 y1))
abbrev W39 (F : T39) : WT := wrap s39 (G39 F)
theorem k39 (β : Type) (e : argsT s39) (k : V → Option β) : fnK cfg (tabL []) X39 39 Tryz.f39 β (argsEnc s39 e) k = G39 (P39 ) β e k := by kernel_rfl
theorem ok39 : FnOk D 39 (W39 F39) := fn_okW [] X39 (fun _ => rfl) Tryz.func39 rfl (tabL_nil) (k39 )

/-- impl.CountGuesses -/
abbrev T20 : Type 1 := (β : Type) → List V → List V → List V → Int → (Int → Option β) → Option β
def P20 (F39 : T39) : T20 := fun β n_Servers n_Cache_Entries n_Log n_Now k =>
 F39 _ n_Log fun n1 =>
 k n1
def F20 : T20 := P20 F39 
abbrev s20 : List (Bool × List CK) := [(true, [.sl 2 false, .sl 10 true, .sl 4 true, .int .i64])]
def G20 (F : T20) (β : Type) (e : (List V × List V × List V × Int × Unit) × Unit) (k : V → Option β) : Option β := F β e.1.1 e.1.2.1 e.1.2.2.1 e.1.2.2.2.1 (fun y1 => k (.int .i64 y1))
abbrev W20 (F : T20) : WT := wrap s20 (G20 F)
theorem k20 (F39 : T39) (β : Type) (e : argsT s20) (k : V → Option β) : fnK cfg (tabL [(39, W39 F39)]) noX 20 Tryz.f20 β (argsEnc s20 e) k = G20 (P20 F39 ) β e k := by kernel_rfl
theorem ok20 : FnOk D 20 (W20 F20) := fn_okW [(39, W39 F39)] noX (fun _ => rfl) Tryz.func20 rfl (tabL_cons ok39 tabL_nil) (k20 F39 )

/-- impl.FormatWorld -/
abbrev T7 : Type 1 := (β : Type) → List V → List V → List V → Int → List V → Int → Bool → List UInt8 → List UInt8 → Bool → List V → List V → List V → List UInt8 → List UInt8 → List V → Bool → List V → List V → List V → List V → List V → Int → Int → Int → Int → List V → List V → Bool → List V → List V → Int → Bool → (List UInt8 → Option β) → Option β
def P7 (F18 : T18) (F19 : T19) (F20 : T20) : T7 := fun β w_Net_Servers w_Net_Cache_Entries w_Net_Log w_Net_Now w_Tab_Visits w_Tab_At w_Hidden_Ready w_Hidden_Page_Addr_Host w_Hidden_Page_Addr_Path w_Hidden_Page_Policy_Set w_Hidden_Page_Policy_Scripts w_Hidden_Page_Policy_Styles w_Hidden_Page_Policy_Images w_Hidden_Page_Policy_Nonce w_Hidden_Page_Tok_Rest w_Hidden_Page_Queue w_Hidden_Page_Ended w_Hidden_Page_Builder_Nodes w_Hidden_Page_Builder_Open w_Hidden_Page_Slots w_Hidden_Page_Mods w_Hidden_Page_Entries w_Hidden_Page_Block w_Hidden_Page_Inline w_Hidden_Page_Deferred w_Hidden_Page_Entered w_Hidden_Page_Ran w_Hidden_Page_Log w_Hidden_Page_Loaded w_Hidden_Taken w_Hidden_Servers w_Hidden_Now w_Fast k =>
 br w_Fast (
 F18 _ w_Net_Now fun t1 =>
 chk (t1.length + ([32] : List UInt8).length ≤ 9223372036854775807) <|
 F19 _ w_Net_Cache_Entries w_Net_Now fun t2 =>
 chk ((t1 ++ [32]).length + t2.length ≤ 9223372036854775807) <|
 chk (((t1 ++ [32]) ++ t2).length + ([32] : List UInt8).length ≤ 9223372036854775807) <|
 F18 _ (w_Net_Log.length : Int) fun t3 =>
 chk ((((t1 ++ [32]) ++ t2) ++ [32]).length + t3.length ≤ 9223372036854775807) <|
 chk (((((t1 ++ [32]) ++ t2) ++ [32]) ++ t3).length + ([32] : List UInt8).length ≤ 9223372036854775807) <|
 F20 _ w_Net_Servers w_Net_Cache_Entries w_Net_Log w_Net_Now fun n4 =>
 F18 _ n4 fun t5 =>
 chk ((((((t1 ++ [32]) ++ t2) ++ [32]) ++ t3) ++ [32]).length + t5.length ≤ 9223372036854775807) <|
 chk (((((((t1 ++ [32]) ++ t2) ++ [32]) ++ t3) ++ [32]) ++ t5).length + ([32] : List UInt8).length ≤ 9223372036854775807) <|
 chk ((((((((t1 ++ [32]) ++ t2) ++ [32]) ++ t3) ++ [32]) ++ t5) ++ [32]).length + ([102, 97, 115, 116] : List UInt8).length ≤ 9223372036854775807) <|
 br w_Hidden_Ready (
 chk (((((((((t1 ++ [32]) ++ t2) ++ [32]) ++ t3) ++ [32]) ++ t5) ++ [32]) ++ [102, 97, 115, 116]).length + ([32, 114, 101, 97, 100, 121] : List UInt8).length ≤ 9223372036854775807) <|
 k (((((((((t1 ++ [32]) ++ t2) ++ [32]) ++ t3) ++ [32]) ++ t5) ++ [32]) ++ [102, 97, 115, 116]) ++ [32, 114, 101, 97, 100, 121])) (
 k ((((((((t1 ++ [32]) ++ t2) ++ [32]) ++ t3) ++ [32]) ++ t5) ++ [32]) ++ [102, 97, 115, 116]))) (
 F18 _ w_Net_Now fun t6 =>
 chk (t6.length + ([32] : List UInt8).length ≤ 9223372036854775807) <|
 F19 _ w_Net_Cache_Entries w_Net_Now fun t7 =>
 chk ((t6 ++ [32]).length + t7.length ≤ 9223372036854775807) <|
 chk (((t6 ++ [32]) ++ t7).length + ([32] : List UInt8).length ≤ 9223372036854775807) <|
 F18 _ (w_Net_Log.length : Int) fun t8 =>
 chk ((((t6 ++ [32]) ++ t7) ++ [32]).length + t8.length ≤ 9223372036854775807) <|
 chk (((((t6 ++ [32]) ++ t7) ++ [32]) ++ t8).length + ([32] : List UInt8).length ≤ 9223372036854775807) <|
 F20 _ w_Net_Servers w_Net_Cache_Entries w_Net_Log w_Net_Now fun n9 =>
 F18 _ n9 fun t10 =>
 chk ((((((t6 ++ [32]) ++ t7) ++ [32]) ++ t8) ++ [32]).length + t10.length ≤ 9223372036854775807) <|
 chk (((((((t6 ++ [32]) ++ t7) ++ [32]) ++ t8) ++ [32]) ++ t10).length + ([32] : List UInt8).length ≤ 9223372036854775807) <|
 chk ((((((((t6 ++ [32]) ++ t7) ++ [32]) ++ t8) ++ [32]) ++ t10) ++ [32]).length + ([115, 108, 111, 119] : List UInt8).length ≤ 9223372036854775807) <|
 br w_Hidden_Ready (
 chk (((((((((t6 ++ [32]) ++ t7) ++ [32]) ++ t8) ++ [32]) ++ t10) ++ [32]) ++ [115, 108, 111, 119]).length + ([32, 114, 101, 97, 100, 121] : List UInt8).length ≤ 9223372036854775807) <|
 k (((((((((t6 ++ [32]) ++ t7) ++ [32]) ++ t8) ++ [32]) ++ t10) ++ [32]) ++ [115, 108, 111, 119]) ++ [32, 114, 101, 97, 100, 121])) (
 k ((((((((t6 ++ [32]) ++ t7) ++ [32]) ++ t8) ++ [32]) ++ t10) ++ [32]) ++ [115, 108, 111, 119])))
def F7 : T7 := P7 F18 F19 F20 
abbrev s7 : List (Bool × List CK) := [(true, [.sl 2 false, .sl 10 true, .sl 4 true, .int .i64, .sl 25 false, .int .i64, .bool, .str, .str, .bool, .sl 1 true, .sl 1 true, .sl 1 true, .str, .str, .sl 4 false, .bool, .sl 4 false, .sl 1 true, .sl 8 true, .sl 5 true, .sl 2 true, .int .i64, .int .i64, .int .i64, .int .i64, .sl 2 true, .sl 1 true, .bool, .sl 8 true, .sl 2 false, .int .i64, .bool])]
def G7 (F : T7) (β : Type) (e : (List V × List V × List V × Int × List V × Int × Bool × List UInt8 × List UInt8 × Bool × List V × List V × List V × List UInt8 × List UInt8 × List V × Bool × List V × List V × List V × List V × List V × Int × Int × Int × Int × List V × List V × Bool × List V × List V × Int × Bool × Unit) × Unit) (k : V → Option β) : Option β := let a0_0 := e.1; let a0_1 := a0_0.2; let a0_2 := a0_1.2; let a0_3 := a0_2.2; let a0_4 := a0_3.2; let a0_5 := a0_4.2; let a0_6 := a0_5.2; let a0_7 := a0_6.2; let a0_8 := a0_7.2; let a0_9 := a0_8.2; let a0_10 := a0_9.2; let a0_11 := a0_10.2; let a0_12 := a0_11.2; let a0_13 := a0_12.2; let a0_14 := a0_13.2; let a0_15 := a0_14.2; let a0_16 := a0_15.2; let a0_17 := a0_16.2; let a0_18 := a0_17.2; let a0_19 := a0_18.2; let a0_20 := a0_19.2; let a0_21 := a0_20.2; let a0_22 := a0_21.2; let a0_23 := a0_22.2; let a0_24 := a0_23.2; let a0_25 := a0_24.2; let a0_26 := a0_25.2; let a0_27 := a0_26.2; let a0_28 := a0_27.2; let a0_29 := a0_28.2; let a0_30 := a0_29.2; let a0_31 := a0_30.2; let a0_32 := a0_31.2; F β a0_0.1 a0_1.1 a0_2.1 a0_3.1 a0_4.1 a0_5.1 a0_6.1 a0_7.1 a0_8.1 a0_9.1 a0_10.1 a0_11.1 a0_12.1 a0_13.1 a0_14.1 a0_15.1 a0_16.1 a0_17.1 a0_18.1 a0_19.1 a0_20.1 a0_21.1 a0_22.1 a0_23.1 a0_24.1 a0_25.1 a0_26.1 a0_27.1 a0_28.1 a0_29.1 a0_30.1 a0_31.1 a0_32.1 (fun y1 => k (.str y1))
abbrev W7 (F : T7) : WT := wrap s7 (G7 F)
theorem k7 (F18 : T18) (F19 : T19) (F20 : T20) (β : Type) (e : argsT s7) (k : V → Option β) : fnK cfg (tabL [(18, W18 F18), (19, W19 F19), (20, W20 F20)]) noX 7 Tryz.f7 β (argsEnc s7 e) k = G7 (P7 F18 F19 F20 ) β e k := by kernel_rfl
theorem ok7 : FnOk D 7 (W7 F7) := fn_okW [(18, W18 F18), (19, W19 F19), (20, W20 F20)] noX (fun _ => rfl) Tryz.func7 rfl (tabL_cons ok18 (tabL_cons ok19 (tabL_cons ok20 tabL_nil))) (k7 F18 F19 F20 )

/-- laws.eqResponse -/
abbrev T113 : Type 1 := (β : Type) → Int → Int → List UInt8 → Int → Bool → List UInt8 → Int → Int → List UInt8 → Int → Bool → List UInt8 → (Bool → Option β) → Option β
def P113 : T113 := fun β a_Status a_Kind a_Body a_Age a_Shares a_Policy b_Status b_Kind b_Body b_Age b_Shares b_Policy k =>
 br (a_Status != b_Status) (
 k false) (
 br (a_Kind != b_Kind) (
 k false) (
 br (!(a_Body == b_Body)) (
 k false) (
 br (a_Age != b_Age) (
 k false) (
 br (!(a_Shares == b_Shares)) (
 k false) (
 br (!(a_Policy == b_Policy)) (
 k false) (
 k true))))))
def F113 : T113 := P113 
abbrev s113 : List (Bool × List CK) := [(true, [.int .i64, .int .i64, .str, .int .i64, .bool, .str]), (true, [.int .i64, .int .i64, .str, .int .i64, .bool, .str])]
def G113 (F : T113) (β : Type) (e : (Int × Int × List UInt8 × Int × Bool × List UInt8 × Unit) × (Int × Int × List UInt8 × Int × Bool × List UInt8 × Unit) × Unit) (k : V → Option β) : Option β := let a0_0 := e.1; let a0_1 := a0_0.2; let a0_2 := a0_1.2; let a0_3 := a0_2.2; let a0_4 := a0_3.2; let a0_5 := a0_4.2; let a1_0 := e.2.1; let a1_1 := a1_0.2; let a1_2 := a1_1.2; let a1_3 := a1_2.2; let a1_4 := a1_3.2; let a1_5 := a1_4.2; F β a0_0.1 a0_1.1 a0_2.1 a0_3.1 a0_4.1 a0_5.1 a1_0.1 a1_1.1 a1_2.1 a1_3.1 a1_4.1 a1_5.1 (fun y1 => k (.bool y1))
abbrev W113 (F : T113) : WT := wrap s113 (G113 F)
theorem k113 (β : Type) (e : argsT s113) (k : V → Option β) : fnK cfg (tabL []) noX 113 Tryz.f113 β (argsEnc s113 e) k = G113 (P113 ) β e k := by kernel_rfl
theorem ok113 : FnOk D 113 (W113 F113) := fn_okW [] noX (fun _ => rfl) Tryz.func113 rfl (tabL_nil) (k113 )

/-- laws.eqFile -/
abbrev T124 : Type 1 := (β : Type) → List UInt8 → Int → Int → List UInt8 → Int → Bool → List UInt8 → List UInt8 → Int → Int → List UInt8 → Int → Bool → List UInt8 → (Bool → Option β) → Option β
def P124 (F113 : T113) : T124 := fun β a_Path a_Response_Status a_Response_Kind a_Response_Body a_Response_Age a_Response_Shares a_Response_Policy b_Path b_Response_Status b_Response_Kind b_Response_Body b_Response_Age b_Response_Shares b_Response_Policy k =>
 br (!(a_Path == b_Path)) (
 k false) (
 F113 _ a_Response_Status a_Response_Kind a_Response_Body a_Response_Age a_Response_Shares a_Response_Policy b_Response_Status b_Response_Kind b_Response_Body b_Response_Age b_Response_Shares b_Response_Policy fun b1 =>
 br (!b1) (
 k false) (
 k true))
def F124 : T124 := P124 F113 
abbrev s124 : List (Bool × List CK) := [(true, [.str, .int .i64, .int .i64, .str, .int .i64, .bool, .str]), (true, [.str, .int .i64, .int .i64, .str, .int .i64, .bool, .str])]
def G124 (F : T124) (β : Type) (e : (List UInt8 × Int × Int × List UInt8 × Int × Bool × List UInt8 × Unit) × (List UInt8 × Int × Int × List UInt8 × Int × Bool × List UInt8 × Unit) × Unit) (k : V → Option β) : Option β := let a0_0 := e.1; let a0_1 := a0_0.2; let a0_2 := a0_1.2; let a0_3 := a0_2.2; let a0_4 := a0_3.2; let a0_5 := a0_4.2; let a0_6 := a0_5.2; let a1_0 := e.2.1; let a1_1 := a1_0.2; let a1_2 := a1_1.2; let a1_3 := a1_2.2; let a1_4 := a1_3.2; let a1_5 := a1_4.2; let a1_6 := a1_5.2; F β a0_0.1 a0_1.1 a0_2.1 a0_3.1 a0_4.1 a0_5.1 a0_6.1 a1_0.1 a1_1.1 a1_2.1 a1_3.1 a1_4.1 a1_5.1 a1_6.1 (fun y1 => k (.bool y1))
abbrev W124 (F : T124) : WT := wrap s124 (G124 F)
theorem k124 (F113 : T113) (β : Type) (e : argsT s124) (k : V → Option β) : fnK cfg (tabL [(113, W113 F113)]) noX 124 Tryz.f124 β (argsEnc s124 e) k = G124 (P124 F113 ) β e k := by kernel_rfl
theorem ok124 : FnOk D 124 (W124 F124) := fn_okW [(113, W113 F113)] noX (fun _ => rfl) Tryz.func124 rfl (tabL_cons ok113 tabL_nil) (k124 F113 )

/-- laws.eqFileS -/
abbrev T106 : Type 1 := (β : Type) → List V → List V → (Bool → Option β) → Option β
def P106 (F124 : T124) : T106 := fun β a b k =>
 br ((a.length : Int) != (b.length : Int)) (
 k false) (
 whileK (fun s1 =>
 br (decide ((lI s1 2) < ((lL s1 0).length : Int))) (
 chk (0 ≤ (lI s1 2)) <|
 idx true [.str, .int .i64, .int .i64, .str, .int .i64, .bool, .str] (lL s1 0) ((lI s1 2).toNat) fun (e2 : List UInt8 × Int × Int × List UInt8 × Int × Bool × List UInt8 × Unit) =>
 chk (0 ≤ (lI s1 2)) <|
 idx true [.str, .int .i64, .int .i64, .str, .int .i64, .bool, .str] (lL s1 1) ((lI s1 2).toNat) fun (e3 : List UInt8 × Int × Int × List UInt8 × Int × Bool × List UInt8 × Unit) =>
 F124 _ e2.1 e2.2.1 e2.2.2.1 e2.2.2.2.1 e2.2.2.2.2.1 e2.2.2.2.2.2.1 e2.2.2.2.2.2.2.1 e3.1 e3.2.1 e3.2.2.1 e3.2.2.2.1 e3.2.2.2.2.1 e3.2.2.2.2.2.1 e3.2.2.2.2.2.2.1 fun b4 =>
 br (!b4) (
 some (.inr (0, [.b false]))) (
 some (.inl [.l (lL s1 0), .l (lL s1 1), .i (IntKind.wrap .i64 ((lI s1 2) + 1))]))) (
 some (.inr (1, [])))) [.l a, .l b, .i 0] fun (r5 : Nat × List Leaf) =>
 if r5.1 = 0 then
 k (lB r5.2 0)
 else
 k true)
def F106 : T106 := P106 F124 
def X106 : Exits := fun i => lookN i [] [(4, [(.ret, xk 27 [(4, .bool false)] []), (.exit 0, xk 27 [] [])])]
abbrev s106 : List (Bool × List CK) := [(false, [.sl 7 true]), (false, [.sl 7 true])]
def G106 (F : T106) (β : Type) (e : (List V × Unit) × (List V × Unit) × Unit) (k : V → Option β) : Option β := F β e.1.1 e.2.1.1 (fun y1 => k (.bool y1))
abbrev W106 (F : T106) : WT := wrap s106 (G106 F)
theorem k106 (F124 : T124) (β : Type) (e : argsT s106) (k : V → Option β) : fnK cfg (tabL [(124, W124 F124)]) X106 106 Tryz.f106 β (argsEnc s106 e) k = G106 (P106 F124 ) β e k := by kernel_rfl
theorem ok106 : FnOk D 106 (W106 F106) := fn_okW [(124, W124 F124)] X106 (fun _ => rfl) Tryz.func106 rfl (tabL_cons ok124 tabL_nil) (k106 F124 )

/-- laws.eqServer -/
abbrev T75 : Type 1 := (β : Type) → List UInt8 → List V → List UInt8 → List V → (Bool → Option β) → Option β
def P75 (F106 : T106) : T75 := fun β a_Host a_Files b_Host b_Files k =>
 br (!(a_Host == b_Host)) (
 k false) (
 F106 _ a_Files b_Files fun b1 =>
 br (!b1) (
 k false) (
 k true))
def F75 : T75 := P75 F106 
abbrev s75 : List (Bool × List CK) := [(true, [.str, .sl 7 true]), (true, [.str, .sl 7 true])]
def G75 (F : T75) (β : Type) (e : (List UInt8 × List V × Unit) × (List UInt8 × List V × Unit) × Unit) (k : V → Option β) : Option β := F β e.1.1 e.1.2.1 e.2.1.1 e.2.1.2.1 (fun y1 => k (.bool y1))
abbrev W75 (F : T75) : WT := wrap s75 (G75 F)
theorem k75 (F106 : T106) (β : Type) (e : argsT s75) (k : V → Option β) : fnK cfg (tabL [(106, W106 F106)]) noX 75 Tryz.f75 β (argsEnc s75 e) k = G75 (P75 F106 ) β e k := by kernel_rfl
theorem ok75 : FnOk D 75 (W75 F75) := fn_okW [(106, W106 F106)] noX (fun _ => rfl) Tryz.func75 rfl (tabL_cons ok106 tabL_nil) (k75 F106 )

/-- laws.eqServerS -/
abbrev T40 : Type 1 := (β : Type) → List V → List V → (Bool → Option β) → Option β
def P40 (F75 : T75) : T40 := fun β a b k =>
 br ((a.length : Int) != (b.length : Int)) (
 k false) (
 whileK (fun s1 =>
 br (decide ((lI s1 2) < ((lL s1 0).length : Int))) (
 chk (0 ≤ (lI s1 2)) <|
 idx true [.str, .sl 7 true] (lL s1 0) ((lI s1 2).toNat) fun (e2 : List UInt8 × List V × Unit) =>
 chk (0 ≤ (lI s1 2)) <|
 idx true [.str, .sl 7 true] (lL s1 1) ((lI s1 2).toNat) fun (e3 : List UInt8 × List V × Unit) =>
 F75 _ e2.1 e2.2.1 e3.1 e3.2.1 fun b4 =>
 br (!b4) (
 some (.inr (0, [.b false]))) (
 some (.inl [.l (lL s1 0), .l (lL s1 1), .i (IntKind.wrap .i64 ((lI s1 2) + 1))]))) (
 some (.inr (1, [])))) [.l a, .l b, .i 0] fun (r5 : Nat × List Leaf) =>
 if r5.1 = 0 then
 k (lB r5.2 0)
 else
 k true)
def F40 : T40 := P40 F75 
def X40 : Exits := fun i => lookN i [] [(4, [(.ret, xk 27 [(4, .bool false)] []), (.exit 0, xk 27 [] [])])]
abbrev s40 : List (Bool × List CK) := [(false, [.sl 2 false]), (false, [.sl 2 false])]
def G40 (F : T40) (β : Type) (e : (List V × Unit) × (List V × Unit) × Unit) (k : V → Option β) : Option β := F β e.1.1 e.2.1.1 (fun y1 => k (.bool y1))
abbrev W40 (F : T40) : WT := wrap s40 (G40 F)
theorem k40 (F75 : T75) (β : Type) (e : argsT s40) (k : V → Option β) : fnK cfg (tabL [(75, W75 F75)]) X40 40 Tryz.f40 β (argsEnc s40 e) k = G40 (P40 F75 ) β e k := by kernel_rfl
theorem ok40 : FnOk D 40 (W40 F40) := fn_okW [(75, W75 F75)] X40 (fun _ => rfl) Tryz.func40 rfl (tabL_cons ok75 tabL_nil) (k40 F75 )

/-- laws.eqAddr -/
abbrev T79 : Type 1 := (β : Type) → List UInt8 → List UInt8 → List UInt8 → List UInt8 → (Bool → Option β) → Option β
def P79 : T79 := fun β a_Host a_Path b_Host b_Path k =>
 br (!(a_Host == b_Host)) (
 k false) (
 br (!(a_Path == b_Path)) (
 k false) (
 k true))
def F79 : T79 := P79 
abbrev s79 : List (Bool × List CK) := [(true, [.str, .str]), (true, [.str, .str])]
def G79 (F : T79) (β : Type) (e : (List UInt8 × List UInt8 × Unit) × (List UInt8 × List UInt8 × Unit) × Unit) (k : V → Option β) : Option β := F β e.1.1 e.1.2.1 e.2.1.1 e.2.1.2.1 (fun y1 => k (.bool y1))
abbrev W79 (F : T79) : WT := wrap s79 (G79 F)
theorem k79 (β : Type) (e : argsT s79) (k : V → Option β) : fnK cfg (tabL []) noX 79 Tryz.f79 β (argsEnc s79 e) k = G79 (P79 ) β e k := by kernel_rfl
theorem ok79 : FnOk D 79 (W79 F79) := fn_okW [] noX (fun _ => rfl) Tryz.func79 rfl (tabL_nil) (k79 )

/-- laws.eqEntry -/
abbrev T107 : Type 1 := (β : Type) → List UInt8 → List UInt8 → List UInt8 → Int → Int → List UInt8 → Int → Bool → List UInt8 → Int → List UInt8 → List UInt8 → List UInt8 → Int → Int → List UInt8 → Int → Bool → List UInt8 → Int → (Bool → Option β) → Option β
def P107 (F79 : T79) (F113 : T113) : T107 := fun β a_Top a_To_Host a_To_Path a_Response_Status a_Response_Kind a_Response_Body a_Response_Age a_Response_Shares a_Response_Policy a_Until b_Top b_To_Host b_To_Path b_Response_Status b_Response_Kind b_Response_Body b_Response_Age b_Response_Shares b_Response_Policy b_Until k =>
 br (!(a_Top == b_Top)) (
 k false) (
 F79 _ a_To_Host a_To_Path b_To_Host b_To_Path fun b1 =>
 br (!b1) (
 k false) (
 F113 _ a_Response_Status a_Response_Kind a_Response_Body a_Response_Age a_Response_Shares a_Response_Policy b_Response_Status b_Response_Kind b_Response_Body b_Response_Age b_Response_Shares b_Response_Policy fun b2 =>
 br (!b2) (
 k false) (
 br (a_Until != b_Until) (
 k false) (
 k true))))
def F107 : T107 := P107 F79 F113 
abbrev s107 : List (Bool × List CK) := [(true, [.str, .str, .str, .int .i64, .int .i64, .str, .int .i64, .bool, .str, .int .i64]), (true, [.str, .str, .str, .int .i64, .int .i64, .str, .int .i64, .bool, .str, .int .i64])]
def G107 (F : T107) (β : Type) (e : (List UInt8 × List UInt8 × List UInt8 × Int × Int × List UInt8 × Int × Bool × List UInt8 × Int × Unit) × (List UInt8 × List UInt8 × List UInt8 × Int × Int × List UInt8 × Int × Bool × List UInt8 × Int × Unit) × Unit) (k : V → Option β) : Option β := let a0_0 := e.1; let a0_1 := a0_0.2; let a0_2 := a0_1.2; let a0_3 := a0_2.2; let a0_4 := a0_3.2; let a0_5 := a0_4.2; let a0_6 := a0_5.2; let a0_7 := a0_6.2; let a0_8 := a0_7.2; let a0_9 := a0_8.2; let a1_0 := e.2.1; let a1_1 := a1_0.2; let a1_2 := a1_1.2; let a1_3 := a1_2.2; let a1_4 := a1_3.2; let a1_5 := a1_4.2; let a1_6 := a1_5.2; let a1_7 := a1_6.2; let a1_8 := a1_7.2; let a1_9 := a1_8.2; F β a0_0.1 a0_1.1 a0_2.1 a0_3.1 a0_4.1 a0_5.1 a0_6.1 a0_7.1 a0_8.1 a0_9.1 a1_0.1 a1_1.1 a1_2.1 a1_3.1 a1_4.1 a1_5.1 a1_6.1 a1_7.1 a1_8.1 a1_9.1 (fun y1 => k (.bool y1))
abbrev W107 (F : T107) : WT := wrap s107 (G107 F)
theorem k107 (F79 : T79) (F113 : T113) (β : Type) (e : argsT s107) (k : V → Option β) : fnK cfg (tabL [(79, W79 F79), (113, W113 F113)]) noX 107 Tryz.f107 β (argsEnc s107 e) k = G107 (P107 F79 F113 ) β e k := by kernel_rfl
theorem ok107 : FnOk D 107 (W107 F107) := fn_okW [(79, W79 F79), (113, W113 F113)] noX (fun _ => rfl) Tryz.func107 rfl (tabL_cons ok79 (tabL_cons ok113 tabL_nil)) (k107 F79 F113 )

/-- laws.eqEntryS -/
abbrev T76 : Type 1 := (β : Type) → List V → List V → (Bool → Option β) → Option β
def P76 (F107 : T107) : T76 := fun β a b k =>
 br ((a.length : Int) != (b.length : Int)) (
 k false) (
 whileK (fun s1 =>
 br (decide ((lI s1 2) < ((lL s1 0).length : Int))) (
 chk (0 ≤ (lI s1 2)) <|
 idx true [.str, .str, .str, .int .i64, .int .i64, .str, .int .i64, .bool, .str, .int .i64] (lL s1 0) ((lI s1 2).toNat) fun (e2 : List UInt8 × List UInt8 × List UInt8 × Int × Int × List UInt8 × Int × Bool × List UInt8 × Int × Unit) =>
 chk (0 ≤ (lI s1 2)) <|
 idx true [.str, .str, .str, .int .i64, .int .i64, .str, .int .i64, .bool, .str, .int .i64] (lL s1 1) ((lI s1 2).toNat) fun (e3 : List UInt8 × List UInt8 × List UInt8 × Int × Int × List UInt8 × Int × Bool × List UInt8 × Int × Unit) =>
 F107 _ e2.1 e2.2.1 e2.2.2.1 e2.2.2.2.1 e2.2.2.2.2.1 e2.2.2.2.2.2.1 e2.2.2.2.2.2.2.1 e2.2.2.2.2.2.2.2.1 e2.2.2.2.2.2.2.2.2.1 e2.2.2.2.2.2.2.2.2.2.1 e3.1 e3.2.1 e3.2.2.1 e3.2.2.2.1 e3.2.2.2.2.1 e3.2.2.2.2.2.1 e3.2.2.2.2.2.2.1 e3.2.2.2.2.2.2.2.1 e3.2.2.2.2.2.2.2.2.1 e3.2.2.2.2.2.2.2.2.2.1 fun b4 =>
 br (!b4) (
 some (.inr (0, [.b false]))) (
 some (.inl [.l (lL s1 0), .l (lL s1 1), .i (IntKind.wrap .i64 ((lI s1 2) + 1))]))) (
 some (.inr (1, [])))) [.l a, .l b, .i 0] fun (r5 : Nat × List Leaf) =>
 if r5.1 = 0 then
 k (lB r5.2 0)
 else
 k true)
def F76 : T76 := P76 F107 
def X76 : Exits := fun i => lookN i [] [(4, [(.ret, xk 27 [(4, .bool false)] []), (.exit 0, xk 27 [] [])])]
abbrev s76 : List (Bool × List CK) := [(false, [.sl 10 true]), (false, [.sl 10 true])]
def G76 (F : T76) (β : Type) (e : (List V × Unit) × (List V × Unit) × Unit) (k : V → Option β) : Option β := F β e.1.1 e.2.1.1 (fun y1 => k (.bool y1))
abbrev W76 (F : T76) : WT := wrap s76 (G76 F)
theorem k76 (F107 : T107) (β : Type) (e : argsT s76) (k : V → Option β) : fnK cfg (tabL [(107, W107 F107)]) X76 76 Tryz.f76 β (argsEnc s76 e) k = G76 (P76 F107 ) β e k := by kernel_rfl
theorem ok76 : FnOk D 76 (W76 F76) := fn_okW [(107, W107 F107)] X76 (fun _ => rfl) Tryz.func76 rfl (tabL_cons ok107 tabL_nil) (k76 F107 )

/-- laws.eqCache -/
abbrev T41 : Type 1 := (β : Type) → List V → List V → (Bool → Option β) → Option β
def P41 (F76 : T76) : T41 := fun β a_Entries b_Entries k =>
 F76 _ a_Entries b_Entries fun b1 =>
 br (!b1) (
 k false) (
 k true)
def F41 : T41 := P41 F76 
abbrev s41 : List (Bool × List CK) := [(true, [.sl 10 true]), (true, [.sl 10 true])]
def G41 (F : T41) (β : Type) (e : (List V × Unit) × (List V × Unit) × Unit) (k : V → Option β) : Option β := F β e.1.1 e.2.1.1 (fun y1 => k (.bool y1))
abbrev W41 (F : T41) : WT := wrap s41 (G41 F)
theorem k41 (F76 : T76) (β : Type) (e : argsT s41) (k : V → Option β) : fnK cfg (tabL [(76, W76 F76)]) noX 41 Tryz.f41 β (argsEnc s41 e) k = G41 (P41 F76 ) β e k := by kernel_rfl
theorem ok41 : FnOk D 41 (W41 F41) := fn_okW [(76, W76 F76)] noX (fun _ => rfl) Tryz.func41 rfl (tabL_cons ok76 tabL_nil) (k41 F76 )

/-- laws.eqSent -/
abbrev T77 : Type 1 := (β : Type) → List UInt8 → List UInt8 → List UInt8 → Bool → List UInt8 → List UInt8 → List UInt8 → Bool → (Bool → Option β) → Option β
def P77 (F79 : T79) : T77 := fun β a_Top a_To_Host a_To_Path a_Guess b_Top b_To_Host b_To_Path b_Guess k =>
 br (!(a_Top == b_Top)) (
 k false) (
 F79 _ a_To_Host a_To_Path b_To_Host b_To_Path fun b1 =>
 br (!b1) (
 k false) (
 br (!(a_Guess == b_Guess)) (
 k false) (
 k true)))
def F77 : T77 := P77 F79 
abbrev s77 : List (Bool × List CK) := [(true, [.str, .str, .str, .bool]), (true, [.str, .str, .str, .bool])]
def G77 (F : T77) (β : Type) (e : (List UInt8 × List UInt8 × List UInt8 × Bool × Unit) × (List UInt8 × List UInt8 × List UInt8 × Bool × Unit) × Unit) (k : V → Option β) : Option β := F β e.1.1 e.1.2.1 e.1.2.2.1 e.1.2.2.2.1 e.2.1.1 e.2.1.2.1 e.2.1.2.2.1 e.2.1.2.2.2.1 (fun y1 => k (.bool y1))
abbrev W77 (F : T77) : WT := wrap s77 (G77 F)
theorem k77 (F79 : T79) (β : Type) (e : argsT s77) (k : V → Option β) : fnK cfg (tabL [(79, W79 F79)]) noX 77 Tryz.f77 β (argsEnc s77 e) k = G77 (P77 F79 ) β e k := by kernel_rfl
theorem ok77 : FnOk D 77 (W77 F77) := fn_okW [(79, W79 F79)] noX (fun _ => rfl) Tryz.func77 rfl (tabL_cons ok79 tabL_nil) (k77 F79 )

/-- laws.eqSentS -/
abbrev T42 : Type 1 := (β : Type) → List V → List V → (Bool → Option β) → Option β
def P42 (F77 : T77) : T42 := fun β a b k =>
 br ((a.length : Int) != (b.length : Int)) (
 k false) (
 whileK (fun s1 =>
 br (decide ((lI s1 2) < ((lL s1 0).length : Int))) (
 chk (0 ≤ (lI s1 2)) <|
 idx true [.str, .str, .str, .bool] (lL s1 0) ((lI s1 2).toNat) fun (e2 : List UInt8 × List UInt8 × List UInt8 × Bool × Unit) =>
 chk (0 ≤ (lI s1 2)) <|
 idx true [.str, .str, .str, .bool] (lL s1 1) ((lI s1 2).toNat) fun (e3 : List UInt8 × List UInt8 × List UInt8 × Bool × Unit) =>
 F77 _ e2.1 e2.2.1 e2.2.2.1 e2.2.2.2.1 e3.1 e3.2.1 e3.2.2.1 e3.2.2.2.1 fun b4 =>
 br (!b4) (
 some (.inr (0, [.b false]))) (
 some (.inl [.l (lL s1 0), .l (lL s1 1), .i (IntKind.wrap .i64 ((lI s1 2) + 1))]))) (
 some (.inr (1, [])))) [.l a, .l b, .i 0] fun (r5 : Nat × List Leaf) =>
 if r5.1 = 0 then
 k (lB r5.2 0)
 else
 k true)
def F42 : T42 := P42 F77 
def X42 : Exits := fun i => lookN i [] [(4, [(.ret, xk 27 [(4, .bool false)] []), (.exit 0, xk 27 [] [])])]
abbrev s42 : List (Bool × List CK) := [(false, [.sl 4 true]), (false, [.sl 4 true])]
def G42 (F : T42) (β : Type) (e : (List V × Unit) × (List V × Unit) × Unit) (k : V → Option β) : Option β := F β e.1.1 e.2.1.1 (fun y1 => k (.bool y1))
abbrev W42 (F : T42) : WT := wrap s42 (G42 F)
theorem k42 (F77 : T77) (β : Type) (e : argsT s42) (k : V → Option β) : fnK cfg (tabL [(77, W77 F77)]) X42 42 Tryz.f42 β (argsEnc s42 e) k = G42 (P42 F77 ) β e k := by kernel_rfl
theorem ok42 : FnOk D 42 (W42 F42) := fn_okW [(77, W77 F77)] X42 (fun _ => rfl) Tryz.func42 rfl (tabL_cons ok77 tabL_nil) (k42 F77 )

/-- laws.eqNet -/
abbrev T21 : Type 1 := (β : Type) → List V → List V → List V → Int → List V → List V → List V → Int → (Bool → Option β) → Option β
def P21 (F40 : T40) (F41 : T41) (F42 : T42) : T21 := fun β a_Servers a_Cache_Entries a_Log a_Now b_Servers b_Cache_Entries b_Log b_Now k =>
 F40 _ a_Servers b_Servers fun b1 =>
 br (!b1) (
 k false) (
 F41 _ a_Cache_Entries b_Cache_Entries fun b2 =>
 br (!b2) (
 k false) (
 F42 _ a_Log b_Log fun b3 =>
 br (!b3) (
 k false) (
 br (a_Now != b_Now) (
 k false) (
 k true))))
def F21 : T21 := P21 F40 F41 F42 
abbrev s21 : List (Bool × List CK) := [(true, [.sl 2 false, .sl 10 true, .sl 4 true, .int .i64]), (true, [.sl 2 false, .sl 10 true, .sl 4 true, .int .i64])]
def G21 (F : T21) (β : Type) (e : (List V × List V × List V × Int × Unit) × (List V × List V × List V × Int × Unit) × Unit) (k : V → Option β) : Option β := F β e.1.1 e.1.2.1 e.1.2.2.1 e.1.2.2.2.1 e.2.1.1 e.2.1.2.1 e.2.1.2.2.1 e.2.1.2.2.2.1 (fun y1 => k (.bool y1))
abbrev W21 (F : T21) : WT := wrap s21 (G21 F)
theorem k21 (F40 : T40) (F41 : T41) (F42 : T42) (β : Type) (e : argsT s21) (k : V → Option β) : fnK cfg (tabL [(40, W40 F40), (41, W41 F41), (42, W42 F42)]) noX 21 Tryz.f21 β (argsEnc s21 e) k = G21 (P21 F40 F41 F42 ) β e k := by kernel_rfl
theorem ok21 : FnOk D 21 (W21 F21) := fn_okW [(40, W40 F40), (41, W41 F41), (42, W42 F42)] noX (fun _ => rfl) Tryz.func21 rfl (tabL_cons ok40 (tabL_cons ok41 (tabL_cons ok42 tabL_nil))) (k21 F40 F41 F42 )

/-- laws.eqStringS -/
abbrev T87 : Type 1 := (β : Type) → List V → List V → (Bool → Option β) → Option β
def P87 : T87 := fun β a b k =>
 br ((a.length : Int) != (b.length : Int)) (
 k false) (
 whileK (fun s1 =>
 br (decide ((lI s1 2) < ((lL s1 0).length : Int))) (
 chk (0 ≤ (lI s1 2)) <|
 idx false [.str] (lL s1 0) ((lI s1 2).toNat) fun (e2 : List UInt8 × Unit) =>
 chk (0 ≤ (lI s1 2)) <|
 idx false [.str] (lL s1 1) ((lI s1 2).toNat) fun (e3 : List UInt8 × Unit) =>
 br (!(e2.1 == e3.1)) (
 some (.inr (0, [.b false]))) (
 some (.inl [.l (lL s1 0), .l (lL s1 1), .i (IntKind.wrap .i64 ((lI s1 2) + 1))]))) (
 some (.inr (1, [])))) [.l a, .l b, .i 0] fun (r4 : Nat × List Leaf) =>
 if r4.1 = 0 then
 k (lB r4.2 0)
 else
 k true)
def F87 : T87 := P87 
def X87 : Exits := fun i => lookN i [] [(4, [(.ret, xk 26 [(4, .bool false)] []), (.exit 0, xk 26 [] [])])]
abbrev s87 : List (Bool × List CK) := [(false, [.sl 1 true]), (false, [.sl 1 true])]
def G87 (F : T87) (β : Type) (e : (List V × Unit) × (List V × Unit) × Unit) (k : V → Option β) : Option β := F β e.1.1 e.2.1.1 (fun y1 => k (.bool y1))
abbrev W87 (F : T87) : WT := wrap s87 (G87 F)
theorem k87 (β : Type) (e : argsT s87) (k : V → Option β) : fnK cfg (tabL []) X87 87 Tryz.f87 β (argsEnc s87 e) k = G87 (P87 ) β e k := by kernel_rfl
theorem ok87 : FnOk D 87 (W87 F87) := fn_okW [] X87 (fun _ => rfl) Tryz.func87 rfl (tabL_nil) (k87 )

/-- laws.eqPolicy -/
abbrev T80 : Type 1 := (β : Type) → Bool → List V → List V → List V → List UInt8 → Bool → List V → List V → List V → List UInt8 → (Bool → Option β) → Option β
def P80 (F87 : T87) : T80 := fun β a_Set a_Scripts a_Styles a_Images a_Nonce b_Set b_Scripts b_Styles b_Images b_Nonce k =>
 br (!(a_Set == b_Set)) (
 k false) (
 F87 _ a_Scripts b_Scripts fun b1 =>
 br (!b1) (
 k false) (
 F87 _ a_Styles b_Styles fun b2 =>
 br (!b2) (
 k false) (
 F87 _ a_Images b_Images fun b3 =>
 br (!b3) (
 k false) (
 br (!(a_Nonce == b_Nonce)) (
 k false) (
 k true)))))
def F80 : T80 := P80 F87 
abbrev s80 : List (Bool × List CK) := [(true, [.bool, .sl 1 true, .sl 1 true, .sl 1 true, .str]), (true, [.bool, .sl 1 true, .sl 1 true, .sl 1 true, .str])]
def G80 (F : T80) (β : Type) (e : (Bool × List V × List V × List V × List UInt8 × Unit) × (Bool × List V × List V × List V × List UInt8 × Unit) × Unit) (k : V → Option β) : Option β := let a0_0 := e.1; let a0_1 := a0_0.2; let a0_2 := a0_1.2; let a0_3 := a0_2.2; let a0_4 := a0_3.2; let a1_0 := e.2.1; let a1_1 := a1_0.2; let a1_2 := a1_1.2; let a1_3 := a1_2.2; let a1_4 := a1_3.2; F β a0_0.1 a0_1.1 a0_2.1 a0_3.1 a0_4.1 a1_0.1 a1_1.1 a1_2.1 a1_3.1 a1_4.1 (fun y1 => k (.bool y1))
abbrev W80 (F : T80) : WT := wrap s80 (G80 F)
theorem k80 (F87 : T87) (β : Type) (e : argsT s80) (k : V → Option β) : fnK cfg (tabL [(87, W87 F87)]) noX 80 Tryz.f80 β (argsEnc s80 e) k = G80 (P80 F87 ) β e k := by kernel_rfl
theorem ok80 : FnOk D 80 (W80 F80) := fn_okW [(87, W87 F87)] noX (fun _ => rfl) Tryz.func80 rfl (tabL_cons ok87 tabL_nil) (k80 F87 )

/-- laws.eqTokenizer -/
abbrev T81 : Type 1 := (β : Type) → List UInt8 → List UInt8 → (Bool → Option β) → Option β
def P81 : T81 := fun β a_Rest b_Rest k =>
 br (!(a_Rest == b_Rest)) (
 k false) (
 k true)
def F81 : T81 := P81 
abbrev s81 : List (Bool × List CK) := [(true, [.str]), (true, [.str])]
def G81 (F : T81) (β : Type) (e : (List UInt8 × Unit) × (List UInt8 × Unit) × Unit) (k : V → Option β) : Option β := F β e.1.1 e.2.1.1 (fun y1 => k (.bool y1))
abbrev W81 (F : T81) : WT := wrap s81 (G81 F)
theorem k81 (β : Type) (e : argsT s81) (k : V → Option β) : fnK cfg (tabL []) noX 81 Tryz.f81 β (argsEnc s81 e) k = G81 (P81 ) β e k := by kernel_rfl
theorem ok81 : FnOk D 81 (W81 F81) := fn_okW [] noX (fun _ => rfl) Tryz.func81 rfl (tabL_nil) (k81 )

/-- laws.eqAttr -/
abbrev T134 : Type 1 := (β : Type) → List UInt8 → List UInt8 → List UInt8 → List UInt8 → (Bool → Option β) → Option β
def P134 : T134 := fun β a_Name a_Value b_Name b_Value k =>
 br (!(a_Name == b_Name)) (
 k false) (
 br (!(a_Value == b_Value)) (
 k false) (
 k true))
def F134 : T134 := P134 
abbrev s134 : List (Bool × List CK) := [(true, [.str, .str]), (true, [.str, .str])]
def G134 (F : T134) (β : Type) (e : (List UInt8 × List UInt8 × Unit) × (List UInt8 × List UInt8 × Unit) × Unit) (k : V → Option β) : Option β := F β e.1.1 e.1.2.1 e.2.1.1 e.2.1.2.1 (fun y1 => k (.bool y1))
abbrev W134 (F : T134) : WT := wrap s134 (G134 F)
theorem k134 (β : Type) (e : argsT s134) (k : V → Option β) : fnK cfg (tabL []) noX 134 Tryz.f134 β (argsEnc s134 e) k = G134 (P134 ) β e k := by kernel_rfl
theorem ok134 : FnOk D 134 (W134 F134) := fn_okW [] noX (fun _ => rfl) Tryz.func134 rfl (tabL_nil) (k134 )

/-- laws.eqAttrS -/
abbrev T125 : Type 1 := (β : Type) → List V → List V → (Bool → Option β) → Option β
def P125 (F134 : T134) : T125 := fun β a b k =>
 br ((a.length : Int) != (b.length : Int)) (
 k false) (
 whileK (fun s1 =>
 br (decide ((lI s1 2) < ((lL s1 0).length : Int))) (
 chk (0 ≤ (lI s1 2)) <|
 idx true [.str, .str] (lL s1 0) ((lI s1 2).toNat) fun (e2 : List UInt8 × List UInt8 × Unit) =>
 chk (0 ≤ (lI s1 2)) <|
 idx true [.str, .str] (lL s1 1) ((lI s1 2).toNat) fun (e3 : List UInt8 × List UInt8 × Unit) =>
 F134 _ e2.1 e2.2.1 e3.1 e3.2.1 fun b4 =>
 br (!b4) (
 some (.inr (0, [.b false]))) (
 some (.inl [.l (lL s1 0), .l (lL s1 1), .i (IntKind.wrap .i64 ((lI s1 2) + 1))]))) (
 some (.inr (1, [])))) [.l a, .l b, .i 0] fun (r5 : Nat × List Leaf) =>
 if r5.1 = 0 then
 k (lB r5.2 0)
 else
 k true)
def F125 : T125 := P125 F134 
def X125 : Exits := fun i => lookN i [] [(4, [(.ret, xk 27 [(4, .bool false)] []), (.exit 0, xk 27 [] [])])]
abbrev s125 : List (Bool × List CK) := [(false, [.sl 2 true]), (false, [.sl 2 true])]
def G125 (F : T125) (β : Type) (e : (List V × Unit) × (List V × Unit) × Unit) (k : V → Option β) : Option β := F β e.1.1 e.2.1.1 (fun y1 => k (.bool y1))
abbrev W125 (F : T125) : WT := wrap s125 (G125 F)
theorem k125 (F134 : T134) (β : Type) (e : argsT s125) (k : V → Option β) : fnK cfg (tabL [(134, W134 F134)]) X125 125 Tryz.f125 β (argsEnc s125 e) k = G125 (P125 F134 ) β e k := by kernel_rfl
theorem ok125 : FnOk D 125 (W125 F125) := fn_okW [(134, W134 F134)] X125 (fun _ => rfl) Tryz.func125 rfl (tabL_cons ok134 tabL_nil) (k125 F134 )

/-- laws.eqToken -/
abbrev T108 : Type 1 := (β : Type) → Int → List UInt8 → List V → List UInt8 → Int → List UInt8 → List V → List UInt8 → (Bool → Option β) → Option β
def P108 (F125 : T125) : T108 := fun β a_Kind a_Name a_Attrs a_Text b_Kind b_Name b_Attrs b_Text k =>
 br (a_Kind != b_Kind) (
 k false) (
 br (!(a_Name == b_Name)) (
 k false) (
 F125 _ a_Attrs b_Attrs fun b1 =>
 br (!b1) (
 k false) (
 br (!(a_Text == b_Text)) (
 k false) (
 k true))))
def F108 : T108 := P108 F125 
abbrev s108 : List (Bool × List CK) := [(true, [.int .i64, .str, .sl 2 true, .str]), (true, [.int .i64, .str, .sl 2 true, .str])]
def G108 (F : T108) (β : Type) (e : (Int × List UInt8 × List V × List UInt8 × Unit) × (Int × List UInt8 × List V × List UInt8 × Unit) × Unit) (k : V → Option β) : Option β := F β e.1.1 e.1.2.1 e.1.2.2.1 e.1.2.2.2.1 e.2.1.1 e.2.1.2.1 e.2.1.2.2.1 e.2.1.2.2.2.1 (fun y1 => k (.bool y1))
abbrev W108 (F : T108) : WT := wrap s108 (G108 F)
theorem k108 (F125 : T125) (β : Type) (e : argsT s108) (k : V → Option β) : fnK cfg (tabL [(125, W125 F125)]) noX 108 Tryz.f108 β (argsEnc s108 e) k = G108 (P108 F125 ) β e k := by kernel_rfl
theorem ok108 : FnOk D 108 (W108 F108) := fn_okW [(125, W125 F125)] noX (fun _ => rfl) Tryz.func108 rfl (tabL_cons ok125 tabL_nil) (k108 F125 )

/-- laws.eqTokenS -/
abbrev T82 : Type 1 := (β : Type) → List V → List V → (Bool → Option β) → Option β
def P82 (F108 : T108) : T82 := fun β a b k =>
 br ((a.length : Int) != (b.length : Int)) (
 k false) (
 whileK (fun s1 =>
 br (decide ((lI s1 2) < ((lL s1 0).length : Int))) (
 chk (0 ≤ (lI s1 2)) <|
 idx true [.int .i64, .str, .sl 2 true, .str] (lL s1 0) ((lI s1 2).toNat) fun (e2 : Int × List UInt8 × List V × List UInt8 × Unit) =>
 chk (0 ≤ (lI s1 2)) <|
 idx true [.int .i64, .str, .sl 2 true, .str] (lL s1 1) ((lI s1 2).toNat) fun (e3 : Int × List UInt8 × List V × List UInt8 × Unit) =>
 F108 _ e2.1 e2.2.1 e2.2.2.1 e2.2.2.2.1 e3.1 e3.2.1 e3.2.2.1 e3.2.2.2.1 fun b4 =>
 br (!b4) (
 some (.inr (0, [.b false]))) (
 some (.inl [.l (lL s1 0), .l (lL s1 1), .i (IntKind.wrap .i64 ((lI s1 2) + 1))]))) (
 some (.inr (1, [])))) [.l a, .l b, .i 0] fun (r5 : Nat × List Leaf) =>
 if r5.1 = 0 then
 k (lB r5.2 0)
 else
 k true)
def F82 : T82 := P82 F108 
def X82 : Exits := fun i => lookN i [] [(4, [(.ret, xk 27 [(4, .bool false)] []), (.exit 0, xk 27 [] [])])]
abbrev s82 : List (Bool × List CK) := [(false, [.sl 4 false]), (false, [.sl 4 false])]
def G82 (F : T82) (β : Type) (e : (List V × Unit) × (List V × Unit) × Unit) (k : V → Option β) : Option β := F β e.1.1 e.2.1.1 (fun y1 => k (.bool y1))
abbrev W82 (F : T82) : WT := wrap s82 (G82 F)
theorem k82 (F108 : T108) (β : Type) (e : argsT s82) (k : V → Option β) : fnK cfg (tabL [(108, W108 F108)]) X82 82 Tryz.f82 β (argsEnc s82 e) k = G82 (P82 F108 ) β e k := by kernel_rfl
theorem ok82 : FnOk D 82 (W82 F82) := fn_okW [(108, W108 F108)] X82 (fun _ => rfl) Tryz.func82 rfl (tabL_cons ok108 tabL_nil) (k82 F108 )

/-- laws.eqNode -/
abbrev T126 : Type 1 := (β : Type) → List UInt8 → List UInt8 → Int → List V → List UInt8 → List UInt8 → Int → List V → (Bool → Option β) → Option β
def P126 (F125 : T125) : T126 := fun β a_Name a_Text a_Parent a_Attrs b_Name b_Text b_Parent b_Attrs k =>
 br (!(a_Name == b_Name)) (
 k false) (
 br (!(a_Text == b_Text)) (
 k false) (
 br (a_Parent != b_Parent) (
 k false) (
 F125 _ a_Attrs b_Attrs fun b1 =>
 br (!b1) (
 k false) (
 k true))))
def F126 : T126 := P126 F125 
abbrev s126 : List (Bool × List CK) := [(true, [.str, .str, .int .i64, .sl 2 true]), (true, [.str, .str, .int .i64, .sl 2 true])]
def G126 (F : T126) (β : Type) (e : (List UInt8 × List UInt8 × Int × List V × Unit) × (List UInt8 × List UInt8 × Int × List V × Unit) × Unit) (k : V → Option β) : Option β := F β e.1.1 e.1.2.1 e.1.2.2.1 e.1.2.2.2.1 e.2.1.1 e.2.1.2.1 e.2.1.2.2.1 e.2.1.2.2.2.1 (fun y1 => k (.bool y1))
abbrev W126 (F : T126) : WT := wrap s126 (G126 F)
theorem k126 (F125 : T125) (β : Type) (e : argsT s126) (k : V → Option β) : fnK cfg (tabL [(125, W125 F125)]) noX 126 Tryz.f126 β (argsEnc s126 e) k = G126 (P126 F125 ) β e k := by kernel_rfl
theorem ok126 : FnOk D 126 (W126 F126) := fn_okW [(125, W125 F125)] noX (fun _ => rfl) Tryz.func126 rfl (tabL_cons ok125 tabL_nil) (k126 F125 )

/-- laws.eqNodeS -/
abbrev T109 : Type 1 := (β : Type) → List V → List V → (Bool → Option β) → Option β
def P109 (F126 : T126) : T109 := fun β a b k =>
 br ((a.length : Int) != (b.length : Int)) (
 k false) (
 whileK (fun s1 =>
 br (decide ((lI s1 2) < ((lL s1 0).length : Int))) (
 chk (0 ≤ (lI s1 2)) <|
 idx true [.str, .str, .int .i64, .sl 2 true] (lL s1 0) ((lI s1 2).toNat) fun (e2 : List UInt8 × List UInt8 × Int × List V × Unit) =>
 chk (0 ≤ (lI s1 2)) <|
 idx true [.str, .str, .int .i64, .sl 2 true] (lL s1 1) ((lI s1 2).toNat) fun (e3 : List UInt8 × List UInt8 × Int × List V × Unit) =>
 F126 _ e2.1 e2.2.1 e2.2.2.1 e2.2.2.2.1 e3.1 e3.2.1 e3.2.2.1 e3.2.2.2.1 fun b4 =>
 br (!b4) (
 some (.inr (0, [.b false]))) (
 some (.inl [.l (lL s1 0), .l (lL s1 1), .i (IntKind.wrap .i64 ((lI s1 2) + 1))]))) (
 some (.inr (1, [])))) [.l a, .l b, .i 0] fun (r5 : Nat × List Leaf) =>
 if r5.1 = 0 then
 k (lB r5.2 0)
 else
 k true)
def F109 : T109 := P109 F126 
def X109 : Exits := fun i => lookN i [] [(4, [(.ret, xk 27 [(4, .bool false)] []), (.exit 0, xk 27 [] [])])]
abbrev s109 : List (Bool × List CK) := [(false, [.sl 4 false]), (false, [.sl 4 false])]
def G109 (F : T109) (β : Type) (e : (List V × Unit) × (List V × Unit) × Unit) (k : V → Option β) : Option β := F β e.1.1 e.2.1.1 (fun y1 => k (.bool y1))
abbrev W109 (F : T109) : WT := wrap s109 (G109 F)
theorem k109 (F126 : T126) (β : Type) (e : argsT s109) (k : V → Option β) : fnK cfg (tabL [(126, W126 F126)]) X109 109 Tryz.f109 β (argsEnc s109 e) k = G109 (P109 F126 ) β e k := by kernel_rfl
theorem ok109 : FnOk D 109 (W109 F109) := fn_okW [(126, W126 F126)] X109 (fun _ => rfl) Tryz.func109 rfl (tabL_cons ok126 tabL_nil) (k109 F126 )

/-- laws.eqIntS -/
abbrev T110 : Type 1 := (β : Type) → List V → List V → (Bool → Option β) → Option β
def P110 : T110 := fun β a b k =>
 br ((a.length : Int) != (b.length : Int)) (
 k false) (
 whileK (fun s1 =>
 br (decide ((lI s1 2) < ((lL s1 0).length : Int))) (
 chk (0 ≤ (lI s1 2)) <|
 idx false [.int .i64] (lL s1 0) ((lI s1 2).toNat) fun (e2 : Int × Unit) =>
 chk (0 ≤ (lI s1 2)) <|
 idx false [.int .i64] (lL s1 1) ((lI s1 2).toNat) fun (e3 : Int × Unit) =>
 br (e2.1 != e3.1) (
 some (.inr (0, [.b false]))) (
 some (.inl [.l (lL s1 0), .l (lL s1 1), .i (IntKind.wrap .i64 ((lI s1 2) + 1))]))) (
 some (.inr (1, [])))) [.l a, .l b, .i 0] fun (r4 : Nat × List Leaf) =>
 if r4.1 = 0 then
 k (lB r4.2 0)
 else
 k true)
def F110 : T110 := P110 
def X110 : Exits := fun i => lookN i [] [(4, [(.ret, xk 26 [(4, .bool false)] []), (.exit 0, xk 26 [] [])])]
abbrev s110 : List (Bool × List CK) := [(false, [.sl 1 true]), (false, [.sl 1 true])]
def G110 (F : T110) (β : Type) (e : (List V × Unit) × (List V × Unit) × Unit) (k : V → Option β) : Option β := F β e.1.1 e.2.1.1 (fun y1 => k (.bool y1))
abbrev W110 (F : T110) : WT := wrap s110 (G110 F)
theorem k110 (β : Type) (e : argsT s110) (k : V → Option β) : fnK cfg (tabL []) X110 110 Tryz.f110 β (argsEnc s110 e) k = G110 (P110 ) β e k := by kernel_rfl
theorem ok110 : FnOk D 110 (W110 F110) := fn_okW [] X110 (fun _ => rfl) Tryz.func110 rfl (tabL_nil) (k110 )

/-- laws.eqBuilder -/
abbrev T83 : Type 1 := (β : Type) → List V → List V → List V → List V → (Bool → Option β) → Option β
def P83 (F109 : T109) (F110 : T110) : T83 := fun β a_Nodes a_Open b_Nodes b_Open k =>
 F109 _ a_Nodes b_Nodes fun b1 =>
 br (!b1) (
 k false) (
 F110 _ a_Open b_Open fun b2 =>
 br (!b2) (
 k false) (
 k true))
def F83 : T83 := P83 F109 F110 
abbrev s83 : List (Bool × List CK) := [(true, [.sl 4 false, .sl 1 true]), (true, [.sl 4 false, .sl 1 true])]
def G83 (F : T83) (β : Type) (e : (List V × List V × Unit) × (List V × List V × Unit) × Unit) (k : V → Option β) : Option β := F β e.1.1 e.1.2.1 e.2.1.1 e.2.1.2.1 (fun y1 => k (.bool y1))
abbrev W83 (F : T83) : WT := wrap s83 (G83 F)
theorem k83 (F109 : T109) (F110 : T110) (β : Type) (e : argsT s83) (k : V → Option β) : fnK cfg (tabL [(109, W109 F109), (110, W110 F110)]) noX 83 Tryz.f83 β (argsEnc s83 e) k = G83 (P83 F109 F110 ) β e k := by kernel_rfl
theorem ok83 : FnOk D 83 (W83 F83) := fn_okW [(109, W109 F109), (110, W110 F110)] noX (fun _ => rfl) Tryz.func83 rfl (tabL_cons ok109 (tabL_cons ok110 tabL_nil)) (k83 F109 F110 )

/-- laws.eqSlot -/
abbrev T111 : Type 1 := (β : Type) → Int → List UInt8 → List UInt8 → List UInt8 → Int → Bool → Int → List UInt8 → Int → List UInt8 → List UInt8 → List UInt8 → Int → Bool → Int → List UInt8 → (Bool → Option β) → Option β
def P111 (F79 : T79) : T111 := fun β a_Mode a_To_Host a_To_Path a_Digest a_Node a_Done a_Code a_Body b_Mode b_To_Host b_To_Path b_Digest b_Node b_Done b_Code b_Body k =>
 br (a_Mode != b_Mode) (
 k false) (
 F79 _ a_To_Host a_To_Path b_To_Host b_To_Path fun b1 =>
 br (!b1) (
 k false) (
 br (!(a_Digest == b_Digest)) (
 k false) (
 br (a_Node != b_Node) (
 k false) (
 br (!(a_Done == b_Done)) (
 k false) (
 br (a_Code != b_Code) (
 k false) (
 br (!(a_Body == b_Body)) (
 k false) (
 k true)))))))
def F111 : T111 := P111 F79 
abbrev s111 : List (Bool × List CK) := [(true, [.int .i64, .str, .str, .str, .int .i64, .bool, .int .i64, .str]), (true, [.int .i64, .str, .str, .str, .int .i64, .bool, .int .i64, .str])]
def G111 (F : T111) (β : Type) (e : (Int × List UInt8 × List UInt8 × List UInt8 × Int × Bool × Int × List UInt8 × Unit) × (Int × List UInt8 × List UInt8 × List UInt8 × Int × Bool × Int × List UInt8 × Unit) × Unit) (k : V → Option β) : Option β := let a0_0 := e.1; let a0_1 := a0_0.2; let a0_2 := a0_1.2; let a0_3 := a0_2.2; let a0_4 := a0_3.2; let a0_5 := a0_4.2; let a0_6 := a0_5.2; let a0_7 := a0_6.2; let a1_0 := e.2.1; let a1_1 := a1_0.2; let a1_2 := a1_1.2; let a1_3 := a1_2.2; let a1_4 := a1_3.2; let a1_5 := a1_4.2; let a1_6 := a1_5.2; let a1_7 := a1_6.2; F β a0_0.1 a0_1.1 a0_2.1 a0_3.1 a0_4.1 a0_5.1 a0_6.1 a0_7.1 a1_0.1 a1_1.1 a1_2.1 a1_3.1 a1_4.1 a1_5.1 a1_6.1 a1_7.1 (fun y1 => k (.bool y1))
abbrev W111 (F : T111) : WT := wrap s111 (G111 F)
theorem k111 (F79 : T79) (β : Type) (e : argsT s111) (k : V → Option β) : fnK cfg (tabL [(79, W79 F79)]) noX 111 Tryz.f111 β (argsEnc s111 e) k = G111 (P111 F79 ) β e k := by kernel_rfl
theorem ok111 : FnOk D 111 (W111 F111) := fn_okW [(79, W79 F79)] noX (fun _ => rfl) Tryz.func111 rfl (tabL_cons ok79 tabL_nil) (k111 F79 )

/-- laws.eqSlotS -/
abbrev T84 : Type 1 := (β : Type) → List V → List V → (Bool → Option β) → Option β
def P84 (F111 : T111) : T84 := fun β a b k =>
 br ((a.length : Int) != (b.length : Int)) (
 k false) (
 whileK (fun s1 =>
 br (decide ((lI s1 2) < ((lL s1 0).length : Int))) (
 chk (0 ≤ (lI s1 2)) <|
 idx true [.int .i64, .str, .str, .str, .int .i64, .bool, .int .i64, .str] (lL s1 0) ((lI s1 2).toNat) fun (e2 : Int × List UInt8 × List UInt8 × List UInt8 × Int × Bool × Int × List UInt8 × Unit) =>
 chk (0 ≤ (lI s1 2)) <|
 idx true [.int .i64, .str, .str, .str, .int .i64, .bool, .int .i64, .str] (lL s1 1) ((lI s1 2).toNat) fun (e3 : Int × List UInt8 × List UInt8 × List UInt8 × Int × Bool × Int × List UInt8 × Unit) =>
 F111 _ e2.1 e2.2.1 e2.2.2.1 e2.2.2.2.1 e2.2.2.2.2.1 e2.2.2.2.2.2.1 e2.2.2.2.2.2.2.1 e2.2.2.2.2.2.2.2.1 e3.1 e3.2.1 e3.2.2.1 e3.2.2.2.1 e3.2.2.2.2.1 e3.2.2.2.2.2.1 e3.2.2.2.2.2.2.1 e3.2.2.2.2.2.2.2.1 fun b4 =>
 br (!b4) (
 some (.inr (0, [.b false]))) (
 some (.inl [.l (lL s1 0), .l (lL s1 1), .i (IntKind.wrap .i64 ((lI s1 2) + 1))]))) (
 some (.inr (1, [])))) [.l a, .l b, .i 0] fun (r5 : Nat × List Leaf) =>
 if r5.1 = 0 then
 k (lB r5.2 0)
 else
 k true)
def F84 : T84 := P84 F111 
def X84 : Exits := fun i => lookN i [] [(4, [(.ret, xk 27 [(4, .bool false)] []), (.exit 0, xk 27 [] [])])]
abbrev s84 : List (Bool × List CK) := [(false, [.sl 8 true]), (false, [.sl 8 true])]
def G84 (F : T84) (β : Type) (e : (List V × Unit) × (List V × Unit) × Unit) (k : V → Option β) : Option β := F β e.1.1 e.2.1.1 (fun y1 => k (.bool y1))
abbrev W84 (F : T84) : WT := wrap s84 (G84 F)
theorem k84 (F111 : T111) (β : Type) (e : argsT s84) (k : V → Option β) : fnK cfg (tabL [(111, W111 F111)]) X84 84 Tryz.f84 β (argsEnc s84 e) k = G84 (P84 F111 ) β e k := by kernel_rfl
theorem ok84 : FnOk D 84 (W84 F84) := fn_okW [(111, W111 F111)] X84 (fun _ => rfl) Tryz.func84 rfl (tabL_cons ok111 tabL_nil) (k84 F111 )

/-- laws.eqModule -/
abbrev T112 : Type 1 := (β : Type) → List UInt8 → List UInt8 → Bool → Int → List UInt8 → List UInt8 → List UInt8 → Bool → Int → List UInt8 → (Bool → Option β) → Option β
def P112 (F79 : T79) : T112 := fun β a_To_Host a_To_Path a_Done a_Code a_Body b_To_Host b_To_Path b_Done b_Code b_Body k =>
 F79 _ a_To_Host a_To_Path b_To_Host b_To_Path fun b1 =>
 br (!b1) (
 k false) (
 br (!(a_Done == b_Done)) (
 k false) (
 br (a_Code != b_Code) (
 k false) (
 br (!(a_Body == b_Body)) (
 k false) (
 k true))))
def F112 : T112 := P112 F79 
abbrev s112 : List (Bool × List CK) := [(true, [.str, .str, .bool, .int .i64, .str]), (true, [.str, .str, .bool, .int .i64, .str])]
def G112 (F : T112) (β : Type) (e : (List UInt8 × List UInt8 × Bool × Int × List UInt8 × Unit) × (List UInt8 × List UInt8 × Bool × Int × List UInt8 × Unit) × Unit) (k : V → Option β) : Option β := let a0_0 := e.1; let a0_1 := a0_0.2; let a0_2 := a0_1.2; let a0_3 := a0_2.2; let a0_4 := a0_3.2; let a1_0 := e.2.1; let a1_1 := a1_0.2; let a1_2 := a1_1.2; let a1_3 := a1_2.2; let a1_4 := a1_3.2; F β a0_0.1 a0_1.1 a0_2.1 a0_3.1 a0_4.1 a1_0.1 a1_1.1 a1_2.1 a1_3.1 a1_4.1 (fun y1 => k (.bool y1))
abbrev W112 (F : T112) : WT := wrap s112 (G112 F)
theorem k112 (F79 : T79) (β : Type) (e : argsT s112) (k : V → Option β) : fnK cfg (tabL [(79, W79 F79)]) noX 112 Tryz.f112 β (argsEnc s112 e) k = G112 (P112 F79 ) β e k := by kernel_rfl
theorem ok112 : FnOk D 112 (W112 F112) := fn_okW [(79, W79 F79)] noX (fun _ => rfl) Tryz.func112 rfl (tabL_cons ok79 tabL_nil) (k112 F79 )

/-- laws.eqModuleS -/
abbrev T85 : Type 1 := (β : Type) → List V → List V → (Bool → Option β) → Option β
def P85 (F112 : T112) : T85 := fun β a b k =>
 br ((a.length : Int) != (b.length : Int)) (
 k false) (
 whileK (fun s1 =>
 br (decide ((lI s1 2) < ((lL s1 0).length : Int))) (
 chk (0 ≤ (lI s1 2)) <|
 idx true [.str, .str, .bool, .int .i64, .str] (lL s1 0) ((lI s1 2).toNat) fun (e2 : List UInt8 × List UInt8 × Bool × Int × List UInt8 × Unit) =>
 chk (0 ≤ (lI s1 2)) <|
 idx true [.str, .str, .bool, .int .i64, .str] (lL s1 1) ((lI s1 2).toNat) fun (e3 : List UInt8 × List UInt8 × Bool × Int × List UInt8 × Unit) =>
 F112 _ e2.1 e2.2.1 e2.2.2.1 e2.2.2.2.1 e2.2.2.2.2.1 e3.1 e3.2.1 e3.2.2.1 e3.2.2.2.1 e3.2.2.2.2.1 fun b4 =>
 br (!b4) (
 some (.inr (0, [.b false]))) (
 some (.inl [.l (lL s1 0), .l (lL s1 1), .i (IntKind.wrap .i64 ((lI s1 2) + 1))]))) (
 some (.inr (1, [])))) [.l a, .l b, .i 0] fun (r5 : Nat × List Leaf) =>
 if r5.1 = 0 then
 k (lB r5.2 0)
 else
 k true)
def F85 : T85 := P85 F112 
def X85 : Exits := fun i => lookN i [] [(4, [(.ret, xk 27 [(4, .bool false)] []), (.exit 0, xk 27 [] [])])]
abbrev s85 : List (Bool × List CK) := [(false, [.sl 5 true]), (false, [.sl 5 true])]
def G85 (F : T85) (β : Type) (e : (List V × Unit) × (List V × Unit) × Unit) (k : V → Option β) : Option β := F β e.1.1 e.2.1.1 (fun y1 => k (.bool y1))
abbrev W85 (F : T85) : WT := wrap s85 (G85 F)
theorem k85 (F112 : T112) (β : Type) (e : argsT s85) (k : V → Option β) : fnK cfg (tabL [(112, W112 F112)]) X85 85 Tryz.f85 β (argsEnc s85 e) k = G85 (P85 F112 ) β e k := by kernel_rfl
theorem ok85 : FnOk D 85 (W85 F85) := fn_okW [(112, W112 F112)] X85 (fun _ => rfl) Tryz.func85 rfl (tabL_cons ok112 tabL_nil) (k85 F112 )

/-- laws.eqAddrS -/
abbrev T86 : Type 1 := (β : Type) → List V → List V → (Bool → Option β) → Option β
def P86 (F79 : T79) : T86 := fun β a b k =>
 br ((a.length : Int) != (b.length : Int)) (
 k false) (
 whileK (fun s1 =>
 br (decide ((lI s1 2) < ((lL s1 0).length : Int))) (
 chk (0 ≤ (lI s1 2)) <|
 idx true [.str, .str] (lL s1 0) ((lI s1 2).toNat) fun (e2 : List UInt8 × List UInt8 × Unit) =>
 chk (0 ≤ (lI s1 2)) <|
 idx true [.str, .str] (lL s1 1) ((lI s1 2).toNat) fun (e3 : List UInt8 × List UInt8 × Unit) =>
 F79 _ e2.1 e2.2.1 e3.1 e3.2.1 fun b4 =>
 br (!b4) (
 some (.inr (0, [.b false]))) (
 some (.inl [.l (lL s1 0), .l (lL s1 1), .i (IntKind.wrap .i64 ((lI s1 2) + 1))]))) (
 some (.inr (1, [])))) [.l a, .l b, .i 0] fun (r5 : Nat × List Leaf) =>
 if r5.1 = 0 then
 k (lB r5.2 0)
 else
 k true)
def F86 : T86 := P86 F79 
def X86 : Exits := fun i => lookN i [] [(4, [(.ret, xk 27 [(4, .bool false)] []), (.exit 0, xk 27 [] [])])]
abbrev s86 : List (Bool × List CK) := [(false, [.sl 2 true]), (false, [.sl 2 true])]
def G86 (F : T86) (β : Type) (e : (List V × Unit) × (List V × Unit) × Unit) (k : V → Option β) : Option β := F β e.1.1 e.2.1.1 (fun y1 => k (.bool y1))
abbrev W86 (F : T86) : WT := wrap s86 (G86 F)
theorem k86 (F79 : T79) (β : Type) (e : argsT s86) (k : V → Option β) : fnK cfg (tabL [(79, W79 F79)]) X86 86 Tryz.f86 β (argsEnc s86 e) k = G86 (P86 F79 ) β e k := by kernel_rfl
theorem ok86 : FnOk D 86 (W86 F86) := fn_okW [(79, W79 F79)] X86 (fun _ => rfl) Tryz.func86 rfl (tabL_cons ok79 tabL_nil) (k86 F79 )

/-- laws.eqPage -/
abbrev T44 : Type 1 := (β : Type) → List UInt8 → List UInt8 → Bool → List V → List V → List V → List UInt8 → List UInt8 → List V → Bool → List V → List V → List V → List V → List V → Int → Int → Int → Int → List V → List V → Bool → List UInt8 → List UInt8 → Bool → List V → List V → List V → List UInt8 → List UInt8 → List V → Bool → List V → List V → List V → List V → List V → Int → Int → Int → Int → List V → List V → Bool → (Bool → Option β) → Option β
def P44 (F79 : T79) (F80 : T80) (F81 : T81) (F82 : T82) (F83 : T83) (F84 : T84) (F85 : T85) (F86 : T86) (F87 : T87) : T44 := fun β a_Addr_Host a_Addr_Path a_Policy_Set a_Policy_Scripts a_Policy_Styles a_Policy_Images a_Policy_Nonce a_Tok_Rest a_Queue a_Ended a_Builder_Nodes a_Builder_Open a_Slots a_Mods a_Entries a_Block a_Inline a_Deferred a_Entered a_Ran a_Log a_Loaded b_Addr_Host b_Addr_Path b_Policy_Set b_Policy_Scripts b_Policy_Styles b_Policy_Images b_Policy_Nonce b_Tok_Rest b_Queue b_Ended b_Builder_Nodes b_Builder_Open b_Slots b_Mods b_Entries b_Block b_Inline b_Deferred b_Entered b_Ran b_Log b_Loaded k =>
 F79 _ a_Addr_Host a_Addr_Path b_Addr_Host b_Addr_Path fun b1 =>
 br (!b1) (
 k false) (
 F80 _ a_Policy_Set a_Policy_Scripts a_Policy_Styles a_Policy_Images a_Policy_Nonce b_Policy_Set b_Policy_Scripts b_Policy_Styles b_Policy_Images b_Policy_Nonce fun b2 =>
 br (!b2) (
 k false) (
 F81 _ a_Tok_Rest b_Tok_Rest fun b3 =>
 br (!b3) (
 k false) (
 F82 _ a_Queue b_Queue fun b4 =>
 br (!b4) (
 k false) (
 br (!(a_Ended == b_Ended)) (
 k false) (
 F83 _ a_Builder_Nodes a_Builder_Open b_Builder_Nodes b_Builder_Open fun b5 =>
 br (!b5) (
 k false) (
 F84 _ a_Slots b_Slots fun b6 =>
 br (!b6) (
 k false) (
 F85 _ a_Mods b_Mods fun b7 =>
 br (!b7) (
 k false) (
 F86 _ a_Entries b_Entries fun b8 =>
 br (!b8) (
 k false) (
 br (a_Block != b_Block) (
 k false) (
 br (a_Inline != b_Inline) (
 k false) (
 br (a_Deferred != b_Deferred) (
 k false) (
 br (a_Entered != b_Entered) (
 k false) (
 F86 _ a_Ran b_Ran fun b9 =>
 br (!b9) (
 k false) (
 F87 _ a_Log b_Log fun b10 =>
 br (!b10) (
 k false) (
 br (!(a_Loaded == b_Loaded)) (
 k false) (
 k true))))))))))))))))
def F44 : T44 := P44 F79 F80 F81 F82 F83 F84 F85 F86 F87 
abbrev s44 : List (Bool × List CK) := [(true, [.str, .str, .bool, .sl 1 true, .sl 1 true, .sl 1 true, .str, .str, .sl 4 false, .bool, .sl 4 false, .sl 1 true, .sl 8 true, .sl 5 true, .sl 2 true, .int .i64, .int .i64, .int .i64, .int .i64, .sl 2 true, .sl 1 true, .bool]), (true, [.str, .str, .bool, .sl 1 true, .sl 1 true, .sl 1 true, .str, .str, .sl 4 false, .bool, .sl 4 false, .sl 1 true, .sl 8 true, .sl 5 true, .sl 2 true, .int .i64, .int .i64, .int .i64, .int .i64, .sl 2 true, .sl 1 true, .bool])]
def G44 (F : T44) (β : Type) (e : (List UInt8 × List UInt8 × Bool × List V × List V × List V × List UInt8 × List UInt8 × List V × Bool × List V × List V × List V × List V × List V × Int × Int × Int × Int × List V × List V × Bool × Unit) × (List UInt8 × List UInt8 × Bool × List V × List V × List V × List UInt8 × List UInt8 × List V × Bool × List V × List V × List V × List V × List V × Int × Int × Int × Int × List V × List V × Bool × Unit) × Unit) (k : V → Option β) : Option β := let a0_0 := e.1; let a0_1 := a0_0.2; let a0_2 := a0_1.2; let a0_3 := a0_2.2; let a0_4 := a0_3.2; let a0_5 := a0_4.2; let a0_6 := a0_5.2; let a0_7 := a0_6.2; let a0_8 := a0_7.2; let a0_9 := a0_8.2; let a0_10 := a0_9.2; let a0_11 := a0_10.2; let a0_12 := a0_11.2; let a0_13 := a0_12.2; let a0_14 := a0_13.2; let a0_15 := a0_14.2; let a0_16 := a0_15.2; let a0_17 := a0_16.2; let a0_18 := a0_17.2; let a0_19 := a0_18.2; let a0_20 := a0_19.2; let a0_21 := a0_20.2; let a1_0 := e.2.1; let a1_1 := a1_0.2; let a1_2 := a1_1.2; let a1_3 := a1_2.2; let a1_4 := a1_3.2; let a1_5 := a1_4.2; let a1_6 := a1_5.2; let a1_7 := a1_6.2; let a1_8 := a1_7.2; let a1_9 := a1_8.2; let a1_10 := a1_9.2; let a1_11 := a1_10.2; let a1_12 := a1_11.2; let a1_13 := a1_12.2; let a1_14 := a1_13.2; let a1_15 := a1_14.2; let a1_16 := a1_15.2; let a1_17 := a1_16.2; let a1_18 := a1_17.2; let a1_19 := a1_18.2; let a1_20 := a1_19.2; let a1_21 := a1_20.2; F β a0_0.1 a0_1.1 a0_2.1 a0_3.1 a0_4.1 a0_5.1 a0_6.1 a0_7.1 a0_8.1 a0_9.1 a0_10.1 a0_11.1 a0_12.1 a0_13.1 a0_14.1 a0_15.1 a0_16.1 a0_17.1 a0_18.1 a0_19.1 a0_20.1 a0_21.1 a1_0.1 a1_1.1 a1_2.1 a1_3.1 a1_4.1 a1_5.1 a1_6.1 a1_7.1 a1_8.1 a1_9.1 a1_10.1 a1_11.1 a1_12.1 a1_13.1 a1_14.1 a1_15.1 a1_16.1 a1_17.1 a1_18.1 a1_19.1 a1_20.1 a1_21.1 (fun y1 => k (.bool y1))
abbrev W44 (F : T44) : WT := wrap s44 (G44 F)
theorem k44 (F79 : T79) (F80 : T80) (F81 : T81) (F82 : T82) (F83 : T83) (F84 : T84) (F85 : T85) (F86 : T86) (F87 : T87) (β : Type) (e : argsT s44) (k : V → Option β) : fnK cfg (tabL [(79, W79 F79), (80, W80 F80), (81, W81 F81), (82, W82 F82), (83, W83 F83), (84, W84 F84), (85, W85 F85), (86, W86 F86), (87, W87 F87)]) noX 44 Tryz.f44 β (argsEnc s44 e) k = G44 (P44 F79 F80 F81 F82 F83 F84 F85 F86 F87 ) β e k := by kernel_rfl
theorem ok44 : FnOk D 44 (W44 F44) := fn_okW [(79, W79 F79), (80, W80 F80), (81, W81 F81), (82, W82 F82), (83, W83 F83), (84, W84 F84), (85, W85 F85), (86, W86 F86), (87, W87 F87)] noX (fun _ => rfl) Tryz.func44 rfl (tabL_cons ok79 (tabL_cons ok80 (tabL_cons ok81 (tabL_cons ok82 (tabL_cons ok83 (tabL_cons ok84 (tabL_cons ok85 (tabL_cons ok86 (tabL_cons ok87 tabL_nil))))))))) (k44 F79 F80 F81 F82 F83 F84 F85 F86 F87 )

/-- laws.eqVisit -/
abbrev T78 : Type 1 := (β : Type) → List UInt8 → List UInt8 → List UInt8 → List UInt8 → Bool → List V → List V → List V → List UInt8 → List UInt8 → List V → Bool → List V → List V → List V → List V → List V → Int → Int → Int → Int → List V → List V → Bool → Bool → List UInt8 → List UInt8 → List UInt8 → List UInt8 → Bool → List V → List V → List V → List UInt8 → List UInt8 → List V → Bool → List V → List V → List V → List V → List V → Int → Int → Int → Int → List V → List V → Bool → Bool → (Bool → Option β) → Option β
def P78 (F79 : T79) (F44 : T44) : T78 := fun β a_Addr_Host a_Addr_Path a_Page_Addr_Host a_Page_Addr_Path a_Page_Policy_Set a_Page_Policy_Scripts a_Page_Policy_Styles a_Page_Policy_Images a_Page_Policy_Nonce a_Page_Tok_Rest a_Page_Queue a_Page_Ended a_Page_Builder_Nodes a_Page_Builder_Open a_Page_Slots a_Page_Mods a_Page_Entries a_Page_Block a_Page_Inline a_Page_Deferred a_Page_Entered a_Page_Ran a_Page_Log a_Page_Loaded a_Kept b_Addr_Host b_Addr_Path b_Page_Addr_Host b_Page_Addr_Path b_Page_Policy_Set b_Page_Policy_Scripts b_Page_Policy_Styles b_Page_Policy_Images b_Page_Policy_Nonce b_Page_Tok_Rest b_Page_Queue b_Page_Ended b_Page_Builder_Nodes b_Page_Builder_Open b_Page_Slots b_Page_Mods b_Page_Entries b_Page_Block b_Page_Inline b_Page_Deferred b_Page_Entered b_Page_Ran b_Page_Log b_Page_Loaded b_Kept k =>
 F79 _ a_Addr_Host a_Addr_Path b_Addr_Host b_Addr_Path fun b1 =>
 br (!b1) (
 k false) (
 F44 _ a_Page_Addr_Host a_Page_Addr_Path a_Page_Policy_Set a_Page_Policy_Scripts a_Page_Policy_Styles a_Page_Policy_Images a_Page_Policy_Nonce a_Page_Tok_Rest a_Page_Queue a_Page_Ended a_Page_Builder_Nodes a_Page_Builder_Open a_Page_Slots a_Page_Mods a_Page_Entries a_Page_Block a_Page_Inline a_Page_Deferred a_Page_Entered a_Page_Ran a_Page_Log a_Page_Loaded b_Page_Addr_Host b_Page_Addr_Path b_Page_Policy_Set b_Page_Policy_Scripts b_Page_Policy_Styles b_Page_Policy_Images b_Page_Policy_Nonce b_Page_Tok_Rest b_Page_Queue b_Page_Ended b_Page_Builder_Nodes b_Page_Builder_Open b_Page_Slots b_Page_Mods b_Page_Entries b_Page_Block b_Page_Inline b_Page_Deferred b_Page_Entered b_Page_Ran b_Page_Log b_Page_Loaded fun b2 =>
 br (!b2) (
 k false) (
 br (!(a_Kept == b_Kept)) (
 k false) (
 k true)))
def F78 : T78 := P78 F79 F44 
abbrev s78 : List (Bool × List CK) := [(true, [.str, .str, .str, .str, .bool, .sl 1 true, .sl 1 true, .sl 1 true, .str, .str, .sl 4 false, .bool, .sl 4 false, .sl 1 true, .sl 8 true, .sl 5 true, .sl 2 true, .int .i64, .int .i64, .int .i64, .int .i64, .sl 2 true, .sl 1 true, .bool, .bool]), (true, [.str, .str, .str, .str, .bool, .sl 1 true, .sl 1 true, .sl 1 true, .str, .str, .sl 4 false, .bool, .sl 4 false, .sl 1 true, .sl 8 true, .sl 5 true, .sl 2 true, .int .i64, .int .i64, .int .i64, .int .i64, .sl 2 true, .sl 1 true, .bool, .bool])]
def G78 (F : T78) (β : Type) (e : (List UInt8 × List UInt8 × List UInt8 × List UInt8 × Bool × List V × List V × List V × List UInt8 × List UInt8 × List V × Bool × List V × List V × List V × List V × List V × Int × Int × Int × Int × List V × List V × Bool × Bool × Unit) × (List UInt8 × List UInt8 × List UInt8 × List UInt8 × Bool × List V × List V × List V × List UInt8 × List UInt8 × List V × Bool × List V × List V × List V × List V × List V × Int × Int × Int × Int × List V × List V × Bool × Bool × Unit) × Unit) (k : V → Option β) : Option β := let a0_0 := e.1; let a0_1 := a0_0.2; let a0_2 := a0_1.2; let a0_3 := a0_2.2; let a0_4 := a0_3.2; let a0_5 := a0_4.2; let a0_6 := a0_5.2; let a0_7 := a0_6.2; let a0_8 := a0_7.2; let a0_9 := a0_8.2; let a0_10 := a0_9.2; let a0_11 := a0_10.2; let a0_12 := a0_11.2; let a0_13 := a0_12.2; let a0_14 := a0_13.2; let a0_15 := a0_14.2; let a0_16 := a0_15.2; let a0_17 := a0_16.2; let a0_18 := a0_17.2; let a0_19 := a0_18.2; let a0_20 := a0_19.2; let a0_21 := a0_20.2; let a0_22 := a0_21.2; let a0_23 := a0_22.2; let a0_24 := a0_23.2; let a1_0 := e.2.1; let a1_1 := a1_0.2; let a1_2 := a1_1.2; let a1_3 := a1_2.2; let a1_4 := a1_3.2; let a1_5 := a1_4.2; let a1_6 := a1_5.2; let a1_7 := a1_6.2; let a1_8 := a1_7.2; let a1_9 := a1_8.2; let a1_10 := a1_9.2; let a1_11 := a1_10.2; let a1_12 := a1_11.2; let a1_13 := a1_12.2; let a1_14 := a1_13.2; let a1_15 := a1_14.2; let a1_16 := a1_15.2; let a1_17 := a1_16.2; let a1_18 := a1_17.2; let a1_19 := a1_18.2; let a1_20 := a1_19.2; let a1_21 := a1_20.2; let a1_22 := a1_21.2; let a1_23 := a1_22.2; let a1_24 := a1_23.2; F β a0_0.1 a0_1.1 a0_2.1 a0_3.1 a0_4.1 a0_5.1 a0_6.1 a0_7.1 a0_8.1 a0_9.1 a0_10.1 a0_11.1 a0_12.1 a0_13.1 a0_14.1 a0_15.1 a0_16.1 a0_17.1 a0_18.1 a0_19.1 a0_20.1 a0_21.1 a0_22.1 a0_23.1 a0_24.1 a1_0.1 a1_1.1 a1_2.1 a1_3.1 a1_4.1 a1_5.1 a1_6.1 a1_7.1 a1_8.1 a1_9.1 a1_10.1 a1_11.1 a1_12.1 a1_13.1 a1_14.1 a1_15.1 a1_16.1 a1_17.1 a1_18.1 a1_19.1 a1_20.1 a1_21.1 a1_22.1 a1_23.1 a1_24.1 (fun y1 => k (.bool y1))
abbrev W78 (F : T78) : WT := wrap s78 (G78 F)
theorem k78 (F79 : T79) (F44 : T44) (β : Type) (e : argsT s78) (k : V → Option β) : fnK cfg (tabL [(79, W79 F79), (44, W44 F44)]) noX 78 Tryz.f78 β (argsEnc s78 e) k = G78 (P78 F79 F44 ) β e k := by kernel_rfl
theorem ok78 : FnOk D 78 (W78 F78) := fn_okW [(79, W79 F79), (44, W44 F44)] noX (fun _ => rfl) Tryz.func78 rfl (tabL_cons ok79 (tabL_cons ok44 tabL_nil)) (k78 F79 F44 )

/-- laws.eqVisitS -/
abbrev T43 : Type 1 := (β : Type) → List V → List V → (Bool → Option β) → Option β
def P43 (F78 : T78) : T43 := fun β a b k =>
 br ((a.length : Int) != (b.length : Int)) (
 k false) (
 whileK (fun s1 =>
 br (decide ((lI s1 2) < ((lL s1 0).length : Int))) (
 chk (0 ≤ (lI s1 2)) <|
 idx true [.str, .str, .str, .str, .bool, .sl 1 true, .sl 1 true, .sl 1 true, .str, .str, .sl 4 false, .bool, .sl 4 false, .sl 1 true, .sl 8 true, .sl 5 true, .sl 2 true, .int .i64, .int .i64, .int .i64, .int .i64, .sl 2 true, .sl 1 true, .bool, .bool] (lL s1 0) ((lI s1 2).toNat) fun (e2 : List UInt8 × List UInt8 × List UInt8 × List UInt8 × Bool × List V × List V × List V × List UInt8 × List UInt8 × List V × Bool × List V × List V × List V × List V × List V × Int × Int × Int × Int × List V × List V × Bool × Bool × Unit) =>
 chk (0 ≤ (lI s1 2)) <|
 idx true [.str, .str, .str, .str, .bool, .sl 1 true, .sl 1 true, .sl 1 true, .str, .str, .sl 4 false, .bool, .sl 4 false, .sl 1 true, .sl 8 true, .sl 5 true, .sl 2 true, .int .i64, .int .i64, .int .i64, .int .i64, .sl 2 true, .sl 1 true, .bool, .bool] (lL s1 1) ((lI s1 2).toNat) fun (e3 : List UInt8 × List UInt8 × List UInt8 × List UInt8 × Bool × List V × List V × List V × List UInt8 × List UInt8 × List V × Bool × List V × List V × List V × List V × List V × Int × Int × Int × Int × List V × List V × Bool × Bool × Unit) =>
 F78 _ e2.1 e2.2.1 e2.2.2.1 e2.2.2.2.1 e2.2.2.2.2.1 e2.2.2.2.2.2.1 e2.2.2.2.2.2.2.1 e2.2.2.2.2.2.2.2.1 e2.2.2.2.2.2.2.2.2.1 e2.2.2.2.2.2.2.2.2.2.1 e2.2.2.2.2.2.2.2.2.2.2.1 e2.2.2.2.2.2.2.2.2.2.2.2.1 e2.2.2.2.2.2.2.2.2.2.2.2.2.1 e2.2.2.2.2.2.2.2.2.2.2.2.2.2.1 e2.2.2.2.2.2.2.2.2.2.2.2.2.2.2.1 e2.2.2.2.2.2.2.2.2.2.2.2.2.2.2.2.1 e2.2.2.2.2.2.2.2.2.2.2.2.2.2.2.2.2.1 e2.2.2.2.2.2.2.2.2.2.2.2.2.2.2.2.2.2.1 e2.2.2.2.2.2.2.2.2.2.2.2.2.2.2.2.2.2.2.1 e2.2.2.2.2.2.2.2.2.2.2.2.2.2.2.2.2.2.2.2.1 e2.2.2.2.2.2.2.2.2.2.2.2.2.2.2.2.2.2.2.2.2.1 e2.2.2.2.2.2.2.2.2.2.2.2.2.2.2.2.2.2.2.2.2.2.1 e2.2.2.2.2.2.2.2.2.2.2.2.2.2.2.2.2.2.2.2.2.2.2.1 e2.2.2.2.2.2.2.2.2.2.2.2.2.2.2.2.2.2.2.2.2.2.2.2.1 e2.2.2.2.2.2.2.2.2.2.2.2.2.2.2.2.2.2.2.2.2.2.2.2.2.1 e3.1 e3.2.1 e3.2.2.1 e3.2.2.2.1 e3.2.2.2.2.1 e3.2.2.2.2.2.1 e3.2.2.2.2.2.2.1 e3.2.2.2.2.2.2.2.1 e3.2.2.2.2.2.2.2.2.1 e3.2.2.2.2.2.2.2.2.2.1 e3.2.2.2.2.2.2.2.2.2.2.1 e3.2.2.2.2.2.2.2.2.2.2.2.1 e3.2.2.2.2.2.2.2.2.2.2.2.2.1 e3.2.2.2.2.2.2.2.2.2.2.2.2.2.1 e3.2.2.2.2.2.2.2.2.2.2.2.2.2.2.1 e3.2.2.2.2.2.2.2.2.2.2.2.2.2.2.2.1 e3.2.2.2.2.2.2.2.2.2.2.2.2.2.2.2.2.1 e3.2.2.2.2.2.2.2.2.2.2.2.2.2.2.2.2.2.1 e3.2.2.2.2.2.2.2.2.2.2.2.2.2.2.2.2.2.2.1 e3.2.2.2.2.2.2.2.2.2.2.2.2.2.2.2.2.2.2.2.1 e3.2.2.2.2.2.2.2.2.2.2.2.2.2.2.2.2.2.2.2.2.1 e3.2.2.2.2.2.2.2.2.2.2.2.2.2.2.2.2.2.2.2.2.2.1 e3.2.2.2.2.2.2.2.2.2.2.2.2.2.2.2.2.2.2.2.2.2.2.1 e3.2.2.2.2.2.2.2.2.2.2.2.2.2.2.2.2.2.2.2.2.2.2.2.1 e3.2.2.2.2.2.2.2.2.2.2.2.2.2.2.2.2.2.2.2.2.2.2.2.2.1 fun b4 =>
 br (!b4) (
 some (.inr (0, [.b false]))) (
 some (.inl [.l (lL s1 0), .l (lL s1 1), .i (IntKind.wrap .i64 ((lI s1 2) + 1))]))) (
 some (.inr (1, [])))) [.l a, .l b, .i 0] fun (r5 : Nat × List Leaf) =>
 if r5.1 = 0 then
 k (lB r5.2 0)
 else
 k true)
def F43 : T43 := P43 F78 
def X43 : Exits := fun i => lookN i [] [(4, [(.ret, xk 27 [(4, .bool false)] []), (.exit 0, xk 27 [] [])])]
abbrev s43 : List (Bool × List CK) := [(false, [.sl 25 false]), (false, [.sl 25 false])]
def G43 (F : T43) (β : Type) (e : (List V × Unit) × (List V × Unit) × Unit) (k : V → Option β) : Option β := F β e.1.1 e.2.1.1 (fun y1 => k (.bool y1))
abbrev W43 (F : T43) : WT := wrap s43 (G43 F)
theorem k43 (F78 : T78) (β : Type) (e : argsT s43) (k : V → Option β) : fnK cfg (tabL [(78, W78 F78)]) X43 43 Tryz.f43 β (argsEnc s43 e) k = G43 (P43 F78 ) β e k := by kernel_rfl
theorem ok43 : FnOk D 43 (W43 F43) := fn_okW [(78, W78 F78)] X43 (fun _ => rfl) Tryz.func43 rfl (tabL_cons ok78 tabL_nil) (k43 F78 )

/-- laws.eqTab -/
abbrev T22 : Type 1 := (β : Type) → List V → Int → List V → Int → (Bool → Option β) → Option β
def P22 (F43 : T43) : T22 := fun β a_Visits a_At b_Visits b_At k =>
 F43 _ a_Visits b_Visits fun b1 =>
 br (!b1) (
 k false) (
 br (a_At != b_At) (
 k false) (
 k true))
def F22 : T22 := P22 F43 
abbrev s22 : List (Bool × List CK) := [(true, [.sl 25 false, .int .i64]), (true, [.sl 25 false, .int .i64])]
def G22 (F : T22) (β : Type) (e : (List V × Int × Unit) × (List V × Int × Unit) × Unit) (k : V → Option β) : Option β := F β e.1.1 e.1.2.1 e.2.1.1 e.2.1.2.1 (fun y1 => k (.bool y1))
abbrev W22 (F : T22) : WT := wrap s22 (G22 F)
theorem k22 (F43 : T43) (β : Type) (e : argsT s22) (k : V → Option β) : fnK cfg (tabL [(43, W43 F43)]) noX 22 Tryz.f22 β (argsEnc s22 e) k = G22 (P22 F43 ) β e k := by kernel_rfl
theorem ok22 : FnOk D 22 (W22 F22) := fn_okW [(43, W43 F43)] noX (fun _ => rfl) Tryz.func22 rfl (tabL_cons ok43 tabL_nil) (k22 F43 )

/-- laws.eqKept -/
abbrev T88 : Type 1 := (β : Type) → List UInt8 → List UInt8 → Int → Int → List UInt8 → Int → Bool → List UInt8 → List UInt8 → List UInt8 → Int → Int → List UInt8 → Int → Bool → List UInt8 → (Bool → Option β) → Option β
def P88 (F79 : T79) (F113 : T113) : T88 := fun β a_To_Host a_To_Path a_Response_Status a_Response_Kind a_Response_Body a_Response_Age a_Response_Shares a_Response_Policy b_To_Host b_To_Path b_Response_Status b_Response_Kind b_Response_Body b_Response_Age b_Response_Shares b_Response_Policy k =>
 F79 _ a_To_Host a_To_Path b_To_Host b_To_Path fun b1 =>
 br (!b1) (
 k false) (
 F113 _ a_Response_Status a_Response_Kind a_Response_Body a_Response_Age a_Response_Shares a_Response_Policy b_Response_Status b_Response_Kind b_Response_Body b_Response_Age b_Response_Shares b_Response_Policy fun b2 =>
 br (!b2) (
 k false) (
 k true))
def F88 : T88 := P88 F79 F113 
abbrev s88 : List (Bool × List CK) := [(true, [.str, .str, .int .i64, .int .i64, .str, .int .i64, .bool, .str]), (true, [.str, .str, .int .i64, .int .i64, .str, .int .i64, .bool, .str])]
def G88 (F : T88) (β : Type) (e : (List UInt8 × List UInt8 × Int × Int × List UInt8 × Int × Bool × List UInt8 × Unit) × (List UInt8 × List UInt8 × Int × Int × List UInt8 × Int × Bool × List UInt8 × Unit) × Unit) (k : V → Option β) : Option β := let a0_0 := e.1; let a0_1 := a0_0.2; let a0_2 := a0_1.2; let a0_3 := a0_2.2; let a0_4 := a0_3.2; let a0_5 := a0_4.2; let a0_6 := a0_5.2; let a0_7 := a0_6.2; let a1_0 := e.2.1; let a1_1 := a1_0.2; let a1_2 := a1_1.2; let a1_3 := a1_2.2; let a1_4 := a1_3.2; let a1_5 := a1_4.2; let a1_6 := a1_5.2; let a1_7 := a1_6.2; F β a0_0.1 a0_1.1 a0_2.1 a0_3.1 a0_4.1 a0_5.1 a0_6.1 a0_7.1 a1_0.1 a1_1.1 a1_2.1 a1_3.1 a1_4.1 a1_5.1 a1_6.1 a1_7.1 (fun y1 => k (.bool y1))
abbrev W88 (F : T88) : WT := wrap s88 (G88 F)
theorem k88 (F79 : T79) (F113 : T113) (β : Type) (e : argsT s88) (k : V → Option β) : fnK cfg (tabL [(79, W79 F79), (113, W113 F113)]) noX 88 Tryz.f88 β (argsEnc s88 e) k = G88 (P88 F79 F113 ) β e k := by kernel_rfl
theorem ok88 : FnOk D 88 (W88 F88) := fn_okW [(79, W79 F79), (113, W113 F113)] noX (fun _ => rfl) Tryz.func88 rfl (tabL_cons ok79 (tabL_cons ok113 tabL_nil)) (k88 F79 F113 )

/-- laws.eqKeptS -/
abbrev T45 : Type 1 := (β : Type) → List V → List V → (Bool → Option β) → Option β
def P45 (F88 : T88) : T45 := fun β a b k =>
 br ((a.length : Int) != (b.length : Int)) (
 k false) (
 whileK (fun s1 =>
 br (decide ((lI s1 2) < ((lL s1 0).length : Int))) (
 chk (0 ≤ (lI s1 2)) <|
 idx true [.str, .str, .int .i64, .int .i64, .str, .int .i64, .bool, .str] (lL s1 0) ((lI s1 2).toNat) fun (e2 : List UInt8 × List UInt8 × Int × Int × List UInt8 × Int × Bool × List UInt8 × Unit) =>
 chk (0 ≤ (lI s1 2)) <|
 idx true [.str, .str, .int .i64, .int .i64, .str, .int .i64, .bool, .str] (lL s1 1) ((lI s1 2).toNat) fun (e3 : List UInt8 × List UInt8 × Int × Int × List UInt8 × Int × Bool × List UInt8 × Unit) =>
 F88 _ e2.1 e2.2.1 e2.2.2.1 e2.2.2.2.1 e2.2.2.2.2.1 e2.2.2.2.2.2.1 e2.2.2.2.2.2.2.1 e2.2.2.2.2.2.2.2.1 e3.1 e3.2.1 e3.2.2.1 e3.2.2.2.1 e3.2.2.2.2.1 e3.2.2.2.2.2.1 e3.2.2.2.2.2.2.1 e3.2.2.2.2.2.2.2.1 fun b4 =>
 br (!b4) (
 some (.inr (0, [.b false]))) (
 some (.inl [.l (lL s1 0), .l (lL s1 1), .i (IntKind.wrap .i64 ((lI s1 2) + 1))]))) (
 some (.inr (1, [])))) [.l a, .l b, .i 0] fun (r5 : Nat × List Leaf) =>
 if r5.1 = 0 then
 k (lB r5.2 0)
 else
 k true)
def F45 : T45 := P45 F88 
def X45 : Exits := fun i => lookN i [] [(4, [(.ret, xk 27 [(4, .bool false)] []), (.exit 0, xk 27 [] [])])]
abbrev s45 : List (Bool × List CK) := [(false, [.sl 8 true]), (false, [.sl 8 true])]
def G45 (F : T45) (β : Type) (e : (List V × Unit) × (List V × Unit) × Unit) (k : V → Option β) : Option β := F β e.1.1 e.2.1.1 (fun y1 => k (.bool y1))
abbrev W45 (F : T45) : WT := wrap s45 (G45 F)
theorem k45 (F88 : T88) (β : Type) (e : argsT s45) (k : V → Option β) : fnK cfg (tabL [(88, W88 F88)]) X45 45 Tryz.f45 β (argsEnc s45 e) k = G45 (P45 F88 ) β e k := by kernel_rfl
theorem ok45 : FnOk D 45 (W45 F45) := fn_okW [(88, W88 F88)] X45 (fun _ => rfl) Tryz.func45 rfl (tabL_cons ok88 tabL_nil) (k45 F88 )

/-- laws.eqHidden -/
abbrev T23 : Type 1 := (β : Type) → Bool → List UInt8 → List UInt8 → Bool → List V → List V → List V → List UInt8 → List UInt8 → List V → Bool → List V → List V → List V → List V → List V → Int → Int → Int → Int → List V → List V → Bool → List V → List V → Int → Bool → List UInt8 → List UInt8 → Bool → List V → List V → List V → List UInt8 → List UInt8 → List V → Bool → List V → List V → List V → List V → List V → Int → Int → Int → Int → List V → List V → Bool → List V → List V → Int → (Bool → Option β) → Option β
def P23 (F44 : T44) (F45 : T45) (F40 : T40) : T23 := fun β a_Ready a_Page_Addr_Host a_Page_Addr_Path a_Page_Policy_Set a_Page_Policy_Scripts a_Page_Policy_Styles a_Page_Policy_Images a_Page_Policy_Nonce a_Page_Tok_Rest a_Page_Queue a_Page_Ended a_Page_Builder_Nodes a_Page_Builder_Open a_Page_Slots a_Page_Mods a_Page_Entries a_Page_Block a_Page_Inline a_Page_Deferred a_Page_Entered a_Page_Ran a_Page_Log a_Page_Loaded a_Taken a_Servers a_Now b_Ready b_Page_Addr_Host b_Page_Addr_Path b_Page_Policy_Set b_Page_Policy_Scripts b_Page_Policy_Styles b_Page_Policy_Images b_Page_Policy_Nonce b_Page_Tok_Rest b_Page_Queue b_Page_Ended b_Page_Builder_Nodes b_Page_Builder_Open b_Page_Slots b_Page_Mods b_Page_Entries b_Page_Block b_Page_Inline b_Page_Deferred b_Page_Entered b_Page_Ran b_Page_Log b_Page_Loaded b_Taken b_Servers b_Now k =>
 br (!(a_Ready == b_Ready)) (
 k false) (
 F44 _ a_Page_Addr_Host a_Page_Addr_Path a_Page_Policy_Set a_Page_Policy_Scripts a_Page_Policy_Styles a_Page_Policy_Images a_Page_Policy_Nonce a_Page_Tok_Rest a_Page_Queue a_Page_Ended a_Page_Builder_Nodes a_Page_Builder_Open a_Page_Slots a_Page_Mods a_Page_Entries a_Page_Block a_Page_Inline a_Page_Deferred a_Page_Entered a_Page_Ran a_Page_Log a_Page_Loaded b_Page_Addr_Host b_Page_Addr_Path b_Page_Policy_Set b_Page_Policy_Scripts b_Page_Policy_Styles b_Page_Policy_Images b_Page_Policy_Nonce b_Page_Tok_Rest b_Page_Queue b_Page_Ended b_Page_Builder_Nodes b_Page_Builder_Open b_Page_Slots b_Page_Mods b_Page_Entries b_Page_Block b_Page_Inline b_Page_Deferred b_Page_Entered b_Page_Ran b_Page_Log b_Page_Loaded fun b1 =>
 br (!b1) (
 k false) (
 F45 _ a_Taken b_Taken fun b2 =>
 br (!b2) (
 k false) (
 F40 _ a_Servers b_Servers fun b3 =>
 br (!b3) (
 k false) (
 br (a_Now != b_Now) (
 k false) (
 k true)))))
def F23 : T23 := P23 F44 F45 F40 
abbrev s23 : List (Bool × List CK) := [(true, [.bool, .str, .str, .bool, .sl 1 true, .sl 1 true, .sl 1 true, .str, .str, .sl 4 false, .bool, .sl 4 false, .sl 1 true, .sl 8 true, .sl 5 true, .sl 2 true, .int .i64, .int .i64, .int .i64, .int .i64, .sl 2 true, .sl 1 true, .bool, .sl 8 true, .sl 2 false, .int .i64]), (true, [.bool, .str, .str, .bool, .sl 1 true, .sl 1 true, .sl 1 true, .str, .str, .sl 4 false, .bool, .sl 4 false, .sl 1 true, .sl 8 true, .sl 5 true, .sl 2 true, .int .i64, .int .i64, .int .i64, .int .i64, .sl 2 true, .sl 1 true, .bool, .sl 8 true, .sl 2 false, .int .i64])]
def G23 (F : T23) (β : Type) (e : (Bool × List UInt8 × List UInt8 × Bool × List V × List V × List V × List UInt8 × List UInt8 × List V × Bool × List V × List V × List V × List V × List V × Int × Int × Int × Int × List V × List V × Bool × List V × List V × Int × Unit) × (Bool × List UInt8 × List UInt8 × Bool × List V × List V × List V × List UInt8 × List UInt8 × List V × Bool × List V × List V × List V × List V × List V × Int × Int × Int × Int × List V × List V × Bool × List V × List V × Int × Unit) × Unit) (k : V → Option β) : Option β := let a0_0 := e.1; let a0_1 := a0_0.2; let a0_2 := a0_1.2; let a0_3 := a0_2.2; let a0_4 := a0_3.2; let a0_5 := a0_4.2; let a0_6 := a0_5.2; let a0_7 := a0_6.2; let a0_8 := a0_7.2; let a0_9 := a0_8.2; let a0_10 := a0_9.2; let a0_11 := a0_10.2; let a0_12 := a0_11.2; let a0_13 := a0_12.2; let a0_14 := a0_13.2; let a0_15 := a0_14.2; let a0_16 := a0_15.2; let a0_17 := a0_16.2; let a0_18 := a0_17.2; let a0_19 := a0_18.2; let a0_20 := a0_19.2; let a0_21 := a0_20.2; let a0_22 := a0_21.2; let a0_23 := a0_22.2; let a0_24 := a0_23.2; let a0_25 := a0_24.2; let a1_0 := e.2.1; let a1_1 := a1_0.2; let a1_2 := a1_1.2; let a1_3 := a1_2.2; let a1_4 := a1_3.2; let a1_5 := a1_4.2; let a1_6 := a1_5.2; let a1_7 := a1_6.2; let a1_8 := a1_7.2; let a1_9 := a1_8.2; let a1_10 := a1_9.2; let a1_11 := a1_10.2; let a1_12 := a1_11.2; let a1_13 := a1_12.2; let a1_14 := a1_13.2; let a1_15 := a1_14.2; let a1_16 := a1_15.2; let a1_17 := a1_16.2; let a1_18 := a1_17.2; let a1_19 := a1_18.2; let a1_20 := a1_19.2; let a1_21 := a1_20.2; let a1_22 := a1_21.2; let a1_23 := a1_22.2; let a1_24 := a1_23.2; let a1_25 := a1_24.2; F β a0_0.1 a0_1.1 a0_2.1 a0_3.1 a0_4.1 a0_5.1 a0_6.1 a0_7.1 a0_8.1 a0_9.1 a0_10.1 a0_11.1 a0_12.1 a0_13.1 a0_14.1 a0_15.1 a0_16.1 a0_17.1 a0_18.1 a0_19.1 a0_20.1 a0_21.1 a0_22.1 a0_23.1 a0_24.1 a0_25.1 a1_0.1 a1_1.1 a1_2.1 a1_3.1 a1_4.1 a1_5.1 a1_6.1 a1_7.1 a1_8.1 a1_9.1 a1_10.1 a1_11.1 a1_12.1 a1_13.1 a1_14.1 a1_15.1 a1_16.1 a1_17.1 a1_18.1 a1_19.1 a1_20.1 a1_21.1 a1_22.1 a1_23.1 a1_24.1 a1_25.1 (fun y1 => k (.bool y1))
abbrev W23 (F : T23) : WT := wrap s23 (G23 F)
theorem k23 (F44 : T44) (F45 : T45) (F40 : T40) (β : Type) (e : argsT s23) (k : V → Option β) : fnK cfg (tabL [(44, W44 F44), (45, W45 F45), (40, W40 F40)]) noX 23 Tryz.f23 β (argsEnc s23 e) k = G23 (P23 F44 F45 F40 ) β e k := by kernel_rfl
theorem ok23 : FnOk D 23 (W23 F23) := fn_okW [(44, W44 F44), (45, W45 F45), (40, W40 F40)] noX (fun _ => rfl) Tryz.func23 rfl (tabL_cons ok44 (tabL_cons ok45 (tabL_cons ok40 tabL_nil))) (k23 F44 F45 F40 )

/-- laws.eqWorld -/
abbrev T8 : Type 1 := (β : Type) → List V → List V → List V → Int → List V → Int → Bool → List UInt8 → List UInt8 → Bool → List V → List V → List V → List UInt8 → List UInt8 → List V → Bool → List V → List V → List V → List V → List V → Int → Int → Int → Int → List V → List V → Bool → List V → List V → Int → Bool → List V → List V → List V → Int → List V → Int → Bool → List UInt8 → List UInt8 → Bool → List V → List V → List V → List UInt8 → List UInt8 → List V → Bool → List V → List V → List V → List V → List V → Int → Int → Int → Int → List V → List V → Bool → List V → List V → Int → Bool → (Bool → Option β) → Option β
def P8 (F21 : T21) (F22 : T22) (F23 : T23) : T8 := fun β a_Net_Servers a_Net_Cache_Entries a_Net_Log a_Net_Now a_Tab_Visits a_Tab_At a_Hidden_Ready a_Hidden_Page_Addr_Host a_Hidden_Page_Addr_Path a_Hidden_Page_Policy_Set a_Hidden_Page_Policy_Scripts a_Hidden_Page_Policy_Styles a_Hidden_Page_Policy_Images a_Hidden_Page_Policy_Nonce a_Hidden_Page_Tok_Rest a_Hidden_Page_Queue a_Hidden_Page_Ended a_Hidden_Page_Builder_Nodes a_Hidden_Page_Builder_Open a_Hidden_Page_Slots a_Hidden_Page_Mods a_Hidden_Page_Entries a_Hidden_Page_Block a_Hidden_Page_Inline a_Hidden_Page_Deferred a_Hidden_Page_Entered a_Hidden_Page_Ran a_Hidden_Page_Log a_Hidden_Page_Loaded a_Hidden_Taken a_Hidden_Servers a_Hidden_Now a_Fast b_Net_Servers b_Net_Cache_Entries b_Net_Log b_Net_Now b_Tab_Visits b_Tab_At b_Hidden_Ready b_Hidden_Page_Addr_Host b_Hidden_Page_Addr_Path b_Hidden_Page_Policy_Set b_Hidden_Page_Policy_Scripts b_Hidden_Page_Policy_Styles b_Hidden_Page_Policy_Images b_Hidden_Page_Policy_Nonce b_Hidden_Page_Tok_Rest b_Hidden_Page_Queue b_Hidden_Page_Ended b_Hidden_Page_Builder_Nodes b_Hidden_Page_Builder_Open b_Hidden_Page_Slots b_Hidden_Page_Mods b_Hidden_Page_Entries b_Hidden_Page_Block b_Hidden_Page_Inline b_Hidden_Page_Deferred b_Hidden_Page_Entered b_Hidden_Page_Ran b_Hidden_Page_Log b_Hidden_Page_Loaded b_Hidden_Taken b_Hidden_Servers b_Hidden_Now b_Fast k =>
 F21 _ a_Net_Servers a_Net_Cache_Entries a_Net_Log a_Net_Now b_Net_Servers b_Net_Cache_Entries b_Net_Log b_Net_Now fun b1 =>
 br (!b1) (
 k false) (
 F22 _ a_Tab_Visits a_Tab_At b_Tab_Visits b_Tab_At fun b2 =>
 br (!b2) (
 k false) (
 F23 _ a_Hidden_Ready a_Hidden_Page_Addr_Host a_Hidden_Page_Addr_Path a_Hidden_Page_Policy_Set a_Hidden_Page_Policy_Scripts a_Hidden_Page_Policy_Styles a_Hidden_Page_Policy_Images a_Hidden_Page_Policy_Nonce a_Hidden_Page_Tok_Rest a_Hidden_Page_Queue a_Hidden_Page_Ended a_Hidden_Page_Builder_Nodes a_Hidden_Page_Builder_Open a_Hidden_Page_Slots a_Hidden_Page_Mods a_Hidden_Page_Entries a_Hidden_Page_Block a_Hidden_Page_Inline a_Hidden_Page_Deferred a_Hidden_Page_Entered a_Hidden_Page_Ran a_Hidden_Page_Log a_Hidden_Page_Loaded a_Hidden_Taken a_Hidden_Servers a_Hidden_Now b_Hidden_Ready b_Hidden_Page_Addr_Host b_Hidden_Page_Addr_Path b_Hidden_Page_Policy_Set b_Hidden_Page_Policy_Scripts b_Hidden_Page_Policy_Styles b_Hidden_Page_Policy_Images b_Hidden_Page_Policy_Nonce b_Hidden_Page_Tok_Rest b_Hidden_Page_Queue b_Hidden_Page_Ended b_Hidden_Page_Builder_Nodes b_Hidden_Page_Builder_Open b_Hidden_Page_Slots b_Hidden_Page_Mods b_Hidden_Page_Entries b_Hidden_Page_Block b_Hidden_Page_Inline b_Hidden_Page_Deferred b_Hidden_Page_Entered b_Hidden_Page_Ran b_Hidden_Page_Log b_Hidden_Page_Loaded b_Hidden_Taken b_Hidden_Servers b_Hidden_Now fun b3 =>
 br (!b3) (
 k false) (
 br (!(a_Fast == b_Fast)) (
 k false) (
 k true))))
def F8 : T8 := P8 F21 F22 F23 
abbrev s8 : List (Bool × List CK) := [(true, [.sl 2 false, .sl 10 true, .sl 4 true, .int .i64, .sl 25 false, .int .i64, .bool, .str, .str, .bool, .sl 1 true, .sl 1 true, .sl 1 true, .str, .str, .sl 4 false, .bool, .sl 4 false, .sl 1 true, .sl 8 true, .sl 5 true, .sl 2 true, .int .i64, .int .i64, .int .i64, .int .i64, .sl 2 true, .sl 1 true, .bool, .sl 8 true, .sl 2 false, .int .i64, .bool]), (true, [.sl 2 false, .sl 10 true, .sl 4 true, .int .i64, .sl 25 false, .int .i64, .bool, .str, .str, .bool, .sl 1 true, .sl 1 true, .sl 1 true, .str, .str, .sl 4 false, .bool, .sl 4 false, .sl 1 true, .sl 8 true, .sl 5 true, .sl 2 true, .int .i64, .int .i64, .int .i64, .int .i64, .sl 2 true, .sl 1 true, .bool, .sl 8 true, .sl 2 false, .int .i64, .bool])]
def G8 (F : T8) (β : Type) (e : (List V × List V × List V × Int × List V × Int × Bool × List UInt8 × List UInt8 × Bool × List V × List V × List V × List UInt8 × List UInt8 × List V × Bool × List V × List V × List V × List V × List V × Int × Int × Int × Int × List V × List V × Bool × List V × List V × Int × Bool × Unit) × (List V × List V × List V × Int × List V × Int × Bool × List UInt8 × List UInt8 × Bool × List V × List V × List V × List UInt8 × List UInt8 × List V × Bool × List V × List V × List V × List V × List V × Int × Int × Int × Int × List V × List V × Bool × List V × List V × Int × Bool × Unit) × Unit) (k : V → Option β) : Option β := let a0_0 := e.1; let a0_1 := a0_0.2; let a0_2 := a0_1.2; let a0_3 := a0_2.2; let a0_4 := a0_3.2; let a0_5 := a0_4.2; let a0_6 := a0_5.2; let a0_7 := a0_6.2; let a0_8 := a0_7.2; let a0_9 := a0_8.2; let a0_10 := a0_9.2; let a0_11 := a0_10.2; let a0_12 := a0_11.2; let a0_13 := a0_12.2; let a0_14 := a0_13.2; let a0_15 := a0_14.2; let a0_16 := a0_15.2; let a0_17 := a0_16.2; let a0_18 := a0_17.2; let a0_19 := a0_18.2; let a0_20 := a0_19.2; let a0_21 := a0_20.2; let a0_22 := a0_21.2; let a0_23 := a0_22.2; let a0_24 := a0_23.2; let a0_25 := a0_24.2; let a0_26 := a0_25.2; let a0_27 := a0_26.2; let a0_28 := a0_27.2; let a0_29 := a0_28.2; let a0_30 := a0_29.2; let a0_31 := a0_30.2; let a0_32 := a0_31.2; let a1_0 := e.2.1; let a1_1 := a1_0.2; let a1_2 := a1_1.2; let a1_3 := a1_2.2; let a1_4 := a1_3.2; let a1_5 := a1_4.2; let a1_6 := a1_5.2; let a1_7 := a1_6.2; let a1_8 := a1_7.2; let a1_9 := a1_8.2; let a1_10 := a1_9.2; let a1_11 := a1_10.2; let a1_12 := a1_11.2; let a1_13 := a1_12.2; let a1_14 := a1_13.2; let a1_15 := a1_14.2; let a1_16 := a1_15.2; let a1_17 := a1_16.2; let a1_18 := a1_17.2; let a1_19 := a1_18.2; let a1_20 := a1_19.2; let a1_21 := a1_20.2; let a1_22 := a1_21.2; let a1_23 := a1_22.2; let a1_24 := a1_23.2; let a1_25 := a1_24.2; let a1_26 := a1_25.2; let a1_27 := a1_26.2; let a1_28 := a1_27.2; let a1_29 := a1_28.2; let a1_30 := a1_29.2; let a1_31 := a1_30.2; let a1_32 := a1_31.2; F β a0_0.1 a0_1.1 a0_2.1 a0_3.1 a0_4.1 a0_5.1 a0_6.1 a0_7.1 a0_8.1 a0_9.1 a0_10.1 a0_11.1 a0_12.1 a0_13.1 a0_14.1 a0_15.1 a0_16.1 a0_17.1 a0_18.1 a0_19.1 a0_20.1 a0_21.1 a0_22.1 a0_23.1 a0_24.1 a0_25.1 a0_26.1 a0_27.1 a0_28.1 a0_29.1 a0_30.1 a0_31.1 a0_32.1 a1_0.1 a1_1.1 a1_2.1 a1_3.1 a1_4.1 a1_5.1 a1_6.1 a1_7.1 a1_8.1 a1_9.1 a1_10.1 a1_11.1 a1_12.1 a1_13.1 a1_14.1 a1_15.1 a1_16.1 a1_17.1 a1_18.1 a1_19.1 a1_20.1 a1_21.1 a1_22.1 a1_23.1 a1_24.1 a1_25.1 a1_26.1 a1_27.1 a1_28.1 a1_29.1 a1_30.1 a1_31.1 a1_32.1 (fun y1 => k (.bool y1))
abbrev W8 (F : T8) : WT := wrap s8 (G8 F)
theorem k8 (F21 : T21) (F22 : T22) (F23 : T23) (β : Type) (e : argsT s8) (k : V → Option β) : fnK cfg (tabL [(21, W21 F21), (22, W22 F22), (23, W23 F23)]) noX 8 Tryz.f8 β (argsEnc s8 e) k = G8 (P8 F21 F22 F23 ) β e k := by kernel_rfl
theorem ok8 : FnOk D 8 (W8 F8) := fn_okW [(21, W21 F21), (22, W22 F22), (23, W23 F23)] noX (fun _ => rfl) Tryz.func8 rfl (tabL_cons ok21 (tabL_cons ok22 (tabL_cons ok23 tabL_nil))) (k8 F21 F22 F23 )

/-- laws.FnExactFormatWorld -/
abbrev T3 : Type 1 := (β : Type) → List V → List V → List V → Int → List V → Int → Bool → List UInt8 → List UInt8 → Bool → List V → List V → List V → List UInt8 → List UInt8 → List V → Bool → List V → List V → List V → List V → List V → Int → Int → Int → Int → List V → List V → Bool → List V → List V → Int → Bool → (Bool → Option β) → Option β
def P3 (F4 : T4) (F6 : T6) (F5 : T5) (F7 : T7) (F8 : T8) : T3 := fun β aW_Net_Servers aW_Net_Cache_Entries aW_Net_Log aW_Net_Now aW_Tab_Visits aW_Tab_At aW_Hidden_Ready aW_Hidden_Page_Addr_Host aW_Hidden_Page_Addr_Path aW_Hidden_Page_Policy_Set aW_Hidden_Page_Policy_Scripts aW_Hidden_Page_Policy_Styles aW_Hidden_Page_Policy_Images aW_Hidden_Page_Policy_Nonce aW_Hidden_Page_Tok_Rest aW_Hidden_Page_Queue aW_Hidden_Page_Ended aW_Hidden_Page_Builder_Nodes aW_Hidden_Page_Builder_Open aW_Hidden_Page_Slots aW_Hidden_Page_Mods aW_Hidden_Page_Entries aW_Hidden_Page_Block aW_Hidden_Page_Inline aW_Hidden_Page_Deferred aW_Hidden_Page_Entered aW_Hidden_Page_Ran aW_Hidden_Page_Log aW_Hidden_Page_Loaded aW_Hidden_Taken aW_Hidden_Servers aW_Hidden_Now aW_Fast k =>
 F4 _ aW_Net_Servers aW_Net_Cache_Entries aW_Net_Log aW_Net_Now aW_Tab_Visits aW_Tab_At aW_Hidden_Ready aW_Hidden_Page_Addr_Host aW_Hidden_Page_Addr_Path aW_Hidden_Page_Policy_Set aW_Hidden_Page_Policy_Scripts aW_Hidden_Page_Policy_Styles aW_Hidden_Page_Policy_Images aW_Hidden_Page_Policy_Nonce aW_Hidden_Page_Tok_Rest aW_Hidden_Page_Queue aW_Hidden_Page_Ended aW_Hidden_Page_Builder_Nodes aW_Hidden_Page_Builder_Open aW_Hidden_Page_Slots aW_Hidden_Page_Mods aW_Hidden_Page_Entries aW_Hidden_Page_Block aW_Hidden_Page_Inline aW_Hidden_Page_Deferred aW_Hidden_Page_Entered aW_Hidden_Page_Ran aW_Hidden_Page_Log aW_Hidden_Page_Loaded aW_Hidden_Taken aW_Hidden_Servers aW_Hidden_Now aW_Fast 1048576 fun n1 =>
 br (decide (n1 < 0)) (
 k true) (
 F6 _ aW_Net_Servers aW_Net_Cache_Entries aW_Net_Log aW_Net_Now aW_Tab_Visits aW_Tab_At aW_Hidden_Ready aW_Hidden_Page_Addr_Host aW_Hidden_Page_Addr_Path aW_Hidden_Page_Policy_Set aW_Hidden_Page_Policy_Scripts aW_Hidden_Page_Policy_Styles aW_Hidden_Page_Policy_Images aW_Hidden_Page_Policy_Nonce aW_Hidden_Page_Tok_Rest aW_Hidden_Page_Queue aW_Hidden_Page_Ended aW_Hidden_Page_Builder_Nodes aW_Hidden_Page_Builder_Open aW_Hidden_Page_Slots aW_Hidden_Page_Mods aW_Hidden_Page_Entries aW_Hidden_Page_Block aW_Hidden_Page_Inline aW_Hidden_Page_Deferred aW_Hidden_Page_Entered aW_Hidden_Page_Ran aW_Hidden_Page_Log aW_Hidden_Page_Loaded aW_Hidden_Taken aW_Hidden_Servers aW_Hidden_Now aW_Fast fun l2 l3 l4 n5 l6 n7 b8 t9 t10 b11 l12 l13 l14 t15 t16 l17 b18 l19 l20 l21 l22 l23 n24 n25 n26 n27 l28 l29 b30 l31 l32 n33 b34 =>
 F5 _ l2 l3 l4 n5 l6 n7 b8 t9 t10 b11 l12 l13 l14 t15 t16 l17 b18 l19 l20 l21 l22 l23 n24 n25 n26 n27 l28 l29 b30 l31 l32 n33 b34 fun t35 =>
 F6 _ aW_Net_Servers aW_Net_Cache_Entries aW_Net_Log aW_Net_Now aW_Tab_Visits aW_Tab_At aW_Hidden_Ready aW_Hidden_Page_Addr_Host aW_Hidden_Page_Addr_Path aW_Hidden_Page_Policy_Set aW_Hidden_Page_Policy_Scripts aW_Hidden_Page_Policy_Styles aW_Hidden_Page_Policy_Images aW_Hidden_Page_Policy_Nonce aW_Hidden_Page_Tok_Rest aW_Hidden_Page_Queue aW_Hidden_Page_Ended aW_Hidden_Page_Builder_Nodes aW_Hidden_Page_Builder_Open aW_Hidden_Page_Slots aW_Hidden_Page_Mods aW_Hidden_Page_Entries aW_Hidden_Page_Block aW_Hidden_Page_Inline aW_Hidden_Page_Deferred aW_Hidden_Page_Entered aW_Hidden_Page_Ran aW_Hidden_Page_Log aW_Hidden_Page_Loaded aW_Hidden_Taken aW_Hidden_Servers aW_Hidden_Now aW_Fast fun l36 l37 l38 n39 l40 n41 b42 t43 t44 b45 l46 l47 l48 t49 t50 l51 b52 l53 l54 l55 l56 l57 n58 n59 n60 n61 l62 l63 b64 l65 l66 n67 b68 =>
 F7 _ l36 l37 l38 n39 l40 n41 b42 t43 t44 b45 l46 l47 l48 t49 t50 l51 b52 l53 l54 l55 l56 l57 n58 n59 n60 n61 l62 l63 b64 l65 l66 n67 b68 fun t69 =>
 br (!(t69 == t35)) (
 k false) (
 F6 _ aW_Net_Servers aW_Net_Cache_Entries aW_Net_Log aW_Net_Now aW_Tab_Visits aW_Tab_At aW_Hidden_Ready aW_Hidden_Page_Addr_Host aW_Hidden_Page_Addr_Path aW_Hidden_Page_Policy_Set aW_Hidden_Page_Policy_Scripts aW_Hidden_Page_Policy_Styles aW_Hidden_Page_Policy_Images aW_Hidden_Page_Policy_Nonce aW_Hidden_Page_Tok_Rest aW_Hidden_Page_Queue aW_Hidden_Page_Ended aW_Hidden_Page_Builder_Nodes aW_Hidden_Page_Builder_Open aW_Hidden_Page_Slots aW_Hidden_Page_Mods aW_Hidden_Page_Entries aW_Hidden_Page_Block aW_Hidden_Page_Inline aW_Hidden_Page_Deferred aW_Hidden_Page_Entered aW_Hidden_Page_Ran aW_Hidden_Page_Log aW_Hidden_Page_Loaded aW_Hidden_Taken aW_Hidden_Servers aW_Hidden_Now aW_Fast fun l70 l71 l72 n73 l74 n75 b76 t77 t78 b79 l80 l81 l82 t83 t84 l85 b86 l87 l88 l89 l90 l91 n92 n93 n94 n95 l96 l97 b98 l99 l100 n101 b102 =>
 F8 _ l36 l37 l38 n39 l40 n41 b42 t43 t44 b45 l46 l47 l48 t49 t50 l51 b52 l53 l54 l55 l56 l57 n58 n59 n60 n61 l62 l63 b64 l65 l66 n67 b68 l70 l71 l72 n73 l74 n75 b76 t77 t78 b79 l80 l81 l82 t83 t84 l85 b86 l87 l88 l89 l90 l91 n92 n93 n94 n95 l96 l97 b98 l99 l100 n101 b102 fun b103 =>
 br (!b103) (
 k false) (
 k true)))
def F3 : T3 := P3 F4 F6 F5 F7 F8 
abbrev s3 : List (Bool × List CK) := [(true, [.sl 2 false, .sl 10 true, .sl 4 true, .int .i64, .sl 25 false, .int .i64, .bool, .str, .str, .bool, .sl 1 true, .sl 1 true, .sl 1 true, .str, .str, .sl 4 false, .bool, .sl 4 false, .sl 1 true, .sl 8 true, .sl 5 true, .sl 2 true, .int .i64, .int .i64, .int .i64, .int .i64, .sl 2 true, .sl 1 true, .bool, .sl 8 true, .sl 2 false, .int .i64, .bool])]
def G3 (F : T3) (β : Type) (e : (List V × List V × List V × Int × List V × Int × Bool × List UInt8 × List UInt8 × Bool × List V × List V × List V × List UInt8 × List UInt8 × List V × Bool × List V × List V × List V × List V × List V × Int × Int × Int × Int × List V × List V × Bool × List V × List V × Int × Bool × Unit) × Unit) (k : V → Option β) : Option β := let a0_0 := e.1; let a0_1 := a0_0.2; let a0_2 := a0_1.2; let a0_3 := a0_2.2; let a0_4 := a0_3.2; let a0_5 := a0_4.2; let a0_6 := a0_5.2; let a0_7 := a0_6.2; let a0_8 := a0_7.2; let a0_9 := a0_8.2; let a0_10 := a0_9.2; let a0_11 := a0_10.2; let a0_12 := a0_11.2; let a0_13 := a0_12.2; let a0_14 := a0_13.2; let a0_15 := a0_14.2; let a0_16 := a0_15.2; let a0_17 := a0_16.2; let a0_18 := a0_17.2; let a0_19 := a0_18.2; let a0_20 := a0_19.2; let a0_21 := a0_20.2; let a0_22 := a0_21.2; let a0_23 := a0_22.2; let a0_24 := a0_23.2; let a0_25 := a0_24.2; let a0_26 := a0_25.2; let a0_27 := a0_26.2; let a0_28 := a0_27.2; let a0_29 := a0_28.2; let a0_30 := a0_29.2; let a0_31 := a0_30.2; let a0_32 := a0_31.2; F β a0_0.1 a0_1.1 a0_2.1 a0_3.1 a0_4.1 a0_5.1 a0_6.1 a0_7.1 a0_8.1 a0_9.1 a0_10.1 a0_11.1 a0_12.1 a0_13.1 a0_14.1 a0_15.1 a0_16.1 a0_17.1 a0_18.1 a0_19.1 a0_20.1 a0_21.1 a0_22.1 a0_23.1 a0_24.1 a0_25.1 a0_26.1 a0_27.1 a0_28.1 a0_29.1 a0_30.1 a0_31.1 a0_32.1 (fun y1 => k (.bool y1))
abbrev W3 (F : T3) : WT := wrap s3 (G3 F)
theorem k3 (F4 : T4) (F6 : T6) (F5 : T5) (F7 : T7) (F8 : T8) (β : Type) (e : argsT s3) (k : V → Option β) : fnK cfg (tabL [(4, W4 F4), (6, W6 F6), (5, W5 F5), (7, W7 F7), (8, W8 F8)]) noX 3 Tryz.f3 β (argsEnc s3 e) k = G3 (P3 F4 F6 F5 F7 F8 ) β e k := by kernel_rfl
theorem ok3 : FnOk D 3 (W3 F3) := fn_okW [(4, W4 F4), (6, W6 F6), (5, W5 F5), (7, W7 F7), (8, W8 F8)] noX (fun _ => rfl) Tryz.func3 rfl (tabL_cons ok4 (tabL_cons ok6 (tabL_cons ok5 (tabL_cons ok7 (tabL_cons ok8 tabL_nil))))) (k3 F4 F6 F5 F7 F8 )

end
end Go.Am

/-
  Functions of the program, extracted by program (sym.py) out of their code: what each computes, and, by the kernel's reckoning, that the machine's looking form computes just that; so what the machine answers.
-/
import Derived.Test.YtkfcbnbmekljnaaAmCfg
import Derived.Test.YtkfcbnbmekljnaaAmEvOk2
import Derived.KernelRfl
set_option maxRecDepth 10000
set_option linter.unusedVariables false
namespace Go.Am
open Go Go.Proofs
noncomputable section
abbrev WT : Type 1 := (β : Type) → List V → (V → Option β) → Option β
/-- laws.szResponse -/
abbrev T76 : Type 1 := (β : Type) → Int → Int → List UInt8 → Int → Bool → List UInt8 → Int → (Int → Option β) → Option β
def P76 : T76 := fun β a_Status a_Kind a_Body a_Age a_Shares a_Policy left k =>
 br (decide (IntKind.wrap .i64 (left - (a_Body.length : Int)) < 0)) (
 k (-1)) (
 br (decide (IntKind.wrap .i64 ((IntKind.wrap .i64 (left - (a_Body.length : Int))) - (a_Policy.length : Int)) < 0)) (
 k (-1)) (
 k (IntKind.wrap .i64 ((IntKind.wrap .i64 (left - (a_Body.length : Int))) - (a_Policy.length : Int)))))
def F76 : T76 := P76 
abbrev s76 : List (Bool × List CK) := [(true, [.int .i64, .int .i64, .str, .int .i64, .bool, .str]), (false, [.int .i64])]
def G76 (F : T76) (β : Type) (e : (Int × Int × List UInt8 × Int × Bool × List UInt8 × Unit) × (Int × Unit) × Unit) (k : V → Option β) : Option β := let a0_0 := e.1; let a0_1 := a0_0.2; let a0_2 := a0_1.2; let a0_3 := a0_2.2; let a0_4 := a0_3.2; let a0_5 := a0_4.2; F β a0_0.1 a0_1.1 a0_2.1 a0_3.1 a0_4.1 a0_5.1 e.2.1.1 (fun y1 => k (.int .i64 y1))
abbrev W76 (F : T76) : WT := wrap s76 (G76 F)
theorem k76 (β : Type) (e : argsT s76) (k : V → Option β) : fnK cfg (tabL []) noX 76 Try.f76 β (argsEnc s76 e) k = G76 (P76 ) β e k := by kernel_rfl
theorem ok76 : FnOk D 76 (W76 F76) := fn_okW [] noX (fun _ => rfl) Try.func76 rfl (tabL_nil) (k76 )

/-- laws.szFile -/
abbrev T75 : Type 1 := (β : Type) → List UInt8 → Int → Int → List UInt8 → Int → Bool → List UInt8 → Int → (Int → Option β) → Option β
def P75 (F76 : T76) : T75 := fun β a_Path a_Response_Status a_Response_Kind a_Response_Body a_Response_Age a_Response_Shares a_Response_Policy left k =>
 br (decide (IntKind.wrap .i64 (left - (a_Path.length : Int)) < 0)) (
 k (-1)) (
 F76 _ a_Response_Status a_Response_Kind a_Response_Body a_Response_Age a_Response_Shares a_Response_Policy (IntKind.wrap .i64 (left - (a_Path.length : Int))) fun n1 =>
 br (decide (n1 < 0)) (
 k (-1)) (
 k n1))
def F75 : T75 := P75 F76 
abbrev s75 : List (Bool × List CK) := [(true, [.str, .int .i64, .int .i64, .str, .int .i64, .bool, .str]), (false, [.int .i64])]
def G75 (F : T75) (β : Type) (e : (List UInt8 × Int × Int × List UInt8 × Int × Bool × List UInt8 × Unit) × (Int × Unit) × Unit) (k : V → Option β) : Option β := let a0_0 := e.1; let a0_1 := a0_0.2; let a0_2 := a0_1.2; let a0_3 := a0_2.2; let a0_4 := a0_3.2; let a0_5 := a0_4.2; let a0_6 := a0_5.2; F β a0_0.1 a0_1.1 a0_2.1 a0_3.1 a0_4.1 a0_5.1 a0_6.1 e.2.1.1 (fun y1 => k (.int .i64 y1))
abbrev W75 (F : T75) : WT := wrap s75 (G75 F)
theorem k75 (F76 : T76) (β : Type) (e : argsT s75) (k : V → Option β) : fnK cfg (tabL [(76, W76 F76)]) noX 75 Try.f75 β (argsEnc s75 e) k = G75 (P75 F76 ) β e k := by kernel_rfl
theorem ok75 : FnOk D 75 (W75 F75) := fn_okW [(76, W76 F76)] noX (fun _ => rfl) Try.func75 rfl (tabL_cons ok76 tabL_nil) (k75 F76 )

/-- laws.szFileS -/
abbrev T58 : Type 1 := (β : Type) → List V → Int → (Int → Option β) → Option β
def P58 (F75 : T75) : T58 := fun β a left k =>
 br (decide (IntKind.wrap .i64 (left - (a.length : Int)) < 0)) (
 k (-1)) (
 whileK (fun s1 =>
 br (decide ((lI s1 2) < ((lL s1 0).length : Int))) (
 chk (0 ≤ (lI s1 2)) <|
 idx true [.str, .int .i64, .int .i64, .str, .int .i64, .bool, .str] (lL s1 0) ((lI s1 2).toNat) fun (e2 : List UInt8 × Int × Int × List UInt8 × Int × Bool × List UInt8 × Unit) =>
 F75 _ e2.1 e2.2.1 e2.2.2.1 e2.2.2.2.1 e2.2.2.2.2.1 e2.2.2.2.2.2.1 e2.2.2.2.2.2.2.1 (lI s1 1) fun n3 =>
 br (decide (n3 < 0)) (
 some (.inr (0, [.i n3, .i (-1)]))) (
 some (.inl [.l (lL s1 0), .i n3, .i (IntKind.wrap .i64 ((lI s1 2) + 1))]))) (
 some (.inr (1, [.i (lI s1 1)])))) [.l a, .i (IntKind.wrap .i64 (left - (a.length : Int))), .i 0] fun (r4 : Nat × List Leaf) =>
 if r4.1 = 0 then
 k (lI r4.2 1)
 else
 k (lI r4.2 0))
def F58 : T58 := P58 F75 
def X58 : Exits := fun i => lookN i [] [(5, [(.ret, xk 27 [(1, .int .i64 0), (4, .int .i64 0)] []), (.exit 0, xk 27 [(1, .int .i64 0)] [])])]
abbrev s58 : List (Bool × List CK) := [(false, [.sl 7 true]), (false, [.int .i64])]
def G58 (F : T58) (β : Type) (e : (List V × Unit) × (Int × Unit) × Unit) (k : V → Option β) : Option β := F β e.1.1 e.2.1.1 (fun y1 => k (.int .i64 y1))
abbrev W58 (F : T58) : WT := wrap s58 (G58 F)
theorem k58 (F75 : T75) (β : Type) (e : argsT s58) (k : V → Option β) : fnK cfg (tabL [(75, W75 F75)]) X58 58 Try.f58 β (argsEnc s58 e) k = G58 (P58 F75 ) β e k := by kernel_rfl
theorem ok58 : FnOk D 58 (W58 F58) := fn_okW [(75, W75 F75)] X58 (fun _ => rfl) Try.func58 rfl (tabL_cons ok75 tabL_nil) (k58 F75 )

/-- laws.szServer -/
abbrev T40 : Type 1 := (β : Type) → List UInt8 → List V → Int → (Int → Option β) → Option β
def P40 (F58 : T58) : T40 := fun β a_Host a_Files left k =>
 br (decide (IntKind.wrap .i64 (left - (a_Host.length : Int)) < 0)) (
 k (-1)) (
 F58 _ a_Files (IntKind.wrap .i64 (left - (a_Host.length : Int))) fun n1 =>
 br (decide (n1 < 0)) (
 k (-1)) (
 k n1))
def F40 : T40 := P40 F58 
abbrev s40 : List (Bool × List CK) := [(true, [.str, .sl 7 true]), (false, [.int .i64])]
def G40 (F : T40) (β : Type) (e : (List UInt8 × List V × Unit) × (Int × Unit) × Unit) (k : V → Option β) : Option β := F β e.1.1 e.1.2.1 e.2.1.1 (fun y1 => k (.int .i64 y1))
abbrev W40 (F : T40) : WT := wrap s40 (G40 F)
theorem k40 (F58 : T58) (β : Type) (e : argsT s40) (k : V → Option β) : fnK cfg (tabL [(58, W58 F58)]) noX 40 Try.f40 β (argsEnc s40 e) k = G40 (P40 F58 ) β e k := by kernel_rfl
theorem ok40 : FnOk D 40 (W40 F40) := fn_okW [(58, W58 F58)] noX (fun _ => rfl) Try.func40 rfl (tabL_cons ok58 tabL_nil) (k40 F58 )

/-- laws.szServerS -/
abbrev T16 : Type 1 := (β : Type) → List V → Int → (Int → Option β) → Option β
def P16 (F40 : T40) : T16 := fun β a left k =>
 br (decide (IntKind.wrap .i64 (left - (a.length : Int)) < 0)) (
 k (-1)) (
 whileK (fun s1 =>
 br (decide ((lI s1 2) < ((lL s1 0).length : Int))) (
 chk (0 ≤ (lI s1 2)) <|
 idx true [.str, .sl 7 true] (lL s1 0) ((lI s1 2).toNat) fun (e2 : List UInt8 × List V × Unit) =>
 F40 _ e2.1 e2.2.1 (lI s1 1) fun n3 =>
 br (decide (n3 < 0)) (
 some (.inr (0, [.i n3, .i (-1)]))) (
 some (.inl [.l (lL s1 0), .i n3, .i (IntKind.wrap .i64 ((lI s1 2) + 1))]))) (
 some (.inr (1, [.i (lI s1 1)])))) [.l a, .i (IntKind.wrap .i64 (left - (a.length : Int))), .i 0] fun (r4 : Nat × List Leaf) =>
 if r4.1 = 0 then
 k (lI r4.2 1)
 else
 k (lI r4.2 0))
def F16 : T16 := P16 F40 
def X16 : Exits := fun i => lookN i [] [(5, [(.ret, xk 27 [(1, .int .i64 0), (4, .int .i64 0)] []), (.exit 0, xk 27 [(1, .int .i64 0)] [])])]
abbrev s16 : List (Bool × List CK) := [(false, [.sl 2 false]), (false, [.int .i64])]
def G16 (F : T16) (β : Type) (e : (List V × Unit) × (Int × Unit) × Unit) (k : V → Option β) : Option β := F β e.1.1 e.2.1.1 (fun y1 => k (.int .i64 y1))
abbrev W16 (F : T16) : WT := wrap s16 (G16 F)
theorem k16 (F40 : T40) (β : Type) (e : argsT s16) (k : V → Option β) : fnK cfg (tabL [(40, W40 F40)]) X16 16 Try.f16 β (argsEnc s16 e) k = G16 (P16 F40 ) β e k := by kernel_rfl
theorem ok16 : FnOk D 16 (W16 F16) := fn_okW [(40, W40 F40)] X16 (fun _ => rfl) Try.func16 rfl (tabL_cons ok40 tabL_nil) (k16 F40 )

/-- laws.szAddr -/
abbrev T60 : Type 1 := (β : Type) → List UInt8 → List UInt8 → Int → (Int → Option β) → Option β
def P60 : T60 := fun β a_Host a_Path left k =>
 br (decide (IntKind.wrap .i64 (left - (a_Host.length : Int)) < 0)) (
 k (-1)) (
 br (decide (IntKind.wrap .i64 ((IntKind.wrap .i64 (left - (a_Host.length : Int))) - (a_Path.length : Int)) < 0)) (
 k (-1)) (
 k (IntKind.wrap .i64 ((IntKind.wrap .i64 (left - (a_Host.length : Int))) - (a_Path.length : Int)))))
def F60 : T60 := P60 
abbrev s60 : List (Bool × List CK) := [(true, [.str, .str]), (false, [.int .i64])]
def G60 (F : T60) (β : Type) (e : (List UInt8 × List UInt8 × Unit) × (Int × Unit) × Unit) (k : V → Option β) : Option β := F β e.1.1 e.1.2.1 e.2.1.1 (fun y1 => k (.int .i64 y1))
abbrev W60 (F : T60) : WT := wrap s60 (G60 F)
theorem k60 (β : Type) (e : argsT s60) (k : V → Option β) : fnK cfg (tabL []) noX 60 Try.f60 β (argsEnc s60 e) k = G60 (P60 ) β e k := by kernel_rfl
theorem ok60 : FnOk D 60 (W60 F60) := fn_okW [] noX (fun _ => rfl) Try.func60 rfl (tabL_nil) (k60 )

/-- laws.szEntry -/
abbrev T59 : Type 1 := (β : Type) → List UInt8 → List UInt8 → List UInt8 → Int → Int → List UInt8 → Int → Bool → List UInt8 → Int → Int → (Int → Option β) → Option β
def P59 (F60 : T60) (F76 : T76) : T59 := fun β a_Top a_To_Host a_To_Path a_Response_Status a_Response_Kind a_Response_Body a_Response_Age a_Response_Shares a_Response_Policy a_Until left k =>
 br (decide (IntKind.wrap .i64 (left - (a_Top.length : Int)) < 0)) (
 k (-1)) (
 F60 _ a_To_Host a_To_Path (IntKind.wrap .i64 (left - (a_Top.length : Int))) fun n1 =>
 br (decide (n1 < 0)) (
 k (-1)) (
 F76 _ a_Response_Status a_Response_Kind a_Response_Body a_Response_Age a_Response_Shares a_Response_Policy n1 fun n2 =>
 br (decide (n2 < 0)) (
 k (-1)) (
 k n2)))
def F59 : T59 := P59 F60 F76 
abbrev s59 : List (Bool × List CK) := [(true, [.str, .str, .str, .int .i64, .int .i64, .str, .int .i64, .bool, .str, .int .i64]), (false, [.int .i64])]
def G59 (F : T59) (β : Type) (e : (List UInt8 × List UInt8 × List UInt8 × Int × Int × List UInt8 × Int × Bool × List UInt8 × Int × Unit) × (Int × Unit) × Unit) (k : V → Option β) : Option β := let a0_0 := e.1; let a0_1 := a0_0.2; let a0_2 := a0_1.2; let a0_3 := a0_2.2; let a0_4 := a0_3.2; let a0_5 := a0_4.2; let a0_6 := a0_5.2; let a0_7 := a0_6.2; let a0_8 := a0_7.2; let a0_9 := a0_8.2; F β a0_0.1 a0_1.1 a0_2.1 a0_3.1 a0_4.1 a0_5.1 a0_6.1 a0_7.1 a0_8.1 a0_9.1 e.2.1.1 (fun y1 => k (.int .i64 y1))
abbrev W59 (F : T59) : WT := wrap s59 (G59 F)
theorem k59 (F60 : T60) (F76 : T76) (β : Type) (e : argsT s59) (k : V → Option β) : fnK cfg (tabL [(60, W60 F60), (76, W76 F76)]) noX 59 Try.f59 β (argsEnc s59 e) k = G59 (P59 F60 F76 ) β e k := by kernel_rfl
theorem ok59 : FnOk D 59 (W59 F59) := fn_okW [(60, W60 F60), (76, W76 F76)] noX (fun _ => rfl) Try.func59 rfl (tabL_cons ok60 (tabL_cons ok76 tabL_nil)) (k59 F60 F76 )

/-- laws.szEntryS -/
abbrev T41 : Type 1 := (β : Type) → List V → Int → (Int → Option β) → Option β
def P41 (F59 : T59) : T41 := fun β a left k =>
 br (decide (IntKind.wrap .i64 (left - (a.length : Int)) < 0)) (
 k (-1)) (
 whileK (fun s1 =>
 br (decide ((lI s1 2) < ((lL s1 0).length : Int))) (
 chk (0 ≤ (lI s1 2)) <|
 idx true [.str, .str, .str, .int .i64, .int .i64, .str, .int .i64, .bool, .str, .int .i64] (lL s1 0) ((lI s1 2).toNat) fun (e2 : List UInt8 × List UInt8 × List UInt8 × Int × Int × List UInt8 × Int × Bool × List UInt8 × Int × Unit) =>
 F59 _ e2.1 e2.2.1 e2.2.2.1 e2.2.2.2.1 e2.2.2.2.2.1 e2.2.2.2.2.2.1 e2.2.2.2.2.2.2.1 e2.2.2.2.2.2.2.2.1 e2.2.2.2.2.2.2.2.2.1 e2.2.2.2.2.2.2.2.2.2.1 (lI s1 1) fun n3 =>
 br (decide (n3 < 0)) (
 some (.inr (0, [.i n3, .i (-1)]))) (
 some (.inl [.l (lL s1 0), .i n3, .i (IntKind.wrap .i64 ((lI s1 2) + 1))]))) (
 some (.inr (1, [.i (lI s1 1)])))) [.l a, .i (IntKind.wrap .i64 (left - (a.length : Int))), .i 0] fun (r4 : Nat × List Leaf) =>
 if r4.1 = 0 then
 k (lI r4.2 1)
 else
 k (lI r4.2 0))
def F41 : T41 := P41 F59 
def X41 : Exits := fun i => lookN i [] [(5, [(.ret, xk 27 [(1, .int .i64 0), (4, .int .i64 0)] []), (.exit 0, xk 27 [(1, .int .i64 0)] [])])]
abbrev s41 : List (Bool × List CK) := [(false, [.sl 10 true]), (false, [.int .i64])]
def G41 (F : T41) (β : Type) (e : (List V × Unit) × (Int × Unit) × Unit) (k : V → Option β) : Option β := F β e.1.1 e.2.1.1 (fun y1 => k (.int .i64 y1))
abbrev W41 (F : T41) : WT := wrap s41 (G41 F)
theorem k41 (F59 : T59) (β : Type) (e : argsT s41) (k : V → Option β) : fnK cfg (tabL [(59, W59 F59)]) X41 41 Try.f41 β (argsEnc s41 e) k = G41 (P41 F59 ) β e k := by kernel_rfl
theorem ok41 : FnOk D 41 (W41 F41) := fn_okW [(59, W59 F59)] X41 (fun _ => rfl) Try.func41 rfl (tabL_cons ok59 tabL_nil) (k41 F59 )

/-- laws.szCache -/
abbrev T17 : Type 1 := (β : Type) → List V → Int → (Int → Option β) → Option β
def P17 (F41 : T41) : T17 := fun β a_Entries left k =>
 F41 _ a_Entries left fun n1 =>
 br (decide (n1 < 0)) (
 k (-1)) (
 k n1)
def F17 : T17 := P17 F41 
abbrev s17 : List (Bool × List CK) := [(true, [.sl 10 true]), (false, [.int .i64])]
def G17 (F : T17) (β : Type) (e : (List V × Unit) × (Int × Unit) × Unit) (k : V → Option β) : Option β := F β e.1.1 e.2.1.1 (fun y1 => k (.int .i64 y1))
abbrev W17 (F : T17) : WT := wrap s17 (G17 F)
theorem k17 (F41 : T41) (β : Type) (e : argsT s17) (k : V → Option β) : fnK cfg (tabL [(41, W41 F41)]) noX 17 Try.f17 β (argsEnc s17 e) k = G17 (P17 F41 ) β e k := by kernel_rfl
theorem ok17 : FnOk D 17 (W17 F17) := fn_okW [(41, W41 F41)] noX (fun _ => rfl) Try.func17 rfl (tabL_cons ok41 tabL_nil) (k17 F41 )

/-- laws.szSent -/
abbrev T42 : Type 1 := (β : Type) → List UInt8 → List UInt8 → List UInt8 → Bool → Int → (Int → Option β) → Option β
def P42 (F60 : T60) : T42 := fun β a_Top a_To_Host a_To_Path a_Guess left k =>
 br (decide (IntKind.wrap .i64 (left - (a_Top.length : Int)) < 0)) (
 k (-1)) (
 F60 _ a_To_Host a_To_Path (IntKind.wrap .i64 (left - (a_Top.length : Int))) fun n1 =>
 br (decide (n1 < 0)) (
 k (-1)) (
 k n1))
def F42 : T42 := P42 F60 
abbrev s42 : List (Bool × List CK) := [(true, [.str, .str, .str, .bool]), (false, [.int .i64])]
def G42 (F : T42) (β : Type) (e : (List UInt8 × List UInt8 × List UInt8 × Bool × Unit) × (Int × Unit) × Unit) (k : V → Option β) : Option β := F β e.1.1 e.1.2.1 e.1.2.2.1 e.1.2.2.2.1 e.2.1.1 (fun y1 => k (.int .i64 y1))
abbrev W42 (F : T42) : WT := wrap s42 (G42 F)
theorem k42 (F60 : T60) (β : Type) (e : argsT s42) (k : V → Option β) : fnK cfg (tabL [(60, W60 F60)]) noX 42 Try.f42 β (argsEnc s42 e) k = G42 (P42 F60 ) β e k := by kernel_rfl
theorem ok42 : FnOk D 42 (W42 F42) := fn_okW [(60, W60 F60)] noX (fun _ => rfl) Try.func42 rfl (tabL_cons ok60 tabL_nil) (k42 F60 )

/-- laws.szSentS -/
abbrev T18 : Type 1 := (β : Type) → List V → Int → (Int → Option β) → Option β
def P18 (F42 : T42) : T18 := fun β a left k =>
 br (decide (IntKind.wrap .i64 (left - (a.length : Int)) < 0)) (
 k (-1)) (
 whileK (fun s1 =>
 br (decide ((lI s1 2) < ((lL s1 0).length : Int))) (
 chk (0 ≤ (lI s1 2)) <|
 idx true [.str, .str, .str, .bool] (lL s1 0) ((lI s1 2).toNat) fun (e2 : List UInt8 × List UInt8 × List UInt8 × Bool × Unit) =>
 F42 _ e2.1 e2.2.1 e2.2.2.1 e2.2.2.2.1 (lI s1 1) fun n3 =>
 br (decide (n3 < 0)) (
 some (.inr (0, [.i n3, .i (-1)]))) (
 some (.inl [.l (lL s1 0), .i n3, .i (IntKind.wrap .i64 ((lI s1 2) + 1))]))) (
 some (.inr (1, [.i (lI s1 1)])))) [.l a, .i (IntKind.wrap .i64 (left - (a.length : Int))), .i 0] fun (r4 : Nat × List Leaf) =>
 if r4.1 = 0 then
 k (lI r4.2 1)
 else
 k (lI r4.2 0))
def F18 : T18 := P18 F42 
def X18 : Exits := fun i => lookN i [] [(5, [(.ret, xk 27 [(1, .int .i64 0), (4, .int .i64 0)] []), (.exit 0, xk 27 [(1, .int .i64 0)] [])])]
abbrev s18 : List (Bool × List CK) := [(false, [.sl 4 true]), (false, [.int .i64])]
def G18 (F : T18) (β : Type) (e : (List V × Unit) × (Int × Unit) × Unit) (k : V → Option β) : Option β := F β e.1.1 e.2.1.1 (fun y1 => k (.int .i64 y1))
abbrev W18 (F : T18) : WT := wrap s18 (G18 F)
theorem k18 (F42 : T42) (β : Type) (e : argsT s18) (k : V → Option β) : fnK cfg (tabL [(42, W42 F42)]) X18 18 Try.f18 β (argsEnc s18 e) k = G18 (P18 F42 ) β e k := by kernel_rfl
theorem ok18 : FnOk D 18 (W18 F18) := fn_okW [(42, W42 F42)] X18 (fun _ => rfl) Try.func18 rfl (tabL_cons ok42 tabL_nil) (k18 F42 )

/-- laws.szNet -/
abbrev T5 : Type 1 := (β : Type) → List V → List V → List V → Int → Int → (Int → Option β) → Option β
def P5 (F16 : T16) (F17 : T17) (F18 : T18) : T5 := fun β a_Servers a_Cache_Entries a_Log a_Now left k =>
 F16 _ a_Servers left fun n1 =>
 br (decide (n1 < 0)) (
 k (-1)) (
 F17 _ a_Cache_Entries n1 fun n2 =>
 br (decide (n2 < 0)) (
 k (-1)) (
 F18 _ a_Log n2 fun n3 =>
 br (decide (n3 < 0)) (
 k (-1)) (
 k n3)))
def F5 : T5 := P5 F16 F17 F18 
abbrev s5 : List (Bool × List CK) := [(true, [.sl 2 false, .sl 10 true, .sl 4 true, .int .i64]), (false, [.int .i64])]
def G5 (F : T5) (β : Type) (e : (List V × List V × List V × Int × Unit) × (Int × Unit) × Unit) (k : V → Option β) : Option β := F β e.1.1 e.1.2.1 e.1.2.2.1 e.1.2.2.2.1 e.2.1.1 (fun y1 => k (.int .i64 y1))
abbrev W5 (F : T5) : WT := wrap s5 (G5 F)
theorem k5 (F16 : T16) (F17 : T17) (F18 : T18) (β : Type) (e : argsT s5) (k : V → Option β) : fnK cfg (tabL [(16, W16 F16), (17, W17 F17), (18, W18 F18)]) noX 5 Try.f5 β (argsEnc s5 e) k = G5 (P5 F16 F17 F18 ) β e k := by kernel_rfl
theorem ok5 : FnOk D 5 (W5 F5) := fn_okW [(16, W16 F16), (17, W17 F17), (18, W18 F18)] noX (fun _ => rfl) Try.func5 rfl (tabL_cons ok16 (tabL_cons ok17 (tabL_cons ok18 tabL_nil))) (k5 F16 F17 F18 )

/-- laws.toResponse -/
abbrev T78 : Type 1 := (β : Type) → Int → Int → List UInt8 → Int → Bool → List UInt8 → (Int → Int → List UInt8 → Int → Bool → List UInt8 → Option β) → Option β
def P78 : T78 := fun β a_Status a_Kind a_Body a_Age a_Shares a_Policy k =>
 k a_Status a_Kind a_Body a_Age a_Shares a_Policy
def F78 : T78 := P78 
abbrev s78 : List (Bool × List CK) := [(true, [.int .i64, .int .i64, .str, .int .i64, .bool, .str])]
def G78 (F : T78) (β : Type) (e : (Int × Int × List UInt8 × Int × Bool × List UInt8 × Unit) × Unit) (k : V → Option β) : Option β := let a0_0 := e.1; let a0_1 := a0_0.2; let a0_2 := a0_1.2; let a0_3 := a0_2.2; let a0_4 := a0_3.2; let a0_5 := a0_4.2; F β a0_0.1 a0_1.1 a0_2.1 a0_3.1 a0_4.1 a0_5.1 (fun y1 y2 y3 y4 y5 y6 => k (.agg [.int .i64 y1, .int .i64 y2, .str y3, .int .i64 y4, .bool y5, .str y6]))
abbrev W78 (F : T78) : WT := wrap s78 (G78 F)
theorem k78 (β : Type) (e : argsT s78) (k : V → Option β) : fnK cfg (tabL []) noX 78 Try.f78 β (argsEnc s78 e) k = G78 (P78 ) β e k := by kernel_rfl
theorem ok78 : FnOk D 78 (W78 F78) := fn_okW [] noX (fun _ => rfl) Try.func78 rfl (tabL_nil) (k78 )

/-- laws.toFile -/
abbrev T77 : Type 1 := (β : Type) → List UInt8 → Int → Int → List UInt8 → Int → Bool → List UInt8 → (List UInt8 → Int → Int → List UInt8 → Int → Bool → List UInt8 → Option β) → Option β
def P77 (F78 : T78) : T77 := fun β a_Path a_Response_Status a_Response_Kind a_Response_Body a_Response_Age a_Response_Shares a_Response_Policy k =>
 F78 _ a_Response_Status a_Response_Kind a_Response_Body a_Response_Age a_Response_Shares a_Response_Policy fun n1 n2 t3 n4 b5 t6 =>
 k a_Path n1 n2 t3 n4 b5 t6
def F77 : T77 := P77 F78 
abbrev s77 : List (Bool × List CK) := [(true, [.str, .int .i64, .int .i64, .str, .int .i64, .bool, .str])]
def G77 (F : T77) (β : Type) (e : (List UInt8 × Int × Int × List UInt8 × Int × Bool × List UInt8 × Unit) × Unit) (k : V → Option β) : Option β := let a0_0 := e.1; let a0_1 := a0_0.2; let a0_2 := a0_1.2; let a0_3 := a0_2.2; let a0_4 := a0_3.2; let a0_5 := a0_4.2; let a0_6 := a0_5.2; F β a0_0.1 a0_1.1 a0_2.1 a0_3.1 a0_4.1 a0_5.1 a0_6.1 (fun y1 y2 y3 y4 y5 y6 y7 => k (.agg [.str y1, .int .i64 y2, .int .i64 y3, .str y4, .int .i64 y5, .bool y6, .str y7]))
abbrev W77 (F : T77) : WT := wrap s77 (G77 F)
theorem k77 (F78 : T78) (β : Type) (e : argsT s77) (k : V → Option β) : fnK cfg (tabL [(78, W78 F78)]) noX 77 Try.f77 β (argsEnc s77 e) k = G77 (P77 F78 ) β e k := by kernel_rfl
theorem ok77 : FnOk D 77 (W77 F77) := fn_okW [(78, W78 F78)] noX (fun _ => rfl) Try.func77 rfl (tabL_cons ok78 tabL_nil) (k77 F78 )

/-- laws.toFileS -/
abbrev T61 : Type 1 := (β : Type) → List V → (List V → Option β) → Option β
def P61 (F77 : T77) : T61 := fun β a k =>
 chk (0 ≤ (a.length : Int) ∧ (a.length : Int) ≤ (a.length : Int) ∧ (a.length : Int) * 80 ≤ 140737488355328 ∧ (a.length : Int) ≤ 140737488355328) <|
 whileK (fun s1 =>
 br (decide ((lI s1 2) < ((lL s1 0).length : Int))) (
 chk (0 ≤ (lI s1 2)) <|
 idx true [.str, .int .i64, .int .i64, .str, .int .i64, .bool, .str] (lL s1 0) ((lI s1 2).toNat) fun (e2 : List UInt8 × Int × Int × List UInt8 × Int × Bool × List UInt8 × Unit) =>
 F77 _ e2.1 e2.2.1 e2.2.2.1 e2.2.2.2.1 e2.2.2.2.2.1 e2.2.2.2.2.2.1 e2.2.2.2.2.2.2.1 fun t3 n4 n5 t6 n7 b8 t9 =>
 chk (0 ≤ (lI s1 2) ∧ (lI s1 2).toNat < (lL s1 1).length) <|
 storeO (lL s1 1) ((lI s1 2).toNat) 0 [.str t3, .int .i64 n4, .int .i64 n5, .str t6, .int .i64 n7, .bool b8, .str t9] fun l10 =>
 some (.inl [.l (lL s1 0), .l l10, .i (IntKind.wrap .i64 ((lI s1 2) + 1))])) (
 some (.inr (0, [.l (lL s1 1)])))) [.l a, .l (List.replicate ((a.length : Int).toNat) (.agg [.str [], .int .i64 0, .int .i64 0, .str [], .int .i64 0, .bool false, .str []])), .i 0] fun (r11 : Nat × List Leaf) =>
 k (lL r11.2 0)
def F61 : T61 := P61 F77 
def X61 : Exits := fun i => lookN i [] [(3, [(.exit 0, xk 23 [(3, .own 1000000 7 .flat [])] [])])]
abbrev s61 : List (Bool × List CK) := [(false, [.sl 7 true])]
def G61 (F : T61) (β : Type) (e : (List V × Unit) × Unit) (k : V → Option β) : Option β := F β e.1.1 (fun y1 => k (.own 0 7 .flat y1))
abbrev W61 (F : T61) : WT := wrap s61 (G61 F)
theorem k61 (F77 : T77) (β : Type) (e : argsT s61) (k : V → Option β) : fnK cfg (tabL [(77, W77 F77)]) X61 61 Try.f61 β (argsEnc s61 e) k = G61 (P61 F77 ) β e k := by kernel_rfl
theorem ok61 : FnOk D 61 (W61 F61) := fn_okW [(77, W77 F77)] X61 (fun _ => rfl) Try.func61 rfl (tabL_cons ok77 tabL_nil) (k61 F77 )

/-- laws.toServer -/
abbrev T44 : Type 1 := (β : Type) → List UInt8 → List V → (List UInt8 → List V → Option β) → Option β
def P44 (F61 : T61) : T44 := fun β a_Host a_Files k =>
 F61 _ a_Files fun l1 =>
 k a_Host l1
def F44 : T44 := P44 F61 
abbrev s44 : List (Bool × List CK) := [(true, [.str, .sl 7 true])]
def G44 (F : T44) (β : Type) (e : (List UInt8 × List V × Unit) × Unit) (k : V → Option β) : Option β := F β e.1.1 e.1.2.1 (fun y1 y2 => k (.agg [.str y1, .own 1 7 .flat y2]))
abbrev W44 (F : T44) : WT := wrap s44 (G44 F)
theorem k44 (F61 : T61) (β : Type) (e : argsT s44) (k : V → Option β) : fnK cfg (tabL [(61, W61 F61)]) noX 44 Try.f44 β (argsEnc s44 e) k = G44 (P44 F61 ) β e k := by kernel_rfl
theorem ok44 : FnOk D 44 (W44 F44) := fn_okW [(61, W61 F61)] noX (fun _ => rfl) Try.func44 rfl (tabL_cons ok61 tabL_nil) (k44 F61 )

/-- laws.toServerS -/
abbrev T20 : Type 1 := (β : Type) → List V → (List V → Option β) → Option β
def P20 (F44 : T44) : T20 := fun β a k =>
 chk (0 ≤ (a.length : Int) ∧ (a.length : Int) ≤ (a.length : Int) ∧ (a.length : Int) * 40 ≤ 140737488355328 ∧ (a.length : Int) ≤ 140737488355328) <|
 whileK (fun s1 =>
 br (decide ((lI s1 2) < ((lL s1 0).length : Int))) (
 chk (0 ≤ (lI s1 2)) <|
 idx true [.str, .sl 7 true] (lL s1 0) ((lI s1 2).toNat) fun (e2 : List UInt8 × List V × Unit) =>
 F44 _ e2.1 e2.2.1 fun t3 l4 =>
 chk (0 ≤ (lI s1 2) ∧ (lI s1 2).toNat < (lL s1 1).length) <|
 storeO (lL s1 1) ((lI s1 2).toNat) 0 [.str t3, .sl 7 true l4] fun l5 =>
 some (.inl [.l (lL s1 0), .l l5, .i (IntKind.wrap .i64 ((lI s1 2) + 1))])) (
 some (.inr (0, [.l (lL s1 1)])))) [.l a, .l (List.replicate ((a.length : Int).toNat) (.agg [.str [], .sl 7 true []])), .i 0] fun (r6 : Nat × List Leaf) =>
 k (lL r6.2 0)
def F20 : T20 := P20 F44 
def X20 : Exits := fun i => lookN i [] [(3, [(.exit 0, xk 23 [(3, .own 1000000 2 .clean [])] [])])]
abbrev s20 : List (Bool × List CK) := [(false, [.sl 2 false])]
def G20 (F : T20) (β : Type) (e : (List V × Unit) × Unit) (k : V → Option β) : Option β := F β e.1.1 (fun y1 => k (.own 0 2 .clean y1))
abbrev W20 (F : T20) : WT := wrap s20 (G20 F)
theorem k20 (F44 : T44) (β : Type) (e : argsT s20) (k : V → Option β) : fnK cfg (tabL [(44, W44 F44)]) X20 20 Try.f20 β (argsEnc s20 e) k = G20 (P20 F44 ) β e k := by kernel_rfl
theorem ok20 : FnOk D 20 (W20 F20) := fn_okW [(44, W44 F44)] X20 (fun _ => rfl) Try.func20 rfl (tabL_cons ok44 tabL_nil) (k20 F44 )

/-- laws.toAddr -/
abbrev T63 : Type 1 := (β : Type) → List UInt8 → List UInt8 → (List UInt8 → List UInt8 → Option β) → Option β
def P63 : T63 := fun β a_Host a_Path k =>
 k a_Host a_Path
def F63 : T63 := P63 
abbrev s63 : List (Bool × List CK) := [(true, [.str, .str])]
def G63 (F : T63) (β : Type) (e : (List UInt8 × List UInt8 × Unit) × Unit) (k : V → Option β) : Option β := F β e.1.1 e.1.2.1 (fun y1 y2 => k (.agg [.str y1, .str y2]))
abbrev W63 (F : T63) : WT := wrap s63 (G63 F)
theorem k63 (β : Type) (e : argsT s63) (k : V → Option β) : fnK cfg (tabL []) noX 63 Try.f63 β (argsEnc s63 e) k = G63 (P63 ) β e k := by kernel_rfl
theorem ok63 : FnOk D 63 (W63 F63) := fn_okW [] noX (fun _ => rfl) Try.func63 rfl (tabL_nil) (k63 )

/-- laws.toEntry -/
abbrev T62 : Type 1 := (β : Type) → List UInt8 → List UInt8 → List UInt8 → Int → Int → List UInt8 → Int → Bool → List UInt8 → Int → (List UInt8 → List UInt8 → List UInt8 → Int → Int → List UInt8 → Int → Bool → List UInt8 → Int → Option β) → Option β
def P62 (F63 : T63) (F78 : T78) : T62 := fun β a_Top a_To_Host a_To_Path a_Response_Status a_Response_Kind a_Response_Body a_Response_Age a_Response_Shares a_Response_Policy a_Until k =>
 F63 _ a_To_Host a_To_Path fun t1 t2 =>
 F78 _ a_Response_Status a_Response_Kind a_Response_Body a_Response_Age a_Response_Shares a_Response_Policy fun n3 n4 t5 n6 b7 t8 =>
 k a_Top t1 t2 n3 n4 t5 n6 b7 t8 a_Until
def F62 : T62 := P62 F63 F78 
abbrev s62 : List (Bool × List CK) := [(true, [.str, .str, .str, .int .i64, .int .i64, .str, .int .i64, .bool, .str, .int .i64])]
def G62 (F : T62) (β : Type) (e : (List UInt8 × List UInt8 × List UInt8 × Int × Int × List UInt8 × Int × Bool × List UInt8 × Int × Unit) × Unit) (k : V → Option β) : Option β := let a0_0 := e.1; let a0_1 := a0_0.2; let a0_2 := a0_1.2; let a0_3 := a0_2.2; let a0_4 := a0_3.2; let a0_5 := a0_4.2; let a0_6 := a0_5.2; let a0_7 := a0_6.2; let a0_8 := a0_7.2; let a0_9 := a0_8.2; F β a0_0.1 a0_1.1 a0_2.1 a0_3.1 a0_4.1 a0_5.1 a0_6.1 a0_7.1 a0_8.1 a0_9.1 (fun y1 y2 y3 y4 y5 y6 y7 y8 y9 y10 => k (.agg [.str y1, .str y2, .str y3, .int .i64 y4, .int .i64 y5, .str y6, .int .i64 y7, .bool y8, .str y9, .int .i64 y10]))
abbrev W62 (F : T62) : WT := wrap s62 (G62 F)
theorem k62 (F63 : T63) (F78 : T78) (β : Type) (e : argsT s62) (k : V → Option β) : fnK cfg (tabL [(63, W63 F63), (78, W78 F78)]) noX 62 Try.f62 β (argsEnc s62 e) k = G62 (P62 F63 F78 ) β e k := by kernel_rfl
theorem ok62 : FnOk D 62 (W62 F62) := fn_okW [(63, W63 F63), (78, W78 F78)] noX (fun _ => rfl) Try.func62 rfl (tabL_cons ok63 (tabL_cons ok78 tabL_nil)) (k62 F63 F78 )

/-- laws.toEntryS -/
abbrev T45 : Type 1 := (β : Type) → List V → (List V → Option β) → Option β
def P45 (F62 : T62) : T45 := fun β a k =>
 chk (0 ≤ (a.length : Int) ∧ (a.length : Int) ≤ (a.length : Int) ∧ (a.length : Int) * 120 ≤ 140737488355328 ∧ (a.length : Int) ≤ 140737488355328) <|
 whileK (fun s1 =>
 br (decide ((lI s1 2) < ((lL s1 0).length : Int))) (
 chk (0 ≤ (lI s1 2)) <|
 idx true [.str, .str, .str, .int .i64, .int .i64, .str, .int .i64, .bool, .str, .int .i64] (lL s1 0) ((lI s1 2).toNat) fun (e2 : List UInt8 × List UInt8 × List UInt8 × Int × Int × List UInt8 × Int × Bool × List UInt8 × Int × Unit) =>
 F62 _ e2.1 e2.2.1 e2.2.2.1 e2.2.2.2.1 e2.2.2.2.2.1 e2.2.2.2.2.2.1 e2.2.2.2.2.2.2.1 e2.2.2.2.2.2.2.2.1 e2.2.2.2.2.2.2.2.2.1 e2.2.2.2.2.2.2.2.2.2.1 fun t3 t4 t5 n6 n7 t8 n9 b10 t11 n12 =>
 chk (0 ≤ (lI s1 2) ∧ (lI s1 2).toNat < (lL s1 1).length) <|
 storeO (lL s1 1) ((lI s1 2).toNat) 0 [.str t3, .str t4, .str t5, .int .i64 n6, .int .i64 n7, .str t8, .int .i64 n9, .bool b10, .str t11, .int .i64 n12] fun l13 =>
 some (.inl [.l (lL s1 0), .l l13, .i (IntKind.wrap .i64 ((lI s1 2) + 1))])) (
 some (.inr (0, [.l (lL s1 1)])))) [.l a, .l (List.replicate ((a.length : Int).toNat) (.agg [.str [], .str [], .str [], .int .i64 0, .int .i64 0, .str [], .int .i64 0, .bool false, .str [], .int .i64 0])), .i 0] fun (r14 : Nat × List Leaf) =>
 k (lL r14.2 0)
def F45 : T45 := P45 F62 
def X45 : Exits := fun i => lookN i [] [(3, [(.exit 0, xk 23 [(3, .own 1000000 10 .flat [])] [])])]
abbrev s45 : List (Bool × List CK) := [(false, [.sl 10 true])]
def G45 (F : T45) (β : Type) (e : (List V × Unit) × Unit) (k : V → Option β) : Option β := F β e.1.1 (fun y1 => k (.own 0 10 .flat y1))
abbrev W45 (F : T45) : WT := wrap s45 (G45 F)
theorem k45 (F62 : T62) (β : Type) (e : argsT s45) (k : V → Option β) : fnK cfg (tabL [(62, W62 F62)]) X45 45 Try.f45 β (argsEnc s45 e) k = G45 (P45 F62 ) β e k := by kernel_rfl
theorem ok45 : FnOk D 45 (W45 F45) := fn_okW [(62, W62 F62)] X45 (fun _ => rfl) Try.func45 rfl (tabL_cons ok62 tabL_nil) (k45 F62 )

/-- laws.toCache -/
abbrev T21 : Type 1 := (β : Type) → List V → (List V → Option β) → Option β
def P21 (F45 : T45) : T21 := fun β a_Entries k =>
 F45 _ a_Entries fun l1 =>
 k l1
def F21 : T21 := P21 F45 
abbrev s21 : List (Bool × List CK) := [(true, [.sl 10 true])]
def G21 (F : T21) (β : Type) (e : (List V × Unit) × Unit) (k : V → Option β) : Option β := F β e.1.1 (fun y1 => k (.agg [.own 0 10 .flat y1]))
abbrev W21 (F : T21) : WT := wrap s21 (G21 F)
theorem k21 (F45 : T45) (β : Type) (e : argsT s21) (k : V → Option β) : fnK cfg (tabL [(45, W45 F45)]) noX 21 Try.f21 β (argsEnc s21 e) k = G21 (P21 F45 ) β e k := by kernel_rfl
theorem ok21 : FnOk D 21 (W21 F21) := fn_okW [(45, W45 F45)] noX (fun _ => rfl) Try.func21 rfl (tabL_cons ok45 tabL_nil) (k21 F45 )

/-- laws.toSent -/
abbrev T46 : Type 1 := (β : Type) → List UInt8 → List UInt8 → List UInt8 → Bool → (List UInt8 → List UInt8 → List UInt8 → Bool → Option β) → Option β
def P46 (F63 : T63) : T46 := fun β a_Top a_To_Host a_To_Path a_Guess k =>
 F63 _ a_To_Host a_To_Path fun t1 t2 =>
 k a_Top t1 t2 a_Guess
def F46 : T46 := P46 F63 
abbrev s46 : List (Bool × List CK) := [(true, [.str, .str, .str, .bool])]
def G46 (F : T46) (β : Type) (e : (List UInt8 × List UInt8 × List UInt8 × Bool × Unit) × Unit) (k : V → Option β) : Option β := F β e.1.1 e.1.2.1 e.1.2.2.1 e.1.2.2.2.1 (fun y1 y2 y3 y4 => k (.agg [.str y1, .str y2, .str y3, .bool y4]))
abbrev W46 (F : T46) : WT := wrap s46 (G46 F)
theorem k46 (F63 : T63) (β : Type) (e : argsT s46) (k : V → Option β) : fnK cfg (tabL [(63, W63 F63)]) noX 46 Try.f46 β (argsEnc s46 e) k = G46 (P46 F63 ) β e k := by kernel_rfl
theorem ok46 : FnOk D 46 (W46 F46) := fn_okW [(63, W63 F63)] noX (fun _ => rfl) Try.func46 rfl (tabL_cons ok63 tabL_nil) (k46 F63 )

/-- laws.toSentS -/
abbrev T22 : Type 1 := (β : Type) → List V → (List V → Option β) → Option β
def P22 (F46 : T46) : T22 := fun β a k =>
 chk (0 ≤ (a.length : Int) ∧ (a.length : Int) ≤ (a.length : Int) ∧ (a.length : Int) * 56 ≤ 140737488355328 ∧ (a.length : Int) ≤ 140737488355328) <|
 whileK (fun s1 =>
 br (decide ((lI s1 2) < ((lL s1 0).length : Int))) (
 chk (0 ≤ (lI s1 2)) <|
 idx true [.str, .str, .str, .bool] (lL s1 0) ((lI s1 2).toNat) fun (e2 : List UInt8 × List UInt8 × List UInt8 × Bool × Unit) =>
 F46 _ e2.1 e2.2.1 e2.2.2.1 e2.2.2.2.1 fun t3 t4 t5 b6 =>
 chk (0 ≤ (lI s1 2) ∧ (lI s1 2).toNat < (lL s1 1).length) <|
 storeO (lL s1 1) ((lI s1 2).toNat) 0 [.str t3, .str t4, .str t5, .bool b6] fun l7 =>
 some (.inl [.l (lL s1 0), .l l7, .i (IntKind.wrap .i64 ((lI s1 2) + 1))])) (
 some (.inr (0, [.l (lL s1 1)])))) [.l a, .l (List.replicate ((a.length : Int).toNat) (.agg [.str [], .str [], .str [], .bool false])), .i 0] fun (r8 : Nat × List Leaf) =>
 k (lL r8.2 0)
def F22 : T22 := P22 F46 
def X22 : Exits := fun i => lookN i [] [(3, [(.exit 0, xk 23 [(3, .own 1000000 4 .flat [])] [])])]
abbrev s22 : List (Bool × List CK) := [(false, [.sl 4 true])]
def G22 (F : T22) (β : Type) (e : (List V × Unit) × Unit) (k : V → Option β) : Option β := F β e.1.1 (fun y1 => k (.own 0 4 .flat y1))
abbrev W22 (F : T22) : WT := wrap s22 (G22 F)
theorem k22 (F46 : T46) (β : Type) (e : argsT s22) (k : V → Option β) : fnK cfg (tabL [(46, W46 F46)]) X22 22 Try.f22 β (argsEnc s22 e) k = G22 (P22 F46 ) β e k := by kernel_rfl
theorem ok22 : FnOk D 22 (W22 F22) := fn_okW [(46, W46 F46)] X22 (fun _ => rfl) Try.func22 rfl (tabL_cons ok46 tabL_nil) (k22 F46 )

/-- laws.toNet -/
abbrev T7 : Type 1 := (β : Type) → List V → List V → List V → Int → (List V → List V → List V → Int → Option β) → Option β
def P7 (F20 : T20) (F21 : T21) (F22 : T22) : T7 := fun β a_Servers a_Cache_Entries a_Log a_Now k =>
 F20 _ a_Servers fun l1 =>
 F21 _ a_Cache_Entries fun l2 =>
 F22 _ a_Log fun l3 =>
 k l1 l2 l3 a_Now
def F7 : T7 := P7 F20 F21 F22 
abbrev s7 : List (Bool × List CK) := [(true, [.sl 2 false, .sl 10 true, .sl 4 true, .int .i64])]
def G7 (F : T7) (β : Type) (e : (List V × List V × List V × Int × Unit) × Unit) (k : V → Option β) : Option β := F β e.1.1 e.1.2.1 e.1.2.2.1 e.1.2.2.2.1 (fun y1 y2 y3 y4 => k (.agg [.own 0 2 .clean y1, .own 1 10 .flat y2, .own 2 4 .flat y3, .int .i64 y4]))
abbrev W7 (F : T7) : WT := wrap s7 (G7 F)
theorem k7 (F20 : T20) (F21 : T21) (F22 : T22) (β : Type) (e : argsT s7) (k : V → Option β) : fnK cfg (tabL [(20, W20 F20), (21, W21 F21), (22, W22 F22)]) noX 7 Try.f7 β (argsEnc s7 e) k = G7 (P7 F20 F21 F22 ) β e k := by kernel_rfl
theorem ok7 : FnOk D 7 (W7 F7) := fn_okW [(20, W20 F20), (21, W21 F21), (22, W22 F22)] noX (fun _ => rfl) Try.func7 rfl (tabL_cons ok20 (tabL_cons ok21 (tabL_cons ok22 tabL_nil))) (k7 F20 F21 F22 )

/-- spec.SentTo -/
abbrev T43 : Type 1 := (β : Type) → List V → List V → List V → Int → List UInt8 → (List V → Option β) → Option β
def P43 : T43 := fun β n_Servers n_Cache_Entries n_Log n_Now host k =>
 whileK (fun s1 =>
 br (decide ((lI s1 2) < ((lL s1 5).length : Int))) (
 chk (0 ≤ (lI s1 2)) <|
 idx true [.str, .str, .str, .bool] (lL s1 5) ((lI s1 2).toNat) fun (e2 : List UInt8 × List UInt8 × List UInt8 × Bool × Unit) =>
 br (e2.2.1 == (lS s1 0)) (
 chk (0 ≤ (lI s1 2)) <|
 idx true [.str, .str, .str, .bool] (lL s1 5) ((lI s1 2).toNat) fun (e3 : List UInt8 × List UInt8 × List UInt8 × Bool × Unit) =>
 chk (((lL s1 1).length + ([.agg [.str e3.1, .str e3.2.1, .str e3.2.2.1, .bool e3.2.2.2.1]] : List V).length) * 56 ≤ 140737488355328 ∧ (lL s1 1).length + ([.agg [.str e3.1, .str e3.2.1, .str e3.2.2.1, .bool e3.2.2.2.1]] : List V).length ≤ 140737488355328) <|
 some (.inl [.s (lS s1 0), .l ((lL s1 1) ++ ([.agg [.str e3.1, .str e3.2.1, .str e3.2.2.1, .bool e3.2.2.2.1]] : List V)), .i (IntKind.wrap .i64 ((lI s1 2) + 1)), .l (lL s1 3), .l (lL s1 4), .l (lL s1 5), .i (lI s1 6)])) (
 some (.inl [.s (lS s1 0), .l (lL s1 1), .i (IntKind.wrap .i64 ((lI s1 2) + 1)), .l (lL s1 3), .l (lL s1 4), .l (lL s1 5), .i (lI s1 6)]))) (
 some (.inr (0, [.l (lL s1 1)])))) [.s host, .l [], .i 0, .l n_Servers, .l n_Cache_Entries, .l n_Log, .i n_Now] fun (r4 : Nat × List Leaf) =>
 k (lL r4.2 0)
def F43 : T43 := P43 
def X43 : Exits := fun i => lookN i [] [(3, [(.exit 0, xk 33 [(5, .own 1000000 4 .flat [])] [])])]
abbrev s43 : List (Bool × List CK) := [(true, [.sl 2 false, .sl 10 true, .sl 4 true, .int .i64]), (false, [.str])]
def G43 (F : T43) (β : Type) (e : (List V × List V × List V × Int × Unit) × (List UInt8 × Unit) × Unit) (k : V → Option β) : Option β := F β e.1.1 e.1.2.1 e.1.2.2.1 e.1.2.2.2.1 e.2.1.1 (fun y1 => k (.own 0 4 .flat y1))
abbrev W43 (F : T43) : WT := wrap s43 (G43 F)
theorem k43 (β : Type) (e : argsT s43) (k : V → Option β) : fnK cfg (tabL []) X43 43 Try.f43 β (argsEnc s43 e) k = G43 (P43 ) β e k := by kernel_rfl
theorem ok43 : FnOk D 43 (W43 F43) := fn_okW [] X43 (fun _ => rfl) Try.func43 rfl (tabL_nil) (k43 )

/-- spec.HasAddr -/
abbrev T70 : Type 1 := (β : Type) → List V → List UInt8 → List UInt8 → (Bool → Option β) → Option β
def P70 : T70 := fun β l a_Host a_Path k =>
 whileK (fun s1 =>
 br (decide ((lI s1 1) < ((lL s1 0).length : Int))) (
 chk (0 ≤ (lI s1 1)) <|
 idx true [.str, .str] (lL s1 0) ((lI s1 1).toNat) fun (e2 : List UInt8 × List UInt8 × Unit) =>
 br ((e2.1 == (lS s1 2)) && ((e2.2.1 == (lS s1 3)) && true)) (
 some (.inr (0, [.b true]))) (
 some (.inl [.l (lL s1 0), .i (IntKind.wrap .i64 ((lI s1 1) + 1)), .s (lS s1 2), .s (lS s1 3)]))) (
 some (.inr (1, [])))) [.l l, .i 0, .s a_Host, .s a_Path] fun (r3 : Nat × List Leaf) =>
 if r3.1 = 0 then
 k (lB r3.2 0)
 else
 k false
def F70 : T70 := P70 
def X70 : Exits := fun i => lookN i [] [(2, [(.ret, xk 18 [(4, .bool false)] []), (.exit 0, xk 18 [] [])])]
abbrev s70 : List (Bool × List CK) := [(false, [.sl 2 true]), (true, [.str, .str])]
def G70 (F : T70) (β : Type) (e : (List V × Unit) × (List UInt8 × List UInt8 × Unit) × Unit) (k : V → Option β) : Option β := F β e.1.1 e.2.1.1 e.2.1.2.1 (fun y1 => k (.bool y1))
abbrev W70 (F : T70) : WT := wrap s70 (G70 F)
theorem k70 (β : Type) (e : argsT s70) (k : V → Option β) : fnK cfg (tabL []) X70 70 Try.f70 β (argsEnc s70 e) k = G70 (P70 ) β e k := by kernel_rfl
theorem ok70 : FnOk D 70 (W70 F70) := fn_okW [] X70 (fun _ => rfl) Try.func70 rfl (tabL_nil) (k70 )

/-- spec.CompareAddrs -/
abbrev T71 : Type 1 := (β : Type) → List UInt8 → List UInt8 → List UInt8 → List UInt8 → (Int → Option β) → Option β
def P71 : T71 := fun β a_Host a_Path b_Host b_Path k =>
 br ((a_Host == b_Host) && ((a_Path == b_Path) && true)) (
 k 0) (
 br (less a_Host b_Host) (
 k (-1)) (
 br (a_Host == b_Host) (
 br (less a_Path b_Path) (
 k (-1)) (
 k 1)) (
 k 1)))
def F71 : T71 := P71 
abbrev s71 : List (Bool × List CK) := [(true, [.str, .str]), (true, [.str, .str])]
def G71 (F : T71) (β : Type) (e : (List UInt8 × List UInt8 × Unit) × (List UInt8 × List UInt8 × Unit) × Unit) (k : V → Option β) : Option β := F β e.1.1 e.1.2.1 e.2.1.1 e.2.1.2.1 (fun y1 => k (.int .i64 y1))
abbrev W71 (F : T71) : WT := wrap s71 (G71 F)
theorem k71 (β : Type) (e : argsT s71) (k : V → Option β) : fnK cfg (tabL []) noX 71 Try.f71 β (argsEnc s71 e) k = G71 (P71 ) β e k := by kernel_rfl
theorem ok71 : FnOk D 71 (W71 F71) := fn_okW [] noX (fun _ => rfl) Try.func71 rfl (tabL_nil) (k71 )

/-- spec.SortAddrs -/
abbrev T55 : Type 1 := (β : Type) → List V → (List V → Option β) → Option β
def P55 (F70 : T70) (F71 : T71) : T55 := fun β l k =>
 whileK (fun s1 =>
 br (decide ((lI s1 2) < ((lL s1 0).length : Int))) (
 chk (0 ≤ (lI s1 2)) <|
 idx true [.str, .str] (lL s1 0) ((lI s1 2).toNat) fun (e2 : List UInt8 × List UInt8 × Unit) =>
 F70 _ (lL s1 1) e2.1 e2.2.1 fun b3 =>
 br b3 (
 some (.inl [.l (lL s1 0), .l (lL s1 1), .i (IntKind.wrap .i64 ((lI s1 2) + 1))])) (
 whileK (fun s4 =>
 br (decide ((lI s4 3) > 0)) (
 chk (0 ≤ (lI s4 2)) <|
 idx true [.str, .str] (lL s4 0) ((lI s4 2).toNat) fun (e5 : List UInt8 × List UInt8 × Unit) =>
 chk (0 ≤ IntKind.wrap .i64 ((lI s4 3) - 1) ∧ (IntKind.wrap .i64 ((lI s4 3) - 1)).toNat < (lL s4 1).length) <|
 idxAt [.str, .str] (lL s4 1) ((IntKind.wrap .i64 ((lI s4 3) - 1)).toNat) 0 fun (e6 : List UInt8 × List UInt8 × Unit) =>
 F71 _ e5.1 e5.2.1 e6.1 e6.2.1 fun n7 =>
 br (decide (n7 < 0)) (
 some (.inl [.l (lL s4 0), .l (lL s4 1), .i (lI s4 2), .i (IntKind.wrap .i64 ((lI s4 3) - 1))])) (
 some (.inr (0, [.l (lL s4 0), .l (lL s4 1), .i (lI s4 2), .i (lI s4 3)])))) (
 some (.inr (0, [.l (lL s4 0), .l (lL s4 1), .i (lI s4 2), .i (lI s4 3)])))) [.l (lL s1 0), .l (lL s1 1), .i (lI s1 2), .i ((lL s1 1).length : Int)] fun (r8 : Nat × List Leaf) =>
 chk (0 ≤ (0 : Int) ∧ (0 : Int) ≤ (lI r8.2 3) ∧ (lI r8.2 3) ≤ ((lL r8.2 1).length : Int)) <|
 chk ((([] : List V).length + (((lL r8.2 1).take ((lI r8.2 3).toNat)).drop 0).length) * 32 ≤ 140737488355328 ∧ ([] : List V).length + (((lL r8.2 1).take ((lI r8.2 3).toNat)).drop 0).length ≤ 140737488355328) <|
 chk (0 ≤ (lI r8.2 2)) <|
 idx true [.str, .str] (lL r8.2 0) ((lI r8.2 2).toNat) fun (e9 : List UInt8 × List UInt8 × Unit) =>
 chk (((([] : List V) ++ (((lL r8.2 1).take ((lI r8.2 3).toNat)).drop 0)).length + ([.agg [.str e9.1, .str e9.2.1]] : List V).length) * 32 ≤ 140737488355328 ∧ (([] : List V) ++ (((lL r8.2 1).take ((lI r8.2 3).toNat)).drop 0)).length + ([.agg [.str e9.1, .str e9.2.1]] : List V).length ≤ 140737488355328) <|
 chk (0 ≤ (lI r8.2 3) ∧ (lI r8.2 3) ≤ ((lL r8.2 1).length : Int) ∧ ((lL r8.2 1).length : Int) ≤ ((lL r8.2 1).length : Int)) <|
 chk ((((([] : List V) ++ (((lL r8.2 1).take ((lI r8.2 3).toNat)).drop 0)) ++ ([.agg [.str e9.1, .str e9.2.1]] : List V)).length + (((lL r8.2 1).take (((lL r8.2 1).length : Int).toNat)).drop ((lI r8.2 3).toNat)).length) * 32 ≤ 140737488355328 ∧ ((([] : List V) ++ (((lL r8.2 1).take ((lI r8.2 3).toNat)).drop 0)) ++ ([.agg [.str e9.1, .str e9.2.1]] : List V)).length + (((lL r8.2 1).take (((lL r8.2 1).length : Int).toNat)).drop ((lI r8.2 3).toNat)).length ≤ 140737488355328) <|
 some (.inl [.l (lL r8.2 0), .l (((([] : List V) ++ (((lL r8.2 1).take ((lI r8.2 3).toNat)).drop 0)) ++ ([.agg [.str e9.1, .str e9.2.1]] : List V)) ++ (((lL r8.2 1).take (((lL r8.2 1).length : Int).toNat)).drop ((lI r8.2 3).toNat))), .i (IntKind.wrap .i64 ((lI r8.2 2) + 1))]))) (
 some (.inr (0, [.l (lL s1 1)])))) [.l l, .l [], .i 0] fun (r10 : Nat × List Leaf) =>
 k (lL r10.2 0)
def F55 : T55 := P55 F70 F71 
def X55 : Exits := fun i => lookN i [] [(3, [(.exit 0, xk 57 [(3, .own 1000000 2 .flat [])] [])]), (7, [(.exit 2, xk 57 [(0, .sl 2 true []), (3, .own 1000000 2 .flat []), (4, .int .i64 0), (5, .int .i64 0)] [])])]
abbrev s55 : List (Bool × List CK) := [(false, [.sl 2 true])]
def G55 (F : T55) (β : Type) (e : (List V × Unit) × Unit) (k : V → Option β) : Option β := F β e.1.1 (fun y1 => k (.own 0 2 .flat y1))
abbrev W55 (F : T55) : WT := wrap s55 (G55 F)
theorem k55 (F70 : T70) (F71 : T71) (β : Type) (e : argsT s55) (k : V → Option β) : fnK cfg (tabL [(70, W70 F70), (71, W71 F71)]) X55 55 Try.f55 β (argsEnc s55 e) k = G55 (P55 F70 F71 ) β e k := by kernel_rfl
theorem ok55 : FnOk D 55 (W55 F55) := fn_okW [(70, W70 F70), (71, W71 F71)] X55 (fun _ => rfl) Try.func55 rfl (tabL_cons ok70 (tabL_cons ok71 tabL_nil)) (k55 F70 F71 )

/-- spec.CrossLearned -/
abbrev T34 : Type 1 := (β : Type) → List V → List V → List V → Int → List UInt8 → (List V → Option β) → Option β
def P34 (F43 : T43) (F55 : T55) : T34 := fun β n_Servers n_Cache_Entries n_Log n_Now host k =>
 F43 _ n_Servers n_Cache_Entries n_Log n_Now host fun l1 =>
 whileK (fun s2 =>
 br (decide ((lI s2 3) < ((lL s2 2).length : Int))) (
 chk (0 ≤ (lI s2 3) ∧ (lI s2 3).toNat < (lL s2 2).length) <|
 idxAt [.str] (lL s2 2) ((lI s2 3).toNat) 0 fun (e3 : List UInt8 × Unit) =>
 br (!(e3.1 == (lS s2 0))) (
 chk (0 ≤ (lI s2 3) ∧ (lI s2 3).toNat < (lL s2 2).length) <|
 idxAt [.str, .str] (lL s2 2) ((lI s2 3).toNat) 1 fun (e4 : List UInt8 × List UInt8 × Unit) =>
 chk (((lL s2 1).length + ([.agg [.str e4.1, .str e4.2.1]] : List V).length) * 32 ≤ 140737488355328 ∧ (lL s2 1).length + ([.agg [.str e4.1, .str e4.2.1]] : List V).length ≤ 140737488355328) <|
 some (.inl [.s (lS s2 0), .l ((lL s2 1) ++ ([.agg [.str e4.1, .str e4.2.1]] : List V)), .l (lL s2 2), .i (IntKind.wrap .i64 ((lI s2 3) + 1))])) (
 some (.inl [.s (lS s2 0), .l (lL s2 1), .l (lL s2 2), .i (IntKind.wrap .i64 ((lI s2 3) + 1))]))) (
 some (.inr (0, [.l (lL s2 1)])))) [.s host, .l [], .l l1, .i 0] fun (r5 : Nat × List Leaf) =>
 F55 _ (lL r5.2 0) fun l6 =>
 k l6
def F34 : T34 := P34 F43 F55 
def X34 : Exits := fun i => lookN i [] [(4, [(.exit 0, xk 35 [(5, .own 1000000 2 .flat [])] [])])]
abbrev s34 : List (Bool × List CK) := [(true, [.sl 2 false, .sl 10 true, .sl 4 true, .int .i64]), (false, [.str])]
def G34 (F : T34) (β : Type) (e : (List V × List V × List V × Int × Unit) × (List UInt8 × Unit) × Unit) (k : V → Option β) : Option β := F β e.1.1 e.1.2.1 e.1.2.2.1 e.1.2.2.2.1 e.2.1.1 (fun y1 => k (.own 0 2 .flat y1))
abbrev W34 (F : T34) : WT := wrap s34 (G34 F)
theorem k34 (F43 : T43) (F55 : T55) (β : Type) (e : argsT s34) (k : V → Option β) : fnK cfg (tabL [(43, W43 F43), (55, W55 F55)]) X34 34 Try.f34 β (argsEnc s34 e) k = G34 (P34 F43 F55 ) β e k := by kernel_rfl
theorem ok34 : FnOk D 34 (W34 F34) := fn_okW [(43, W43 F43), (55, W55 F55)] X34 (fun _ => rfl) Try.func34 rfl (tabL_cons ok43 (tabL_cons ok55 tabL_nil)) (k34 F43 F55 )

/-- spec.l15Addrs -/
abbrev T33 : Type 1 := (β : Type) → List V → List V → (Bool → Option β) → Option β
def P33 : T33 := fun β a b k =>
 br ((a.length : Int) != (b.length : Int)) (
 k false) (
 whileK (fun s1 =>
 br (decide ((lI s1 2) < ((lL s1 0).length : Int))) (
 chk (0 ≤ (lI s1 2)) <|
 idx true [.str, .str] (lL s1 0) ((lI s1 2).toNat) fun (e2 : List UInt8 × List UInt8 × Unit) =>
 chk (0 ≤ (lI s1 2)) <|
 idx true [.str, .str] (lL s1 1) ((lI s1 2).toNat) fun (e3 : List UInt8 × List UInt8 × Unit) =>
 br (!((e2.1 == e3.1) && ((e2.2.1 == e3.2.1) && true))) (
 some (.inr (0, [.b false]))) (
 some (.inl [.l (lL s1 0), .l (lL s1 1), .i (IntKind.wrap .i64 ((lI s1 2) + 1))]))) (
 some (.inr (1, [])))) [.l a, .l b, .i 0] fun (r4 : Nat × List Leaf) =>
 if r4.1 = 0 then
 k (lB r4.2 0)
 else
 k true)
def F33 : T33 := P33 
def X33 : Exits := fun i => lookN i [] [(4, [(.ret, xk 26 [(4, .bool false)] []), (.exit 0, xk 26 [] [])])]
abbrev s33 : List (Bool × List CK) := [(false, [.sl 2 true]), (false, [.sl 2 true])]
def G33 (F : T33) (β : Type) (e : (List V × Unit) × (List V × Unit) × Unit) (k : V → Option β) : Option β := F β e.1.1 e.2.1.1 (fun y1 => k (.bool y1))
abbrev W33 (F : T33) : WT := wrap s33 (G33 F)
theorem k33 (β : Type) (e : argsT s33) (k : V → Option β) : fnK cfg (tabL []) X33 33 Try.f33 β (argsEnc s33 e) k = G33 (P33 ) β e k := by kernel_rfl
theorem ok33 : FnOk D 33 (W33 F33) := fn_okW [] X33 (fun _ => rfl) Try.func33 rfl (tabL_nil) (k33 )

/-- spec.l9Has -/
abbrev T36 : Type 1 := (β : Type) → List V → List UInt8 → (Bool → Option β) → Option β
def P36 : T36 := fun β l s k =>
 whileK (fun s1 =>
 br (decide ((lI s1 2) < ((lL s1 0).length : Int))) (
 chk (0 ≤ (lI s1 2)) <|
 idx false [.str] (lL s1 0) ((lI s1 2).toNat) fun (e2 : List UInt8 × Unit) =>
 br (e2.1 == (lS s1 1)) (
 some (.inr (0, [.b true]))) (
 some (.inl [.l (lL s1 0), .s (lS s1 1), .i (IntKind.wrap .i64 ((lI s1 2) + 1))]))) (
 some (.inr (1, [])))) [.l l, .s s, .i 0] fun (r3 : Nat × List Leaf) =>
 if r3.1 = 0 then
 k (lB r3.2 0)
 else
 k false
def F36 : T36 := P36 
def X36 : Exits := fun i => lookN i [] [(2, [(.ret, xk 18 [(4, .bool false)] []), (.exit 0, xk 18 [] [])])]
abbrev s36 : List (Bool × List CK) := [(false, [.sl 1 true]), (false, [.str])]
def G36 (F : T36) (β : Type) (e : (List V × Unit) × (List UInt8 × Unit) × Unit) (k : V → Option β) : Option β := F β e.1.1 e.2.1.1 (fun y1 => k (.bool y1))
abbrev W36 (F : T36) : WT := wrap s36 (G36 F)
theorem k36 (β : Type) (e : argsT s36) (k : V → Option β) : fnK cfg (tabL []) X36 36 Try.f36 β (argsEnc s36 e) k = G36 (P36 ) β e k := by kernel_rfl
theorem ok36 : FnOk D 36 (W36 F36) := fn_okW [] X36 (fun _ => rfl) Try.func36 rfl (tabL_nil) (k36 )

/-- spec.TopsOf -/
abbrev T19 : Type 1 := (β : Type) → List V → List V → List V → Int → List UInt8 → (List V → Option β) → Option β
def P19 (F43 : T43) (F36 : T36) : T19 := fun β n_Servers n_Cache_Entries n_Log n_Now host k =>
 F43 _ n_Servers n_Cache_Entries n_Log n_Now host fun l1 =>
 whileK (fun s2 =>
 br (decide ((lI s2 2) < ((lL s2 1).length : Int))) (
 chk (0 ≤ (lI s2 2) ∧ (lI s2 2).toNat < (lL s2 1).length) <|
 idxAt [.str] (lL s2 1) ((lI s2 2).toNat) 0 fun (e3 : List UInt8 × Unit) =>
 F36 _ (lL s2 0) e3.1 fun b4 =>
 br (!b4) (
 chk (0 ≤ (lI s2 2) ∧ (lI s2 2).toNat < (lL s2 1).length) <|
 idxAt [.str] (lL s2 1) ((lI s2 2).toNat) 0 fun (e5 : List UInt8 × Unit) =>
 chk (((lL s2 0).length + ([.str e5.1] : List V).length) * 16 ≤ 140737488355328 ∧ (lL s2 0).length + ([.str e5.1] : List V).length ≤ 140737488355328) <|
 some (.inl [.l ((lL s2 0) ++ ([.str e5.1] : List V)), .l (lL s2 1), .i (IntKind.wrap .i64 ((lI s2 2) + 1))])) (
 some (.inl [.l (lL s2 0), .l (lL s2 1), .i (IntKind.wrap .i64 ((lI s2 2) + 1))]))) (
 some (.inr (0, [.l (lL s2 0)])))) [.l [], .l l1, .i 0] fun (r6 : Nat × List Leaf) =>
 k (lL r6.2 0)
def F19 : T19 := P19 F43 F36 
def X19 : Exits := fun i => lookN i [] [(4, [(.exit 0, xk 35 [(5, .own 1000000 1 .flat [])] [])])]
abbrev s19 : List (Bool × List CK) := [(true, [.sl 2 false, .sl 10 true, .sl 4 true, .int .i64]), (false, [.str])]
def G19 (F : T19) (β : Type) (e : (List V × List V × List V × Int × Unit) × (List UInt8 × Unit) × Unit) (k : V → Option β) : Option β := F β e.1.1 e.1.2.1 e.1.2.2.1 e.1.2.2.2.1 e.2.1.1 (fun y1 => k (.own 0 1 .flat y1))
abbrev W19 (F : T19) : WT := wrap s19 (G19 F)
theorem k19 (F43 : T43) (F36 : T36) (β : Type) (e : argsT s19) (k : V → Option β) : fnK cfg (tabL [(43, W43 F43), (36, W36 F36)]) X19 19 Try.f19 β (argsEnc s19 e) k = G19 (P19 F43 F36 ) β e k := by kernel_rfl
theorem ok19 : FnOk D 19 (W19 F19) := fn_okW [(43, W43 F43), (36, W36 F36)] X19 (fun _ => rfl) Try.func19 rfl (tabL_cons ok43 (tabL_cons ok36 tabL_nil)) (k19 F43 F36 )

/-- spec.TopsAround -/
abbrev T6 : Type 1 := (β : Type) → List V → List V → List V → Int → List UInt8 → (List V → Option β) → Option β
def P6 (F19 : T19) : T6 := fun β n_Servers n_Cache_Entries n_Log n_Now host k =>
 F19 _ n_Servers n_Cache_Entries n_Log n_Now host fun l1 =>
 whileK (fun s2 =>
 br (decide ((lI s2 3) < ((lL s2 2).length : Int))) (
 chk (0 ≤ (lI s2 3) ∧ (lI s2 3).toNat < (lL s2 2).length) <|
 idxAt [.str] (lL s2 2) ((lI s2 3).toNat) 0 fun (e3 : List UInt8 × Unit) =>
 br (e3.1 == (lS s2 0)) (
 some (.inl [.s (lS s2 0), .l (lL s2 1), .l (lL s2 2), .i (IntKind.wrap .i64 ((lI s2 3) + 1))])) (
 whileK (fun s4 =>
 br (decide ((lI s4 4) > 0)) (
 chk (0 ≤ (lI s4 3) ∧ (lI s4 3).toNat < (lL s4 2).length) <|
 idxAt [.str] (lL s4 2) ((lI s4 3).toNat) 0 fun (e5 : List UInt8 × Unit) =>
 chk (0 ≤ IntKind.wrap .i64 ((lI s4 4) - 1) ∧ (IntKind.wrap .i64 ((lI s4 4) - 1)).toNat < (lL s4 1).length) <|
 idxAt [.str] (lL s4 1) ((IntKind.wrap .i64 ((lI s4 4) - 1)).toNat) 0 fun (e6 : List UInt8 × Unit) =>
 br (less e5.1 e6.1) (
 some (.inl [.s (lS s4 0), .l (lL s4 1), .l (lL s4 2), .i (lI s4 3), .i (IntKind.wrap .i64 ((lI s4 4) - 1))])) (
 some (.inr (0, [.s (lS s4 0), .l (lL s4 1), .l (lL s4 2), .i (lI s4 3), .i (lI s4 4)])))) (
 some (.inr (0, [.s (lS s4 0), .l (lL s4 1), .l (lL s4 2), .i (lI s4 3), .i (lI s4 4)])))) [.s (lS s2 0), .l (lL s2 1), .l (lL s2 2), .i (lI s2 3), .i ((lL s2 1).length : Int)] fun (r7 : Nat × List Leaf) =>
 chk (0 ≤ (0 : Int) ∧ (0 : Int) ≤ (lI r7.2 4) ∧ (lI r7.2 4) ≤ ((lL r7.2 1).length : Int)) <|
 chk ((([] : List V).length + (((lL r7.2 1).take ((lI r7.2 4).toNat)).drop 0).length) * 16 ≤ 140737488355328 ∧ ([] : List V).length + (((lL r7.2 1).take ((lI r7.2 4).toNat)).drop 0).length ≤ 140737488355328) <|
 chk (0 ≤ (lI r7.2 3) ∧ (lI r7.2 3).toNat < (lL r7.2 2).length) <|
 idxAt [.str] (lL r7.2 2) ((lI r7.2 3).toNat) 0 fun (e8 : List UInt8 × Unit) =>
 chk (((([] : List V) ++ (((lL r7.2 1).take ((lI r7.2 4).toNat)).drop 0)).length + ([.str e8.1] : List V).length) * 16 ≤ 140737488355328 ∧ (([] : List V) ++ (((lL r7.2 1).take ((lI r7.2 4).toNat)).drop 0)).length + ([.str e8.1] : List V).length ≤ 140737488355328) <|
 chk (0 ≤ (lI r7.2 4) ∧ (lI r7.2 4) ≤ ((lL r7.2 1).length : Int) ∧ ((lL r7.2 1).length : Int) ≤ ((lL r7.2 1).length : Int)) <|
 chk ((((([] : List V) ++ (((lL r7.2 1).take ((lI r7.2 4).toNat)).drop 0)) ++ ([.str e8.1] : List V)).length + (((lL r7.2 1).take (((lL r7.2 1).length : Int).toNat)).drop ((lI r7.2 4).toNat)).length) * 16 ≤ 140737488355328 ∧ ((([] : List V) ++ (((lL r7.2 1).take ((lI r7.2 4).toNat)).drop 0)) ++ ([.str e8.1] : List V)).length + (((lL r7.2 1).take (((lL r7.2 1).length : Int).toNat)).drop ((lI r7.2 4).toNat)).length ≤ 140737488355328) <|
 some (.inl [.s (lS r7.2 0), .l (((([] : List V) ++ (((lL r7.2 1).take ((lI r7.2 4).toNat)).drop 0)) ++ ([.str e8.1] : List V)) ++ (((lL r7.2 1).take (((lL r7.2 1).length : Int).toNat)).drop ((lI r7.2 4).toNat))), .l (lL r7.2 2), .i (IntKind.wrap .i64 ((lI r7.2 3) + 1))]))) (
 some (.inr (0, [.l (lL s2 1)])))) [.s host, .l [], .l l1, .i 0] fun (r9 : Nat × List Leaf) =>
 k (lL r9.2 0)
def F6 : T6 := P6 F19 
def X6 : Exits := fun i => lookN i [] [(4, [(.exit 0, xk 59 [(5, .own 1000000 1 .flat [])] [])]), (8, [(.exit 2, xk 59 [(1, .str []), (5, .own 1000000 1 .flat []), (6, .own 1000001 1 .flat []), (7, .int .i64 0), (8, .int .i64 0)] [])])]
abbrev s6 : List (Bool × List CK) := [(true, [.sl 2 false, .sl 10 true, .sl 4 true, .int .i64]), (false, [.str])]
def G6 (F : T6) (β : Type) (e : (List V × List V × List V × Int × Unit) × (List UInt8 × Unit) × Unit) (k : V → Option β) : Option β := F β e.1.1 e.1.2.1 e.1.2.2.1 e.1.2.2.2.1 e.2.1.1 (fun y1 => k (.own 0 1 .flat y1))
abbrev W6 (F : T6) : WT := wrap s6 (G6 F)
theorem k6 (F19 : T19) (β : Type) (e : argsT s6) (k : V → Option β) : fnK cfg (tabL [(19, W19 F19)]) X6 6 Try.f6 β (argsEnc s6 e) k = G6 (P6 F19 ) β e k := by kernel_rfl
theorem ok6 : FnOk D 6 (W6 F6) := fn_okW [(19, W19 F19)] X6 (fun _ => rfl) Try.func6 rfl (tabL_cons ok19 tabL_nil) (k6 F19 )

/-- spec.l9Same -/
abbrev T35 : Type 1 := (β : Type) → List V → List V → (Bool → Option β) → Option β
def P35 : T35 := fun β a b k =>
 br ((a.length : Int) != (b.length : Int)) (
 k false) (
 whileK (fun s1 =>
 br (decide ((lI s1 2) < ((lL s1 0).length : Int))) (
 chk (0 ≤ (lI s1 2)) <|
 idx false [.str] (lL s1 0) ((lI s1 2).toNat) fun (e2 : List UInt8 × Unit) =>
 chk (0 ≤ (lI s1 2)) <|
 idx false [.str] (lL s1 1) ((lI s1 2).toNat) fun (e3 : List UInt8 × Unit) =>
 br (!(e2.1 == e3.1)) (
 some (.inr (0, [.b false]))) (
 some (.inl [.l (lL s1 0), .l (lL s1 1), .i (IntKind.wrap .i64 ((lI s1 2) + 1))]))) (
 some (.inr (1, [])))) [.l a, .l b, .i 0] fun (r4 : Nat × List Leaf) =>
 if r4.1 = 0 then
 k (lB r4.2 0)
 else
 k true)
def F35 : T35 := P35 
def X35 : Exits := fun i => lookN i [] [(4, [(.ret, xk 26 [(4, .bool false)] []), (.exit 0, xk 26 [] [])])]
abbrev s35 : List (Bool × List CK) := [(false, [.sl 1 true]), (false, [.sl 1 true])]
def G35 (F : T35) (β : Type) (e : (List V × Unit) × (List V × Unit) × Unit) (k : V → Option β) : Option β := F β e.1.1 e.2.1.1 (fun y1 => k (.bool y1))
abbrev W35 (F : T35) : WT := wrap s35 (G35 F)
theorem k35 (β : Type) (e : argsT s35) (k : V → Option β) : fnK cfg (tabL []) X35 35 Try.f35 β (argsEnc s35 e) k = G35 (P35 ) β e k := by kernel_rfl
theorem ok35 : FnOk D 35 (W35 F35) := fn_okW [] X35 (fun _ => rfl) Try.func35 rfl (tabL_nil) (k35 )

/-- spec.SameView -/
abbrev T14 : Type 1 := (β : Type) → List V → List V → List V → Int → List V → List V → List V → Int → List UInt8 → (Bool → Option β) → Option β
def P14 (F34 : T34) (F33 : T33) (F6 : T6) (F35 : T35) (F19 : T19) (F36 : T36) : T14 := fun β a_Servers a_Cache_Entries a_Log a_Now b_Servers b_Cache_Entries b_Log b_Now host k =>
 F34 _ a_Servers a_Cache_Entries a_Log a_Now host fun l1 =>
 F34 _ b_Servers b_Cache_Entries b_Log b_Now host fun l2 =>
 F33 _ l1 l2 fun b3 =>
 br b3 (
 F6 _ a_Servers a_Cache_Entries a_Log a_Now host fun l4 =>
 F6 _ b_Servers b_Cache_Entries b_Log b_Now host fun l5 =>
 F35 _ l4 l5 fun b6 =>
 br b6 (
 F19 _ a_Servers a_Cache_Entries a_Log a_Now host fun l7 =>
 F36 _ l7 host fun b8 =>
 F19 _ b_Servers b_Cache_Entries b_Log b_Now host fun l9 =>
 F36 _ l9 host fun b10 =>
 k (b8 == b10)) (
 k false)) (
 k false)
def F14 : T14 := P14 F34 F33 F6 F35 F19 F36 
abbrev s14 : List (Bool × List CK) := [(true, [.sl 2 false, .sl 10 true, .sl 4 true, .int .i64]), (true, [.sl 2 false, .sl 10 true, .sl 4 true, .int .i64]), (false, [.str])]
def G14 (F : T14) (β : Type) (e : (List V × List V × List V × Int × Unit) × (List V × List V × List V × Int × Unit) × (List UInt8 × Unit) × Unit) (k : V → Option β) : Option β := F β e.1.1 e.1.2.1 e.1.2.2.1 e.1.2.2.2.1 e.2.1.1 e.2.1.2.1 e.2.1.2.2.1 e.2.1.2.2.2.1 e.2.2.1.1 (fun y1 => k (.bool y1))
abbrev W14 (F : T14) : WT := wrap s14 (G14 F)
theorem k14 (F34 : T34) (F33 : T33) (F6 : T6) (F35 : T35) (F19 : T19) (F36 : T36) (β : Type) (e : argsT s14) (k : V → Option β) : fnK cfg (tabL [(34, W34 F34), (33, W33 F33), (6, W6 F6), (35, W35 F35), (19, W19 F19), (36, W36 F36)]) noX 14 Try.f14 β (argsEnc s14 e) k = G14 (P14 F34 F33 F6 F35 F19 F36 ) β e k := by kernel_rfl
theorem ok14 : FnOk D 14 (W14 F14) := fn_okW [(34, W34 F34), (33, W33 F33), (6, W6 F6), (35, W35 F35), (19, W19 F19), (36, W36 F36)] noX (fun _ => rfl) Try.func14 rfl (tabL_cons ok34 (tabL_cons ok33 (tabL_cons ok6 (tabL_cons ok35 (tabL_cons ok19 (tabL_cons ok36 tabL_nil)))))) (k14 F34 F33 F6 F35 F19 F36 )

/-- impl.SentTo -/
abbrev T56 : Type 1 := (β : Type) → List V → List V → List V → Int → List UInt8 → (List V → Option β) → Option β
def P56 : T56 := fun β n_Servers n_Cache_Entries n_Log n_Now host k =>
 whileK (fun s1 =>
 br (decide ((lI s1 4) < (lI s1 3))) (
 chk (0 ≤ (lI s1 4)) <|
 idx true [.str, .str, .str, .bool] (lL s1 2) ((lI s1 4).toNat) fun (e2 : List UInt8 × List UInt8 × List UInt8 × Bool × Unit) =>
 br (e2.2.1 == (lS s1 0)) (
 chk (((lL s1 1).length + ([.agg [.str e2.1, .str e2.2.1, .str e2.2.2.1, .bool e2.2.2.2.1]] : List V).length) * 56 ≤ 140737488355328 ∧ (lL s1 1).length + ([.agg [.str e2.1, .str e2.2.1, .str e2.2.2.1, .bool e2.2.2.2.1]] : List V).length ≤ 140737488355328) <|
 some (.inl [.s (lS s1 0), .l ((lL s1 1) ++ ([.agg [.str e2.1, .str e2.2.1, .str e2.2.2.1, .bool e2.2.2.2.1]] : List V)), .l (lL s1 2), .i (lI s1 3), .i (IntKind.wrap .i64 ((lI s1 4) + 1))])) (
 some (.inl [.s (lS s1 0), .l (lL s1 1), .l (lL s1 2), .i (lI s1 3), .i (IntKind.wrap .i64 ((lI s1 4) + 1))]))) (
 some (.inr (0, [.l (lL s1 1)])))) [.s host, .l [], .l n_Log, .i (n_Log.length : Int), .i 0] fun (r3 : Nat × List Leaf) =>
 k (lL r3.2 0)
def F56 : T56 := P56 
def X56 : Exits := fun i => lookN i [] [(3, [(.exit 0, xk 27 [(5, .own 1000000 4 .flat [])] [])])]
abbrev s56 : List (Bool × List CK) := [(true, [.sl 2 false, .sl 10 true, .sl 4 true, .int .i64]), (false, [.str])]
def G56 (F : T56) (β : Type) (e : (List V × List V × List V × Int × Unit) × (List UInt8 × Unit) × Unit) (k : V → Option β) : Option β := F β e.1.1 e.1.2.1 e.1.2.2.1 e.1.2.2.2.1 e.2.1.1 (fun y1 => k (.own 0 4 .flat y1))
abbrev W56 (F : T56) : WT := wrap s56 (G56 F)
theorem k56 (β : Type) (e : argsT s56) (k : V → Option β) : fnK cfg (tabL []) X56 56 Try.f56 β (argsEnc s56 e) k = G56 (P56 ) β e k := by kernel_rfl
theorem ok56 : FnOk D 56 (W56 F56) := fn_okW [] X56 (fun _ => rfl) Try.func56 rfl (tabL_nil) (k56 )
theorem okd56 : FnOk D1 56 (W56 F56) := fn_okW [] X56 (fun _ => rfl) Try.func56 rfl (tabL_nil) (k56 )

/-- impl.SortAddrs -/
abbrev T57 : Type 1 := (β : Type) → List V → (List V → Option β) → Option β
def F57 : T57 := sortPrK
abbrev s57 : List (Bool × List CK) := [(false, [.sl 2 true])]
def G57 (F : T57) (β : Type) (e : (List V × Unit) × Unit) (k : V → Option β) : Option β := F β e.1.1 (fun y1 => k (.own 0 2 .flat y1))
abbrev W57 (F : T57) : WT := wrap s57 (G57 F)
theorem ok57 : FnOk D 57 (W57 F57) := ok_sortPr (fun _ => rfl)

/-- impl.CrossLearned -/
abbrev T38 : Type 1 := (β : Type) → List V → List V → List V → Int → List UInt8 → (List V → Option β) → Option β
def P38 (F56 : T56) (F57 : T57) : T38 := fun β n_Servers n_Cache_Entries n_Log n_Now host k =>
 F56 _ n_Servers n_Cache_Entries n_Log n_Now host fun l1 =>
 whileK (fun s2 =>
 br (decide ((lI s2 4) < (lI s2 3))) (
 chk (0 ≤ (lI s2 4) ∧ (lI s2 4).toNat < (lL s2 2).length) <|
 idxAt [.str, .str, .str, .bool] (lL s2 2) ((lI s2 4).toNat) 0 fun (e3 : List UInt8 × List UInt8 × List UInt8 × Bool × Unit) =>
 br (!(e3.1 == (lS s2 0))) (
 chk (((lL s2 1).length + ([.agg [.str e3.2.1, .str e3.2.2.1]] : List V).length) * 32 ≤ 140737488355328 ∧ (lL s2 1).length + ([.agg [.str e3.2.1, .str e3.2.2.1]] : List V).length ≤ 140737488355328) <|
 some (.inl [.s (lS s2 0), .l ((lL s2 1) ++ ([.agg [.str e3.2.1, .str e3.2.2.1]] : List V)), .l (lL s2 2), .i (lI s2 3), .i (IntKind.wrap .i64 ((lI s2 4) + 1))])) (
 some (.inl [.s (lS s2 0), .l (lL s2 1), .l (lL s2 2), .i (lI s2 3), .i (IntKind.wrap .i64 ((lI s2 4) + 1))]))) (
 some (.inr (0, [.l (lL s2 1)])))) [.s host, .l [], .l l1, .i (l1.length : Int), .i 0] fun (r4 : Nat × List Leaf) =>
 F57 _ (lL r4.2 0) fun l5 =>
 k l5
def F38 : T38 := P38 F56 F57 
def X38 : Exits := fun i => lookN i [] [(3, [(.exit 0, xk 29 [(5, .own 1000000 2 .flat [])] [])])]
abbrev s38 : List (Bool × List CK) := [(true, [.sl 2 false, .sl 10 true, .sl 4 true, .int .i64]), (false, [.str])]
def G38 (F : T38) (β : Type) (e : (List V × List V × List V × Int × Unit) × (List UInt8 × Unit) × Unit) (k : V → Option β) : Option β := F β e.1.1 e.1.2.1 e.1.2.2.1 e.1.2.2.2.1 e.2.1.1 (fun y1 => k (.own 0 2 .flat y1))
abbrev W38 (F : T38) : WT := wrap s38 (G38 F)
theorem k38 (F56 : T56) (F57 : T57) (β : Type) (e : argsT s38) (k : V → Option β) : fnK cfg (tabL [(56, W56 F56), (57, W57 F57)]) X38 38 Try.f38 β (argsEnc s38 e) k = G38 (P38 F56 F57 ) β e k := by kernel_rfl
theorem ok38 : FnOk D 38 (W38 F38) := fn_okW [(56, W56 F56), (57, W57 F57)] X38 (fun _ => rfl) Try.func38 rfl (tabL_cons ok56 (tabL_cons ok57 tabL_nil)) (k38 F56 F57 )

/-- slices.Equal[[]impl.Addr,impl.Addr] -/
abbrev T37 : Type 1 := (β : Type) → List V → List V → (Bool → Option β) → Option β
def P37 : T37 := fun β s1 s2 k =>
 br ((s1.length : Int) != (s2.length : Int)) (
 k false) (
 whileK (fun s3 =>
 br (decide ((lI s3 3) < (lI s3 2))) (
 chk (0 ≤ (lI s3 3)) <|
 idx true [.str, .str] (lL s3 0) ((lI s3 3).toNat) fun (e4 : List UInt8 × List UInt8 × Unit) =>
 chk (0 ≤ (lI s3 3)) <|
 idx true [.str, .str] (lL s3 1) ((lI s3 3).toNat) fun (e5 : List UInt8 × List UInt8 × Unit) =>
 br (!((e4.1 == e5.1) && ((e4.2.1 == e5.2.1) && true))) (
 some (.inr (0, [.b false]))) (
 some (.inl [.l (lL s3 0), .l (lL s3 1), .i (lI s3 2), .i (IntKind.wrap .i64 ((lI s3 3) + 1))]))) (
 some (.inr (1, [])))) [.l s1, .l s2, .i (s1.length : Int), .i 0] fun (r6 : Nat × List Leaf) =>
 if r6.1 = 0 then
 k (lB r6.2 0)
 else
 k true)
def F37 : T37 := P37 
def X37 : Exits := fun i => lookN i [] [(4, [(.ret, xk 26 [(4, .bool false)] []), (.exit 0, xk 26 [] [])])]
abbrev s37 : List (Bool × List CK) := [(false, [.sl 2 true]), (false, [.sl 2 true])]
def G37 (F : T37) (β : Type) (e : (List V × Unit) × (List V × Unit) × Unit) (k : V → Option β) : Option β := F β e.1.1 e.2.1.1 (fun y1 => k (.bool y1))
abbrev W37 (F : T37) : WT := wrap s37 (G37 F)
theorem k37 (β : Type) (e : argsT s37) (k : V → Option β) : fnK cfg (tabL []) X37 37 Try.f37 β (argsEnc s37 e) k = G37 (P37 ) β e k := by kernel_rfl
theorem ok37 : FnOk D 37 (W37 F37) := fn_okW [] X37 (fun _ => rfl) Try.func37 rfl (tabL_nil) (k37 )

/-- slices.Index[[]string,string] -/
abbrev T79 : Type 1 := (β : Type) → List V → List UInt8 → (Int → Option β) → Option β
def P79 : T79 := fun β s v k =>
 whileK (fun s1 =>
 br (decide ((lI s1 3) < (lI s1 2))) (
 chk (0 ≤ (lI s1 3)) <|
 idx false [.str] (lL s1 0) ((lI s1 3).toNat) fun (e2 : List UInt8 × Unit) =>
 br ((lS s1 1) == e2.1) (
 some (.inr (0, [.i (lI s1 3)]))) (
 some (.inl [.l (lL s1 0), .s (lS s1 1), .i (lI s1 2), .i (IntKind.wrap .i64 ((lI s1 3) + 1))]))) (
 some (.inr (1, [])))) [.l s, .s v, .i (s.length : Int), .i 0] fun (r3 : Nat × List Leaf) =>
 if r3.1 = 0 then
 k (lI r3.2 0)
 else
 k (-1)
def F79 : T79 := P79 
def X79 : Exits := fun i => lookN i [] [(2, [(.ret, xk 19 [(4, .int .i64 0)] []), (.exit 0, xk 19 [] [])])]
abbrev s79 : List (Bool × List CK) := [(false, [.sl 1 true]), (false, [.str])]
def G79 (F : T79) (β : Type) (e : (List V × Unit) × (List UInt8 × Unit) × Unit) (k : V → Option β) : Option β := F β e.1.1 e.2.1.1 (fun y1 => k (.int .i64 y1))
abbrev W79 (F : T79) : WT := wrap s79 (G79 F)
theorem k79 (β : Type) (e : argsT s79) (k : V → Option β) : fnK cfg (tabL []) X79 79 Try.f79 β (argsEnc s79 e) k = G79 (P79 ) β e k := by kernel_rfl
theorem ok79 : FnOk D 79 (W79 F79) := fn_okW [] X79 (fun _ => rfl) Try.func79 rfl (tabL_nil) (k79 )
theorem okd79 : FnOk D1 79 (W79 F79) := fn_okW [] X79 (fun _ => rfl) Try.func79 rfl (tabL_nil) (k79 )

/-- slices.Contains[[]string,string] -/
abbrev T64 : Type 1 := (β : Type) → List V → List UInt8 → (Bool → Option β) → Option β
def P64 (F79 : T79) : T64 := fun β s v k =>
 F79 _ s v fun n1 =>
 k (decide (n1 ≥ 0))
def F64 : T64 := P64 F79 
abbrev s64 : List (Bool × List CK) := [(false, [.sl 1 true]), (false, [.str])]
def G64 (F : T64) (β : Type) (e : (List V × Unit) × (List UInt8 × Unit) × Unit) (k : V → Option β) : Option β := F β e.1.1 e.2.1.1 (fun y1 => k (.bool y1))
abbrev W64 (F : T64) : WT := wrap s64 (G64 F)
theorem k64 (F79 : T79) (β : Type) (e : argsT s64) (k : V → Option β) : fnK cfg (tabL [(79, W79 F79)]) noX 64 Try.f64 β (argsEnc s64 e) k = G64 (P64 F79 ) β e k := by kernel_rfl
theorem ok64 : FnOk D 64 (W64 F64) := fn_okW [(79, W79 F79)] noX (fun _ => rfl) Try.func64 rfl (tabL_cons ok79 tabL_nil) (k64 F79 )
theorem okd64 : FnOk D1 64 (W64 F64) := fn_okW [(79, W79 F79)] noX (fun _ => rfl) Try.func64 rfl (tabL_cons okd79 tabL_nil) (k64 F79 )

/-- impl.TopsOf -/
abbrev T48 : Type 1 := (β : Type) → List V → List V → List V → Int → List UInt8 → (List V → Option β) → Option β
def P48 (F56 : T56) (F64 : T64) : T48 := fun β n_Servers n_Cache_Entries n_Log n_Now host k =>
 F56 _ n_Servers n_Cache_Entries n_Log n_Now host fun l1 =>
 whileK (fun s2 =>
 br (decide ((lI s2 3) < (lI s2 2))) (
 chk (0 ≤ (lI s2 3) ∧ (lI s2 3).toNat < (lL s2 1).length) <|
 idxAt [.str, .str, .str, .bool] (lL s2 1) ((lI s2 3).toNat) 0 fun (e3 : List UInt8 × List UInt8 × List UInt8 × Bool × Unit) =>
 F64 _ (lL s2 0) e3.1 fun b4 =>
 br (!b4) (
 chk (((lL s2 0).length + ([.str e3.1] : List V).length) * 16 ≤ 140737488355328 ∧ (lL s2 0).length + ([.str e3.1] : List V).length ≤ 140737488355328) <|
 some (.inl [.l ((lL s2 0) ++ ([.str e3.1] : List V)), .l (lL s2 1), .i (lI s2 2), .i (IntKind.wrap .i64 ((lI s2 3) + 1))])) (
 some (.inl [.l (lL s2 0), .l (lL s2 1), .i (lI s2 2), .i (IntKind.wrap .i64 ((lI s2 3) + 1))]))) (
 some (.inr (0, [.l (lL s2 0)])))) [.l [], .l l1, .i (l1.length : Int), .i 0] fun (r5 : Nat × List Leaf) =>
 k (lL r5.2 0)
def F48 : T48 := P48 F56 F64 
def X48 : Exits := fun i => lookN i [] [(3, [(.exit 0, xk 29 [(5, .own 1000000 1 .flat [])] [])])]
abbrev s48 : List (Bool × List CK) := [(true, [.sl 2 false, .sl 10 true, .sl 4 true, .int .i64]), (false, [.str])]
def G48 (F : T48) (β : Type) (e : (List V × List V × List V × Int × Unit) × (List UInt8 × Unit) × Unit) (k : V → Option β) : Option β := F β e.1.1 e.1.2.1 e.1.2.2.1 e.1.2.2.2.1 e.2.1.1 (fun y1 => k (.own 0 1 .flat y1))
abbrev W48 (F : T48) : WT := wrap s48 (G48 F)
theorem k48 (F56 : T56) (F64 : T64) (β : Type) (e : argsT s48) (k : V → Option β) : fnK cfg (tabL [(56, W56 F56), (64, W64 F64)]) X48 48 Try.f48 β (argsEnc s48 e) k = G48 (P48 F56 F64 ) β e k := by kernel_rfl
theorem ok48 : FnOk D 48 (W48 F48) := fn_okW [(56, W56 F56), (64, W64 F64)] X48 (fun _ => rfl) Try.func48 rfl (tabL_cons ok56 (tabL_cons ok64 tabL_nil)) (k48 F56 F64 )
theorem okd48 : FnOk D1 48 (W48 F48) := fn_okW [(56, W56 F56), (64, W64 F64)] X48 (fun _ => rfl) Try.func48 rfl (tabL_cons okd56 (tabL_cons okd64 tabL_nil)) (k48 F56 F64 )

/-- impl.sortedTops -/
abbrev T24 : Type 1 := (β : Type) → List V → List V → List V → Int → List UInt8 → (List V → Option β) → Option β
def F24 : T24 := fun β a0_Servers a0_Cache_Entries a0_Log a0_Now a1 k => F48 β a0_Servers a0_Cache_Entries a0_Log a0_Now a1 (fun y => sortStrK β y k)
abbrev s24 : List (Bool × List CK) := [(true, [.sl 2 false, .sl 10 true, .sl 4 true, .int .i64]), (false, [.str])]
def G24 (F : T24) (β : Type) (e : (List V × List V × List V × Int × Unit) × (List UInt8 × Unit) × Unit) (k : V → Option β) : Option β := F β e.1.1 e.1.2.1 e.1.2.2.1 e.1.2.2.2.1 e.2.1.1 (fun y1 => k (.own 0 1 .flat y1))
abbrev W24 (F : T24) : WT := wrap s24 (G24 F)
theorem ok24 : FnOk D 24 (W24 F24) := ok_tops (sh := s24) (Fg := fun β e k => F48 β e.1.1 e.1.2.1 e.1.2.2.1 e.1.2.2.2.1 e.2.1.1 k) (fun _ => rfl) okd48 (fun x => by obtain ⟨⟨x0_0, x0_1, x0_2, x0_3, _⟩, ⟨x1_0, _⟩, _⟩ := x; exact ⟨_, _, _, _, _, _, _, _, _, _, _, _, rfl⟩) (fun β x G k => by obtain ⟨⟨x0_0, x0_1, x0_2, x0_3, _⟩, ⟨x1_0, _⟩, _⟩ := x; rfl)

/-- slices.Equal[[]string,string] -/
abbrev T39 : Type 1 := (β : Type) → List V → List V → (Bool → Option β) → Option β
def P39 : T39 := fun β s1 s2 k =>
 br ((s1.length : Int) != (s2.length : Int)) (
 k false) (
 whileK (fun s3 =>
 br (decide ((lI s3 3) < (lI s3 2))) (
 chk (0 ≤ (lI s3 3)) <|
 idx false [.str] (lL s3 0) ((lI s3 3).toNat) fun (e4 : List UInt8 × Unit) =>
 chk (0 ≤ (lI s3 3)) <|
 idx false [.str] (lL s3 1) ((lI s3 3).toNat) fun (e5 : List UInt8 × Unit) =>
 br (!(e4.1 == e5.1)) (
 some (.inr (0, [.b false]))) (
 some (.inl [.l (lL s3 0), .l (lL s3 1), .i (lI s3 2), .i (IntKind.wrap .i64 ((lI s3 3) + 1))]))) (
 some (.inr (1, [])))) [.l s1, .l s2, .i (s1.length : Int), .i 0] fun (r6 : Nat × List Leaf) =>
 if r6.1 = 0 then
 k (lB r6.2 0)
 else
 k true)
def F39 : T39 := P39 
def X39 : Exits := fun i => lookN i [] [(4, [(.ret, xk 26 [(4, .bool false)] []), (.exit 0, xk 26 [] [])])]
abbrev s39 : List (Bool × List CK) := [(false, [.sl 1 true]), (false, [.sl 1 true])]
def G39 (F : T39) (β : Type) (e : (List V × Unit) × (List V × Unit) × Unit) (k : V → Option β) : Option β := F β e.1.1 e.2.1.1 (fun y1 => k (.bool y1))
abbrev W39 (F : T39) : WT := wrap s39 (G39 F)
theorem k39 (β : Type) (e : argsT s39) (k : V → Option β) : fnK cfg (tabL []) X39 39 Try.f39 β (argsEnc s39 e) k = G39 (P39 ) β e k := by kernel_rfl
theorem ok39 : FnOk D 39 (W39 F39) := fn_okW [] X39 (fun _ => rfl) Try.func39 rfl (tabL_nil) (k39 )

/-- impl.SameView -/
abbrev T15 : Type 1 := (β : Type) → List V → List V → List V → Int → List V → List V → List V → Int → List UInt8 → (Bool → Option β) → Option β
def P15 (F38 : T38) (F37 : T37) (F24 : T24) (F39 : T39) : T15 := fun β a_Servers a_Cache_Entries a_Log a_Now b_Servers b_Cache_Entries b_Log b_Now host k =>
 F38 _ a_Servers a_Cache_Entries a_Log a_Now host fun l1 =>
 F38 _ b_Servers b_Cache_Entries b_Log b_Now host fun l2 =>
 F37 _ l1 l2 fun b3 =>
 br b3 (
 F24 _ a_Servers a_Cache_Entries a_Log a_Now host fun l4 =>
 F24 _ b_Servers b_Cache_Entries b_Log b_Now host fun l5 =>
 F39 _ l4 l5 fun b6 =>
 k b6) (
 k false)
def F15 : T15 := P15 F38 F37 F24 F39 
abbrev s15 : List (Bool × List CK) := [(true, [.sl 2 false, .sl 10 true, .sl 4 true, .int .i64]), (true, [.sl 2 false, .sl 10 true, .sl 4 true, .int .i64]), (false, [.str])]
def G15 (F : T15) (β : Type) (e : (List V × List V × List V × Int × Unit) × (List V × List V × List V × Int × Unit) × (List UInt8 × Unit) × Unit) (k : V → Option β) : Option β := F β e.1.1 e.1.2.1 e.1.2.2.1 e.1.2.2.2.1 e.2.1.1 e.2.1.2.1 e.2.1.2.2.1 e.2.1.2.2.2.1 e.2.2.1.1 (fun y1 => k (.bool y1))
abbrev W15 (F : T15) : WT := wrap s15 (G15 F)
theorem k15 (F38 : T38) (F37 : T37) (F24 : T24) (F39 : T39) (β : Type) (e : argsT s15) (k : V → Option β) : fnK cfg (tabL [(38, W38 F38), (37, W37 F37), (24, W24 F24), (39, W39 F39)]) noX 15 Try.f15 β (argsEnc s15 e) k = G15 (P15 F38 F37 F24 F39 ) β e k := by kernel_rfl
theorem ok15 : FnOk D 15 (W15 F15) := fn_okW [(38, W38 F38), (37, W37 F37), (24, W24 F24), (39, W39 F39)] noX (fun _ => rfl) Try.func15 rfl (tabL_cons ok38 (tabL_cons ok37 (tabL_cons ok24 (tabL_cons ok39 tabL_nil)))) (k15 F38 F37 F24 F39 )

/-- laws.eqResponse -/
abbrev T92 : Type 1 := (β : Type) → Int → Int → List UInt8 → Int → Bool → List UInt8 → Int → Int → List UInt8 → Int → Bool → List UInt8 → (Bool → Option β) → Option β
def P92 : T92 := fun β a_Status a_Kind a_Body a_Age a_Shares a_Policy b_Status b_Kind b_Body b_Age b_Shares b_Policy k =>
 br (a_Status != b_Status) (
 k false) (
 br (a_Kind != b_Kind) (
 k false) (
 br (!(a_Body == b_Body)) (
 k false) (
 br (a_Age != b_Age) (
 k false) (
 br (!(a_Shares == b_Shares)) (
 k false) (
 br (!(a_Policy == b_Policy)) (
 k false) (
 k true))))))
def F92 : T92 := P92 
abbrev s92 : List (Bool × List CK) := [(true, [.int .i64, .int .i64, .str, .int .i64, .bool, .str]), (true, [.int .i64, .int .i64, .str, .int .i64, .bool, .str])]
def G92 (F : T92) (β : Type) (e : (Int × Int × List UInt8 × Int × Bool × List UInt8 × Unit) × (Int × Int × List UInt8 × Int × Bool × List UInt8 × Unit) × Unit) (k : V → Option β) : Option β := let a0_0 := e.1; let a0_1 := a0_0.2; let a0_2 := a0_1.2; let a0_3 := a0_2.2; let a0_4 := a0_3.2; let a0_5 := a0_4.2; let a1_0 := e.2.1; let a1_1 := a1_0.2; let a1_2 := a1_1.2; let a1_3 := a1_2.2; let a1_4 := a1_3.2; let a1_5 := a1_4.2; F β a0_0.1 a0_1.1 a0_2.1 a0_3.1 a0_4.1 a0_5.1 a1_0.1 a1_1.1 a1_2.1 a1_3.1 a1_4.1 a1_5.1 (fun y1 => k (.bool y1))
abbrev W92 (F : T92) : WT := wrap s92 (G92 F)
theorem k92 (β : Type) (e : argsT s92) (k : V → Option β) : fnK cfg (tabL []) noX 92 Try.f92 β (argsEnc s92 e) k = G92 (P92 ) β e k := by kernel_rfl
theorem ok92 : FnOk D 92 (W92 F92) := fn_okW [] noX (fun _ => rfl) Try.func92 rfl (tabL_nil) (k92 )

/-- laws.eqFile -/
abbrev T91 : Type 1 := (β : Type) → List UInt8 → Int → Int → List UInt8 → Int → Bool → List UInt8 → List UInt8 → Int → Int → List UInt8 → Int → Bool → List UInt8 → (Bool → Option β) → Option β
def P91 (F92 : T92) : T91 := fun β a_Path a_Response_Status a_Response_Kind a_Response_Body a_Response_Age a_Response_Shares a_Response_Policy b_Path b_Response_Status b_Response_Kind b_Response_Body b_Response_Age b_Response_Shares b_Response_Policy k =>
 br (!(a_Path == b_Path)) (
 k false) (
 F92 _ a_Response_Status a_Response_Kind a_Response_Body a_Response_Age a_Response_Shares a_Response_Policy b_Response_Status b_Response_Kind b_Response_Body b_Response_Age b_Response_Shares b_Response_Policy fun b1 =>
 br (!b1) (
 k false) (
 k true))
def F91 : T91 := P91 F92 
abbrev s91 : List (Bool × List CK) := [(true, [.str, .int .i64, .int .i64, .str, .int .i64, .bool, .str]), (true, [.str, .int .i64, .int .i64, .str, .int .i64, .bool, .str])]
def G91 (F : T91) (β : Type) (e : (List UInt8 × Int × Int × List UInt8 × Int × Bool × List UInt8 × Unit) × (List UInt8 × Int × Int × List UInt8 × Int × Bool × List UInt8 × Unit) × Unit) (k : V → Option β) : Option β := let a0_0 := e.1; let a0_1 := a0_0.2; let a0_2 := a0_1.2; let a0_3 := a0_2.2; let a0_4 := a0_3.2; let a0_5 := a0_4.2; let a0_6 := a0_5.2; let a1_0 := e.2.1; let a1_1 := a1_0.2; let a1_2 := a1_1.2; let a1_3 := a1_2.2; let a1_4 := a1_3.2; let a1_5 := a1_4.2; let a1_6 := a1_5.2; F β a0_0.1 a0_1.1 a0_2.1 a0_3.1 a0_4.1 a0_5.1 a0_6.1 a1_0.1 a1_1.1 a1_2.1 a1_3.1 a1_4.1 a1_5.1 a1_6.1 (fun y1 => k (.bool y1))
abbrev W91 (F : T91) : WT := wrap s91 (G91 F)
theorem k91 (F92 : T92) (β : Type) (e : argsT s91) (k : V → Option β) : fnK cfg (tabL [(92, W92 F92)]) noX 91 Try.f91 β (argsEnc s91 e) k = G91 (P91 F92 ) β e k := by kernel_rfl
theorem ok91 : FnOk D 91 (W91 F91) := fn_okW [(92, W92 F92)] noX (fun _ => rfl) Try.func91 rfl (tabL_cons ok92 tabL_nil) (k91 F92 )

/-- laws.eqFileS -/
abbrev T67 : Type 1 := (β : Type) → List V → List V → (Bool → Option β) → Option β
def P67 (F91 : T91) : T67 := fun β a b k =>
 br ((a.length : Int) != (b.length : Int)) (
 k false) (
 whileK (fun s1 =>
 br (decide ((lI s1 2) < ((lL s1 0).length : Int))) (
 chk (0 ≤ (lI s1 2)) <|
 idx true [.str, .int .i64, .int .i64, .str, .int .i64, .bool, .str] (lL s1 0) ((lI s1 2).toNat) fun (e2 : List UInt8 × Int × Int × List UInt8 × Int × Bool × List UInt8 × Unit) =>
 chk (0 ≤ (lI s1 2)) <|
 idx true [.str, .int .i64, .int .i64, .str, .int .i64, .bool, .str] (lL s1 1) ((lI s1 2).toNat) fun (e3 : List UInt8 × Int × Int × List UInt8 × Int × Bool × List UInt8 × Unit) =>
 F91 _ e2.1 e2.2.1 e2.2.2.1 e2.2.2.2.1 e2.2.2.2.2.1 e2.2.2.2.2.2.1 e2.2.2.2.2.2.2.1 e3.1 e3.2.1 e3.2.2.1 e3.2.2.2.1 e3.2.2.2.2.1 e3.2.2.2.2.2.1 e3.2.2.2.2.2.2.1 fun b4 =>
 br (!b4) (
 some (.inr (0, [.b false]))) (
 some (.inl [.l (lL s1 0), .l (lL s1 1), .i (IntKind.wrap .i64 ((lI s1 2) + 1))]))) (
 some (.inr (1, [])))) [.l a, .l b, .i 0] fun (r5 : Nat × List Leaf) =>
 if r5.1 = 0 then
 k (lB r5.2 0)
 else
 k true)
def F67 : T67 := P67 F91 
def X67 : Exits := fun i => lookN i [] [(4, [(.ret, xk 27 [(4, .bool false)] []), (.exit 0, xk 27 [] [])])]
abbrev s67 : List (Bool × List CK) := [(false, [.sl 7 true]), (false, [.sl 7 true])]
def G67 (F : T67) (β : Type) (e : (List V × Unit) × (List V × Unit) × Unit) (k : V → Option β) : Option β := F β e.1.1 e.2.1.1 (fun y1 => k (.bool y1))
abbrev W67 (F : T67) : WT := wrap s67 (G67 F)
theorem k67 (F91 : T91) (β : Type) (e : argsT s67) (k : V → Option β) : fnK cfg (tabL [(91, W91 F91)]) X67 67 Try.f67 β (argsEnc s67 e) k = G67 (P67 F91 ) β e k := by kernel_rfl
theorem ok67 : FnOk D 67 (W67 F67) := fn_okW [(91, W91 F91)] X67 (fun _ => rfl) Try.func67 rfl (tabL_cons ok91 tabL_nil) (k67 F91 )

/-- laws.eqServer -/
abbrev T50 : Type 1 := (β : Type) → List UInt8 → List V → List UInt8 → List V → (Bool → Option β) → Option β
def P50 (F67 : T67) : T50 := fun β a_Host a_Files b_Host b_Files k =>
 br (!(a_Host == b_Host)) (
 k false) (
 F67 _ a_Files b_Files fun b1 =>
 br (!b1) (
 k false) (
 k true))
def F50 : T50 := P50 F67 
abbrev s50 : List (Bool × List CK) := [(true, [.str, .sl 7 true]), (true, [.str, .sl 7 true])]
def G50 (F : T50) (β : Type) (e : (List UInt8 × List V × Unit) × (List UInt8 × List V × Unit) × Unit) (k : V → Option β) : Option β := F β e.1.1 e.1.2.1 e.2.1.1 e.2.1.2.1 (fun y1 => k (.bool y1))
abbrev W50 (F : T50) : WT := wrap s50 (G50 F)
theorem k50 (F67 : T67) (β : Type) (e : argsT s50) (k : V → Option β) : fnK cfg (tabL [(67, W67 F67)]) noX 50 Try.f50 β (argsEnc s50 e) k = G50 (P50 F67 ) β e k := by kernel_rfl
theorem ok50 : FnOk D 50 (W50 F50) := fn_okW [(67, W67 F67)] noX (fun _ => rfl) Try.func50 rfl (tabL_cons ok67 tabL_nil) (k50 F67 )

/-- laws.eqServerS -/
abbrev T26 : Type 1 := (β : Type) → List V → List V → (Bool → Option β) → Option β
def P26 (F50 : T50) : T26 := fun β a b k =>
 br ((a.length : Int) != (b.length : Int)) (
 k false) (
 whileK (fun s1 =>
 br (decide ((lI s1 2) < ((lL s1 0).length : Int))) (
 chk (0 ≤ (lI s1 2)) <|
 idx true [.str, .sl 7 true] (lL s1 0) ((lI s1 2).toNat) fun (e2 : List UInt8 × List V × Unit) =>
 chk (0 ≤ (lI s1 2)) <|
 idx true [.str, .sl 7 true] (lL s1 1) ((lI s1 2).toNat) fun (e3 : List UInt8 × List V × Unit) =>
 F50 _ e2.1 e2.2.1 e3.1 e3.2.1 fun b4 =>
 br (!b4) (
 some (.inr (0, [.b false]))) (
 some (.inl [.l (lL s1 0), .l (lL s1 1), .i (IntKind.wrap .i64 ((lI s1 2) + 1))]))) (
 some (.inr (1, [])))) [.l a, .l b, .i 0] fun (r5 : Nat × List Leaf) =>
 if r5.1 = 0 then
 k (lB r5.2 0)
 else
 k true)
def F26 : T26 := P26 F50 
def X26 : Exits := fun i => lookN i [] [(4, [(.ret, xk 27 [(4, .bool false)] []), (.exit 0, xk 27 [] [])])]
abbrev s26 : List (Bool × List CK) := [(false, [.sl 2 false]), (false, [.sl 2 false])]
def G26 (F : T26) (β : Type) (e : (List V × Unit) × (List V × Unit) × Unit) (k : V → Option β) : Option β := F β e.1.1 e.2.1.1 (fun y1 => k (.bool y1))
abbrev W26 (F : T26) : WT := wrap s26 (G26 F)
theorem k26 (F50 : T50) (β : Type) (e : argsT s26) (k : V → Option β) : fnK cfg (tabL [(50, W50 F50)]) X26 26 Try.f26 β (argsEnc s26 e) k = G26 (P26 F50 ) β e k := by kernel_rfl
theorem ok26 : FnOk D 26 (W26 F26) := fn_okW [(50, W50 F50)] X26 (fun _ => rfl) Try.func26 rfl (tabL_cons ok50 tabL_nil) (k26 F50 )

/-- laws.eqAddr -/
abbrev T69 : Type 1 := (β : Type) → List UInt8 → List UInt8 → List UInt8 → List UInt8 → (Bool → Option β) → Option β
def P69 : T69 := fun β a_Host a_Path b_Host b_Path k =>
 br (!(a_Host == b_Host)) (
 k false) (
 br (!(a_Path == b_Path)) (
 k false) (
 k true))
def F69 : T69 := P69 
abbrev s69 : List (Bool × List CK) := [(true, [.str, .str]), (true, [.str, .str])]
def G69 (F : T69) (β : Type) (e : (List UInt8 × List UInt8 × Unit) × (List UInt8 × List UInt8 × Unit) × Unit) (k : V → Option β) : Option β := F β e.1.1 e.1.2.1 e.2.1.1 e.2.1.2.1 (fun y1 => k (.bool y1))
abbrev W69 (F : T69) : WT := wrap s69 (G69 F)
theorem k69 (β : Type) (e : argsT s69) (k : V → Option β) : fnK cfg (tabL []) noX 69 Try.f69 β (argsEnc s69 e) k = G69 (P69 ) β e k := by kernel_rfl
theorem ok69 : FnOk D 69 (W69 F69) := fn_okW [] noX (fun _ => rfl) Try.func69 rfl (tabL_nil) (k69 )

/-- laws.eqEntry -/
abbrev T68 : Type 1 := (β : Type) → List UInt8 → List UInt8 → List UInt8 → Int → Int → List UInt8 → Int → Bool → List UInt8 → Int → List UInt8 → List UInt8 → List UInt8 → Int → Int → List UInt8 → Int → Bool → List UInt8 → Int → (Bool → Option β) → Option β
def P68 (F69 : T69) (F92 : T92) : T68 := fun β a_Top a_To_Host a_To_Path a_Response_Status a_Response_Kind a_Response_Body a_Response_Age a_Response_Shares a_Response_Policy a_Until b_Top b_To_Host b_To_Path b_Response_Status b_Response_Kind b_Response_Body b_Response_Age b_Response_Shares b_Response_Policy b_Until k =>
 br (!(a_Top == b_Top)) (
 k false) (
 F69 _ a_To_Host a_To_Path b_To_Host b_To_Path fun b1 =>
 br (!b1) (
 k false) (
 F92 _ a_Response_Status a_Response_Kind a_Response_Body a_Response_Age a_Response_Shares a_Response_Policy b_Response_Status b_Response_Kind b_Response_Body b_Response_Age b_Response_Shares b_Response_Policy fun b2 =>
 br (!b2) (
 k false) (
 br (a_Until != b_Until) (
 k false) (
 k true))))
def F68 : T68 := P68 F69 F92 
abbrev s68 : List (Bool × List CK) := [(true, [.str, .str, .str, .int .i64, .int .i64, .str, .int .i64, .bool, .str, .int .i64]), (true, [.str, .str, .str, .int .i64, .int .i64, .str, .int .i64, .bool, .str, .int .i64])]
def G68 (F : T68) (β : Type) (e : (List UInt8 × List UInt8 × List UInt8 × Int × Int × List UInt8 × Int × Bool × List UInt8 × Int × Unit) × (List UInt8 × List UInt8 × List UInt8 × Int × Int × List UInt8 × Int × Bool × List UInt8 × Int × Unit) × Unit) (k : V → Option β) : Option β := let a0_0 := e.1; let a0_1 := a0_0.2; let a0_2 := a0_1.2; let a0_3 := a0_2.2; let a0_4 := a0_3.2; let a0_5 := a0_4.2; let a0_6 := a0_5.2; let a0_7 := a0_6.2; let a0_8 := a0_7.2; let a0_9 := a0_8.2; let a1_0 := e.2.1; let a1_1 := a1_0.2; let a1_2 := a1_1.2; let a1_3 := a1_2.2; let a1_4 := a1_3.2; let a1_5 := a1_4.2; let a1_6 := a1_5.2; let a1_7 := a1_6.2; let a1_8 := a1_7.2; let a1_9 := a1_8.2; F β a0_0.1 a0_1.1 a0_2.1 a0_3.1 a0_4.1 a0_5.1 a0_6.1 a0_7.1 a0_8.1 a0_9.1 a1_0.1 a1_1.1 a1_2.1 a1_3.1 a1_4.1 a1_5.1 a1_6.1 a1_7.1 a1_8.1 a1_9.1 (fun y1 => k (.bool y1))
abbrev W68 (F : T68) : WT := wrap s68 (G68 F)
theorem k68 (F69 : T69) (F92 : T92) (β : Type) (e : argsT s68) (k : V → Option β) : fnK cfg (tabL [(69, W69 F69), (92, W92 F92)]) noX 68 Try.f68 β (argsEnc s68 e) k = G68 (P68 F69 F92 ) β e k := by kernel_rfl
theorem ok68 : FnOk D 68 (W68 F68) := fn_okW [(69, W69 F69), (92, W92 F92)] noX (fun _ => rfl) Try.func68 rfl (tabL_cons ok69 (tabL_cons ok92 tabL_nil)) (k68 F69 F92 )

/-- laws.eqEntryS -/
abbrev T51 : Type 1 := (β : Type) → List V → List V → (Bool → Option β) → Option β
def P51 (F68 : T68) : T51 := fun β a b k =>
 br ((a.length : Int) != (b.length : Int)) (
 k false) (
 whileK (fun s1 =>
 br (decide ((lI s1 2) < ((lL s1 0).length : Int))) (
 chk (0 ≤ (lI s1 2)) <|
 idx true [.str, .str, .str, .int .i64, .int .i64, .str, .int .i64, .bool, .str, .int .i64] (lL s1 0) ((lI s1 2).toNat) fun (e2 : List UInt8 × List UInt8 × List UInt8 × Int × Int × List UInt8 × Int × Bool × List UInt8 × Int × Unit) =>
 chk (0 ≤ (lI s1 2)) <|
 idx true [.str, .str, .str, .int .i64, .int .i64, .str, .int .i64, .bool, .str, .int .i64] (lL s1 1) ((lI s1 2).toNat) fun (e3 : List UInt8 × List UInt8 × List UInt8 × Int × Int × List UInt8 × Int × Bool × List UInt8 × Int × Unit) =>
 F68 _ e2.1 e2.2.1 e2.2.2.1 e2.2.2.2.1 e2.2.2.2.2.1 e2.2.2.2.2.2.1 e2.2.2.2.2.2.2.1 e2.2.2.2.2.2.2.2.1 e2.2.2.2.2.2.2.2.2.1 e2.2.2.2.2.2.2.2.2.2.1 e3.1 e3.2.1 e3.2.2.1 e3.2.2.2.1 e3.2.2.2.2.1 e3.2.2.2.2.2.1 e3.2.2.2.2.2.2.1 e3.2.2.2.2.2.2.2.1 e3.2.2.2.2.2.2.2.2.1 e3.2.2.2.2.2.2.2.2.2.1 fun b4 =>
 br (!b4) (
 some (.inr (0, [.b false]))) (
 some (.inl [.l (lL s1 0), .l (lL s1 1), .i (IntKind.wrap .i64 ((lI s1 2) + 1))]))) (
 some (.inr (1, [])))) [.l a, .l b, .i 0] fun (r5 : Nat × List Leaf) =>
 if r5.1 = 0 then
 k (lB r5.2 0)
 else
 k true)
def F51 : T51 := P51 F68 
def X51 : Exits := fun i => lookN i [] [(4, [(.ret, xk 27 [(4, .bool false)] []), (.exit 0, xk 27 [] [])])]
abbrev s51 : List (Bool × List CK) := [(false, [.sl 10 true]), (false, [.sl 10 true])]
def G51 (F : T51) (β : Type) (e : (List V × Unit) × (List V × Unit) × Unit) (k : V → Option β) : Option β := F β e.1.1 e.2.1.1 (fun y1 => k (.bool y1))
abbrev W51 (F : T51) : WT := wrap s51 (G51 F)
theorem k51 (F68 : T68) (β : Type) (e : argsT s51) (k : V → Option β) : fnK cfg (tabL [(68, W68 F68)]) X51 51 Try.f51 β (argsEnc s51 e) k = G51 (P51 F68 ) β e k := by kernel_rfl
theorem ok51 : FnOk D 51 (W51 F51) := fn_okW [(68, W68 F68)] X51 (fun _ => rfl) Try.func51 rfl (tabL_cons ok68 tabL_nil) (k51 F68 )

/-- laws.eqCache -/
abbrev T27 : Type 1 := (β : Type) → List V → List V → (Bool → Option β) → Option β
def P27 (F51 : T51) : T27 := fun β a_Entries b_Entries k =>
 F51 _ a_Entries b_Entries fun b1 =>
 br (!b1) (
 k false) (
 k true)
def F27 : T27 := P27 F51 
abbrev s27 : List (Bool × List CK) := [(true, [.sl 10 true]), (true, [.sl 10 true])]
def G27 (F : T27) (β : Type) (e : (List V × Unit) × (List V × Unit) × Unit) (k : V → Option β) : Option β := F β e.1.1 e.2.1.1 (fun y1 => k (.bool y1))
abbrev W27 (F : T27) : WT := wrap s27 (G27 F)
theorem k27 (F51 : T51) (β : Type) (e : argsT s27) (k : V → Option β) : fnK cfg (tabL [(51, W51 F51)]) noX 27 Try.f27 β (argsEnc s27 e) k = G27 (P27 F51 ) β e k := by kernel_rfl
theorem ok27 : FnOk D 27 (W27 F27) := fn_okW [(51, W51 F51)] noX (fun _ => rfl) Try.func27 rfl (tabL_cons ok51 tabL_nil) (k27 F51 )

/-- laws.eqSent -/
abbrev T52 : Type 1 := (β : Type) → List UInt8 → List UInt8 → List UInt8 → Bool → List UInt8 → List UInt8 → List UInt8 → Bool → (Bool → Option β) → Option β
def P52 (F69 : T69) : T52 := fun β a_Top a_To_Host a_To_Path a_Guess b_Top b_To_Host b_To_Path b_Guess k =>
 br (!(a_Top == b_Top)) (
 k false) (
 F69 _ a_To_Host a_To_Path b_To_Host b_To_Path fun b1 =>
 br (!b1) (
 k false) (
 br (!(a_Guess == b_Guess)) (
 k false) (
 k true)))
def F52 : T52 := P52 F69 
abbrev s52 : List (Bool × List CK) := [(true, [.str, .str, .str, .bool]), (true, [.str, .str, .str, .bool])]
def G52 (F : T52) (β : Type) (e : (List UInt8 × List UInt8 × List UInt8 × Bool × Unit) × (List UInt8 × List UInt8 × List UInt8 × Bool × Unit) × Unit) (k : V → Option β) : Option β := F β e.1.1 e.1.2.1 e.1.2.2.1 e.1.2.2.2.1 e.2.1.1 e.2.1.2.1 e.2.1.2.2.1 e.2.1.2.2.2.1 (fun y1 => k (.bool y1))
abbrev W52 (F : T52) : WT := wrap s52 (G52 F)
theorem k52 (F69 : T69) (β : Type) (e : argsT s52) (k : V → Option β) : fnK cfg (tabL [(69, W69 F69)]) noX 52 Try.f52 β (argsEnc s52 e) k = G52 (P52 F69 ) β e k := by kernel_rfl
theorem ok52 : FnOk D 52 (W52 F52) := fn_okW [(69, W69 F69)] noX (fun _ => rfl) Try.func52 rfl (tabL_cons ok69 tabL_nil) (k52 F69 )

/-- laws.eqSentS -/
abbrev T28 : Type 1 := (β : Type) → List V → List V → (Bool → Option β) → Option β
def P28 (F52 : T52) : T28 := fun β a b k =>
 br ((a.length : Int) != (b.length : Int)) (
 k false) (
 whileK (fun s1 =>
 br (decide ((lI s1 2) < ((lL s1 0).length : Int))) (
 chk (0 ≤ (lI s1 2)) <|
 idx true [.str, .str, .str, .bool] (lL s1 0) ((lI s1 2).toNat) fun (e2 : List UInt8 × List UInt8 × List UInt8 × Bool × Unit) =>
 chk (0 ≤ (lI s1 2)) <|
 idx true [.str, .str, .str, .bool] (lL s1 1) ((lI s1 2).toNat) fun (e3 : List UInt8 × List UInt8 × List UInt8 × Bool × Unit) =>
 F52 _ e2.1 e2.2.1 e2.2.2.1 e2.2.2.2.1 e3.1 e3.2.1 e3.2.2.1 e3.2.2.2.1 fun b4 =>
 br (!b4) (
 some (.inr (0, [.b false]))) (
 some (.inl [.l (lL s1 0), .l (lL s1 1), .i (IntKind.wrap .i64 ((lI s1 2) + 1))]))) (
 some (.inr (1, [])))) [.l a, .l b, .i 0] fun (r5 : Nat × List Leaf) =>
 if r5.1 = 0 then
 k (lB r5.2 0)
 else
 k true)
def F28 : T28 := P28 F52 
def X28 : Exits := fun i => lookN i [] [(4, [(.ret, xk 27 [(4, .bool false)] []), (.exit 0, xk 27 [] [])])]
abbrev s28 : List (Bool × List CK) := [(false, [.sl 4 true]), (false, [.sl 4 true])]
def G28 (F : T28) (β : Type) (e : (List V × Unit) × (List V × Unit) × Unit) (k : V → Option β) : Option β := F β e.1.1 e.2.1.1 (fun y1 => k (.bool y1))
abbrev W28 (F : T28) : WT := wrap s28 (G28 F)
theorem k28 (F52 : T52) (β : Type) (e : argsT s28) (k : V → Option β) : fnK cfg (tabL [(52, W52 F52)]) X28 28 Try.f28 β (argsEnc s28 e) k = G28 (P28 F52 ) β e k := by kernel_rfl
theorem ok28 : FnOk D 28 (W28 F28) := fn_okW [(52, W52 F52)] X28 (fun _ => rfl) Try.func28 rfl (tabL_cons ok52 tabL_nil) (k28 F52 )

/-- laws.eqNet -/
abbrev T10 : Type 1 := (β : Type) → List V → List V → List V → Int → List V → List V → List V → Int → (Bool → Option β) → Option β
def P10 (F26 : T26) (F27 : T27) (F28 : T28) : T10 := fun β a_Servers a_Cache_Entries a_Log a_Now b_Servers b_Cache_Entries b_Log b_Now k =>
 F26 _ a_Servers b_Servers fun b1 =>
 br (!b1) (
 k false) (
 F27 _ a_Cache_Entries b_Cache_Entries fun b2 =>
 br (!b2) (
 k false) (
 F28 _ a_Log b_Log fun b3 =>
 br (!b3) (
 k false) (
 br (a_Now != b_Now) (
 k false) (
 k true))))
def F10 : T10 := P10 F26 F27 F28 
abbrev s10 : List (Bool × List CK) := [(true, [.sl 2 false, .sl 10 true, .sl 4 true, .int .i64]), (true, [.sl 2 false, .sl 10 true, .sl 4 true, .int .i64])]
def G10 (F : T10) (β : Type) (e : (List V × List V × List V × Int × Unit) × (List V × List V × List V × Int × Unit) × Unit) (k : V → Option β) : Option β := F β e.1.1 e.1.2.1 e.1.2.2.1 e.1.2.2.2.1 e.2.1.1 e.2.1.2.1 e.2.1.2.2.1 e.2.1.2.2.2.1 (fun y1 => k (.bool y1))
abbrev W10 (F : T10) : WT := wrap s10 (G10 F)
theorem k10 (F26 : T26) (F27 : T27) (F28 : T28) (β : Type) (e : argsT s10) (k : V → Option β) : fnK cfg (tabL [(26, W26 F26), (27, W27 F27), (28, W28 F28)]) noX 10 Try.f10 β (argsEnc s10 e) k = G10 (P10 F26 F27 F28 ) β e k := by kernel_rfl
theorem ok10 : FnOk D 10 (W10 F10) := fn_okW [(26, W26 F26), (27, W27 F27), (28, W28 F28)] noX (fun _ => rfl) Try.func10 rfl (tabL_cons ok26 (tabL_cons ok27 (tabL_cons ok28 tabL_nil))) (k10 F26 F27 F28 )

/-- laws.FnExactSameView -/
abbrev T4 : Type 1 := (β : Type) → List V → List V → List V → Int → List V → List V → List V → Int → List UInt8 → (Bool → Option β) → Option β
def P4 (F5 : T5) (F7 : T7) (F14 : T14) (F15 : T15) (F10 : T10) : T4 := fun β aA_Servers aA_Cache_Entries aA_Log aA_Now aB_Servers aB_Cache_Entries aB_Log aB_Now aHost k =>
 br (decide ((aHost.length : Int) > 1048576)) (
 k true) (
 F5 _ aA_Servers aA_Cache_Entries aA_Log aA_Now 1048576 fun n1 =>
 br (decide (n1 < 0)) (
 k true) (
 F5 _ aB_Servers aB_Cache_Entries aB_Log aB_Now n1 fun n2 =>
 br (decide (n2 < 0)) (
 k true) (
 F7 _ aA_Servers aA_Cache_Entries aA_Log aA_Now fun l3 l4 l5 n6 =>
 F7 _ aB_Servers aB_Cache_Entries aB_Log aB_Now fun l7 l8 l9 n10 =>
 F14 _ l3 l4 l5 n6 l7 l8 l9 n10 aHost fun b11 =>
 F7 _ aA_Servers aA_Cache_Entries aA_Log aA_Now fun l12 l13 l14 n15 =>
 F7 _ aB_Servers aB_Cache_Entries aB_Log aB_Now fun l16 l17 l18 n19 =>
 F15 _ l12 l13 l14 n15 l16 l17 l18 n19 aHost fun b20 =>
 br (!(b20 == b11)) (
 k false) (
 F7 _ aA_Servers aA_Cache_Entries aA_Log aA_Now fun l21 l22 l23 n24 =>
 F10 _ l12 l13 l14 n15 l21 l22 l23 n24 fun b25 =>
 br (!b25) (
 k false) (
 F7 _ aB_Servers aB_Cache_Entries aB_Log aB_Now fun l26 l27 l28 n29 =>
 F10 _ l16 l17 l18 n19 l26 l27 l28 n29 fun b30 =>
 br (!b30) (
 k false) (
 k true))))))
def F4 : T4 := P4 F5 F7 F14 F15 F10 
abbrev s4 : List (Bool × List CK) := [(true, [.sl 2 false, .sl 10 true, .sl 4 true, .int .i64]), (true, [.sl 2 false, .sl 10 true, .sl 4 true, .int .i64]), (false, [.str])]
def G4 (F : T4) (β : Type) (e : (List V × List V × List V × Int × Unit) × (List V × List V × List V × Int × Unit) × (List UInt8 × Unit) × Unit) (k : V → Option β) : Option β := F β e.1.1 e.1.2.1 e.1.2.2.1 e.1.2.2.2.1 e.2.1.1 e.2.1.2.1 e.2.1.2.2.1 e.2.1.2.2.2.1 e.2.2.1.1 (fun y1 => k (.bool y1))
abbrev W4 (F : T4) : WT := wrap s4 (G4 F)
theorem k4 (F5 : T5) (F7 : T7) (F14 : T14) (F15 : T15) (F10 : T10) (β : Type) (e : argsT s4) (k : V → Option β) : fnK cfg (tabL [(5, W5 F5), (7, W7 F7), (14, W14 F14), (15, W15 F15), (10, W10 F10)]) noX 4 Try.f4 β (argsEnc s4 e) k = G4 (P4 F5 F7 F14 F15 F10 ) β e k := by kernel_rfl
theorem ok4 : FnOk D 4 (W4 F4) := fn_okW [(5, W5 F5), (7, W7 F7), (14, W14 F14), (15, W15 F15), (10, W10 F10)] noX (fun _ => rfl) Try.func4 rfl (tabL_cons ok5 (tabL_cons ok7 (tabL_cons ok14 (tabL_cons ok15 (tabL_cons ok10 tabL_nil))))) (k4 F5 F7 F14 F15 F10 )

end
end Go.Am

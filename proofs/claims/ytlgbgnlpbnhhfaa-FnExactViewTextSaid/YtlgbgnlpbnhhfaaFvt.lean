/-
  Functions of the program, extracted by program (sym.py) out of their code: what each computes, and, by the kernel's reckoning, that the machine's looking form computes just that; so what the machine answers.
-/
import Derived.Test.YtlgbgnlpbnhhfaaAmCfg
import Derived.Test.YtlgbgnlpbnhhfaaAmEvOk2
import Derived.KernelRfl
set_option maxRecDepth 10000
set_option linter.unusedVariables false
namespace Go.Am
open Go Go.Proofs
noncomputable section
abbrev WT : Type 1 := (β : Type) → List V → (V → Option β) → Option β
/-- laws.szResponse -/
abbrev T76 : Type 1 := (β : Type) → Int → Int → List UInt8 → Int → Bool → List UInt8 → Int → (Int → Option β) → Option β
def P76 : T76 := fun β a_Status a_Kind a_Body a_Age a_Shares a_Policy left k =>
 br (decide (IntKind.wrap .i64 (left - (a_Body.length : Int)) < 0)) (
 k (-1)) (
 br (decide (IntKind.wrap .i64 ((IntKind.wrap .i64 (left - (a_Body.length : Int))) - (a_Policy.length : Int)) < 0)) (
 k (-1)) (
 k (IntKind.wrap .i64 ((IntKind.wrap .i64 (left - (a_Body.length : Int))) - (a_Policy.length : Int)))))
def F76 : T76 := P76 
abbrev s76 : List (Bool × List CK) := [(true, [.int .i64, .int .i64, .str, .int .i64, .bool, .str]), (false, [.int .i64])]
def G76 (F : T76) (β : Type) (e : (Int × Int × List UInt8 × Int × Bool × List UInt8 × Unit) × (Int × Unit) × Unit) (k : V → Option β) : Option β := let a0_0 := e.1; let a0_1 := a0_0.2; let a0_2 := a0_1.2; let a0_3 := a0_2.2; let a0_4 := a0_3.2; let a0_5 := a0_4.2; F β a0_0.1 a0_1.1 a0_2.1 a0_3.1 a0_4.1 a0_5.1 e.2.1.1 (fun y1 => k (.int .i64 y1))
abbrev W76 (F : T76) : WT := wrap s76 (G76 F)
theorem k76 (β : Type) (e : argsT s76) (k : V → Option β) : fnK cfg (tabL []) noX 76 Try.f76 β (argsEnc s76 e) k = G76 (P76 ) β e k := by kernel_rfl
theorem ok76 : FnOk D 76 (W76 F76) := fn_okW [] noX (fun _ => rfl) Try.func76 rfl (tabL_nil) (k76 )

/-- laws.szFile -/
abbrev T75 : Type 1 := (β : Type) → List UInt8 → Int → Int → List UInt8 → Int → Bool → List UInt8 → Int → (Int → Option β) → Option β
def P75 (F76 : T76) : T75 := fun β a_Path a_Response_Status a_Response_Kind a_Response_Body a_Response_Age a_Response_Shares a_Response_Policy left k =>
 br (decide (IntKind.wrap .i64 (left - (a_Path.length : Int)) < 0)) (
 k (-1)) (
 F76 _ a_Response_Status a_Response_Kind a_Response_Body a_Response_Age a_Response_Shares a_Response_Policy (IntKind.wrap .i64 (left - (a_Path.length : Int))) fun n1 =>
 br (decide (n1 < 0)) (
 k (-1)) (
 k n1))
def F75 : T75 := P75 F76 
abbrev s75 : List (Bool × List CK) := [(true, [.str, .int .i64, .int .i64, .str, .int .i64, .bool, .str]), (false, [.int .i64])]
def G75 (F : T75) (β : Type) (e : (List UInt8 × Int × Int × List UInt8 × Int × Bool × List UInt8 × Unit) × (Int × Unit) × Unit) (k : V → Option β) : Option β := let a0_0 := e.1; let a0_1 := a0_0.2; let a0_2 := a0_1.2; let a0_3 := a0_2.2; let a0_4 := a0_3.2; let a0_5 := a0_4.2; let a0_6 := a0_5.2; F β a0_0.1 a0_1.1 a0_2.1 a0_3.1 a0_4.1 a0_5.1 a0_6.1 e.2.1.1 (fun y1 => k (.int .i64 y1))
abbrev W75 (F : T75) : WT := wrap s75 (G75 F)
theorem k75 (F76 : T76) (β : Type) (e : argsT s75) (k : V → Option β) : fnK cfg (tabL [(76, W76 F76)]) noX 75 Try.f75 β (argsEnc s75 e) k = G75 (P75 F76 ) β e k := by kernel_rfl
theorem ok75 : FnOk D 75 (W75 F75) := fn_okW [(76, W76 F76)] noX (fun _ => rfl) Try.func75 rfl (tabL_cons ok76 tabL_nil) (k75 F76 )

/-- laws.szFileS -/
abbrev T54 : Type 1 := (β : Type) → List V → Int → (Int → Option β) → Option β
def P54 (F75 : T75) : T54 := fun β a left k =>
 br (decide (IntKind.wrap .i64 (left - (a.length : Int)) < 0)) (
 k (-1)) (
 whileK (fun s1 =>
 br (decide ((lI s1 2) < ((lL s1 0).length : Int))) (
 chk (0 ≤ (lI s1 2)) <|
 idx true [.str, .int .i64, .int .i64, .str, .int .i64, .bool, .str] (lL s1 0) ((lI s1 2).toNat) fun (e2 : List UInt8 × Int × Int × List UInt8 × Int × Bool × List UInt8 × Unit) =>
 F75 _ e2.1 e2.2.1 e2.2.2.1 e2.2.2.2.1 e2.2.2.2.2.1 e2.2.2.2.2.2.1 e2.2.2.2.2.2.2.1 (lI s1 1) fun n3 =>
 br (decide (n3 < 0)) (
 some (.inr (0, [.i n3, .i (-1)]))) (
 some (.inl [.l (lL s1 0), .i n3, .i (IntKind.wrap .i64 ((lI s1 2) + 1))]))) (
 some (.inr (1, [.i (lI s1 1)])))) [.l a, .i (IntKind.wrap .i64 (left - (a.length : Int))), .i 0] fun (r4 : Nat × List Leaf) =>
 if r4.1 = 0 then
 k (lI r4.2 1)
 else
 k (lI r4.2 0))
def F54 : T54 := P54 F75 
def X54 : Exits := fun i => lookN i [] [(5, [(.ret, xk 27 [(1, .int .i64 0), (4, .int .i64 0)] []), (.exit 0, xk 27 [(1, .int .i64 0)] [])])]
abbrev s54 : List (Bool × List CK) := [(false, [.sl 7 true]), (false, [.int .i64])]
def G54 (F : T54) (β : Type) (e : (List V × Unit) × (Int × Unit) × Unit) (k : V → Option β) : Option β := F β e.1.1 e.2.1.1 (fun y1 => k (.int .i64 y1))
abbrev W54 (F : T54) : WT := wrap s54 (G54 F)
theorem k54 (F75 : T75) (β : Type) (e : argsT s54) (k : V → Option β) : fnK cfg (tabL [(75, W75 F75)]) X54 54 Try.f54 β (argsEnc s54 e) k = G54 (P54 F75 ) β e k := by kernel_rfl
theorem ok54 : FnOk D 54 (W54 F54) := fn_okW [(75, W75 F75)] X54 (fun _ => rfl) Try.func54 rfl (tabL_cons ok75 tabL_nil) (k54 F75 )

/-- laws.szServer -/
abbrev T34 : Type 1 := (β : Type) → List UInt8 → List V → Int → (Int → Option β) → Option β
def P34 (F54 : T54) : T34 := fun β a_Host a_Files left k =>
 br (decide (IntKind.wrap .i64 (left - (a_Host.length : Int)) < 0)) (
 k (-1)) (
 F54 _ a_Files (IntKind.wrap .i64 (left - (a_Host.length : Int))) fun n1 =>
 br (decide (n1 < 0)) (
 k (-1)) (
 k n1))
def F34 : T34 := P34 F54 
abbrev s34 : List (Bool × List CK) := [(true, [.str, .sl 7 true]), (false, [.int .i64])]
def G34 (F : T34) (β : Type) (e : (List UInt8 × List V × Unit) × (Int × Unit) × Unit) (k : V → Option β) : Option β := F β e.1.1 e.1.2.1 e.2.1.1 (fun y1 => k (.int .i64 y1))
abbrev W34 (F : T34) : WT := wrap s34 (G34 F)
theorem k34 (F54 : T54) (β : Type) (e : argsT s34) (k : V → Option β) : fnK cfg (tabL [(54, W54 F54)]) noX 34 Try.f34 β (argsEnc s34 e) k = G34 (P34 F54 ) β e k := by kernel_rfl
theorem ok34 : FnOk D 34 (W34 F34) := fn_okW [(54, W54 F54)] noX (fun _ => rfl) Try.func34 rfl (tabL_cons ok54 tabL_nil) (k34 F54 )

/-- laws.szServerS -/
abbrev T12 : Type 1 := (β : Type) → List V → Int → (Int → Option β) → Option β
def P12 (F34 : T34) : T12 := fun β a left k =>
 br (decide (IntKind.wrap .i64 (left - (a.length : Int)) < 0)) (
 k (-1)) (
 whileK (fun s1 =>
 br (decide ((lI s1 2) < ((lL s1 0).length : Int))) (
 chk (0 ≤ (lI s1 2)) <|
 idx true [.str, .sl 7 true] (lL s1 0) ((lI s1 2).toNat) fun (e2 : List UInt8 × List V × Unit) =>
 F34 _ e2.1 e2.2.1 (lI s1 1) fun n3 =>
 br (decide (n3 < 0)) (
 some (.inr (0, [.i n3, .i (-1)]))) (
 some (.inl [.l (lL s1 0), .i n3, .i (IntKind.wrap .i64 ((lI s1 2) + 1))]))) (
 some (.inr (1, [.i (lI s1 1)])))) [.l a, .i (IntKind.wrap .i64 (left - (a.length : Int))), .i 0] fun (r4 : Nat × List Leaf) =>
 if r4.1 = 0 then
 k (lI r4.2 1)
 else
 k (lI r4.2 0))
def F12 : T12 := P12 F34 
def X12 : Exits := fun i => lookN i [] [(5, [(.ret, xk 27 [(1, .int .i64 0), (4, .int .i64 0)] []), (.exit 0, xk 27 [(1, .int .i64 0)] [])])]
abbrev s12 : List (Bool × List CK) := [(false, [.sl 2 false]), (false, [.int .i64])]
def G12 (F : T12) (β : Type) (e : (List V × Unit) × (Int × Unit) × Unit) (k : V → Option β) : Option β := F β e.1.1 e.2.1.1 (fun y1 => k (.int .i64 y1))
abbrev W12 (F : T12) : WT := wrap s12 (G12 F)
theorem k12 (F34 : T34) (β : Type) (e : argsT s12) (k : V → Option β) : fnK cfg (tabL [(34, W34 F34)]) X12 12 Try.f12 β (argsEnc s12 e) k = G12 (P12 F34 ) β e k := by kernel_rfl
theorem ok12 : FnOk D 12 (W12 F12) := fn_okW [(34, W34 F34)] X12 (fun _ => rfl) Try.func12 rfl (tabL_cons ok34 tabL_nil) (k12 F34 )

/-- laws.szAddr -/
abbrev T56 : Type 1 := (β : Type) → List UInt8 → List UInt8 → Int → (Int → Option β) → Option β
def P56 : T56 := fun β a_Host a_Path left k =>
 br (decide (IntKind.wrap .i64 (left - (a_Host.length : Int)) < 0)) (
 k (-1)) (
 br (decide (IntKind.wrap .i64 ((IntKind.wrap .i64 (left - (a_Host.length : Int))) - (a_Path.length : Int)) < 0)) (
 k (-1)) (
 k (IntKind.wrap .i64 ((IntKind.wrap .i64 (left - (a_Host.length : Int))) - (a_Path.length : Int)))))
def F56 : T56 := P56 
abbrev s56 : List (Bool × List CK) := [(true, [.str, .str]), (false, [.int .i64])]
def G56 (F : T56) (β : Type) (e : (List UInt8 × List UInt8 × Unit) × (Int × Unit) × Unit) (k : V → Option β) : Option β := F β e.1.1 e.1.2.1 e.2.1.1 (fun y1 => k (.int .i64 y1))
abbrev W56 (F : T56) : WT := wrap s56 (G56 F)
theorem k56 (β : Type) (e : argsT s56) (k : V → Option β) : fnK cfg (tabL []) noX 56 Try.f56 β (argsEnc s56 e) k = G56 (P56 ) β e k := by kernel_rfl
theorem ok56 : FnOk D 56 (W56 F56) := fn_okW [] noX (fun _ => rfl) Try.func56 rfl (tabL_nil) (k56 )

/-- laws.szEntry -/
abbrev T55 : Type 1 := (β : Type) → List UInt8 → List UInt8 → List UInt8 → Int → Int → List UInt8 → Int → Bool → List UInt8 → Int → Int → (Int → Option β) → Option β
def P55 (F56 : T56) (F76 : T76) : T55 := fun β a_Top a_To_Host a_To_Path a_Response_Status a_Response_Kind a_Response_Body a_Response_Age a_Response_Shares a_Response_Policy a_Until left k =>
 br (decide (IntKind.wrap .i64 (left - (a_Top.length : Int)) < 0)) (
 k (-1)) (
 F56 _ a_To_Host a_To_Path (IntKind.wrap .i64 (left - (a_Top.length : Int))) fun n1 =>
 br (decide (n1 < 0)) (
 k (-1)) (
 F76 _ a_Response_Status a_Response_Kind a_Response_Body a_Response_Age a_Response_Shares a_Response_Policy n1 fun n2 =>
 br (decide (n2 < 0)) (
 k (-1)) (
 k n2)))
def F55 : T55 := P55 F56 F76 
abbrev s55 : List (Bool × List CK) := [(true, [.str, .str, .str, .int .i64, .int .i64, .str, .int .i64, .bool, .str, .int .i64]), (false, [.int .i64])]
def G55 (F : T55) (β : Type) (e : (List UInt8 × List UInt8 × List UInt8 × Int × Int × List UInt8 × Int × Bool × List UInt8 × Int × Unit) × (Int × Unit) × Unit) (k : V → Option β) : Option β := let a0_0 := e.1; let a0_1 := a0_0.2; let a0_2 := a0_1.2; let a0_3 := a0_2.2; let a0_4 := a0_3.2; let a0_5 := a0_4.2; let a0_6 := a0_5.2; let a0_7 := a0_6.2; let a0_8 := a0_7.2; let a0_9 := a0_8.2; F β a0_0.1 a0_1.1 a0_2.1 a0_3.1 a0_4.1 a0_5.1 a0_6.1 a0_7.1 a0_8.1 a0_9.1 e.2.1.1 (fun y1 => k (.int .i64 y1))
abbrev W55 (F : T55) : WT := wrap s55 (G55 F)
theorem k55 (F56 : T56) (F76 : T76) (β : Type) (e : argsT s55) (k : V → Option β) : fnK cfg (tabL [(56, W56 F56), (76, W76 F76)]) noX 55 Try.f55 β (argsEnc s55 e) k = G55 (P55 F56 F76 ) β e k := by kernel_rfl
theorem ok55 : FnOk D 55 (W55 F55) := fn_okW [(56, W56 F56), (76, W76 F76)] noX (fun _ => rfl) Try.func55 rfl (tabL_cons ok56 (tabL_cons ok76 tabL_nil)) (k55 F56 F76 )

/-- laws.szEntryS -/
abbrev T35 : Type 1 := (β : Type) → List V → Int → (Int → Option β) → Option β
def P35 (F55 : T55) : T35 := fun β a left k =>
 br (decide (IntKind.wrap .i64 (left - (a.length : Int)) < 0)) (
 k (-1)) (
 whileK (fun s1 =>
 br (decide ((lI s1 2) < ((lL s1 0).length : Int))) (
 chk (0 ≤ (lI s1 2)) <|
 idx true [.str, .str, .str, .int .i64, .int .i64, .str, .int .i64, .bool, .str, .int .i64] (lL s1 0) ((lI s1 2).toNat) fun (e2 : List UInt8 × List UInt8 × List UInt8 × Int × Int × List UInt8 × Int × Bool × List UInt8 × Int × Unit) =>
 F55 _ e2.1 e2.2.1 e2.2.2.1 e2.2.2.2.1 e2.2.2.2.2.1 e2.2.2.2.2.2.1 e2.2.2.2.2.2.2.1 e2.2.2.2.2.2.2.2.1 e2.2.2.2.2.2.2.2.2.1 e2.2.2.2.2.2.2.2.2.2.1 (lI s1 1) fun n3 =>
 br (decide (n3 < 0)) (
 some (.inr (0, [.i n3, .i (-1)]))) (
 some (.inl [.l (lL s1 0), .i n3, .i (IntKind.wrap .i64 ((lI s1 2) + 1))]))) (
 some (.inr (1, [.i (lI s1 1)])))) [.l a, .i (IntKind.wrap .i64 (left - (a.length : Int))), .i 0] fun (r4 : Nat × List Leaf) =>
 if r4.1 = 0 then
 k (lI r4.2 1)
 else
 k (lI r4.2 0))
def F35 : T35 := P35 F55 
def X35 : Exits := fun i => lookN i [] [(5, [(.ret, xk 27 [(1, .int .i64 0), (4, .int .i64 0)] []), (.exit 0, xk 27 [(1, .int .i64 0)] [])])]
abbrev s35 : List (Bool × List CK) := [(false, [.sl 10 true]), (false, [.int .i64])]
def G35 (F : T35) (β : Type) (e : (List V × Unit) × (Int × Unit) × Unit) (k : V → Option β) : Option β := F β e.1.1 e.2.1.1 (fun y1 => k (.int .i64 y1))
abbrev W35 (F : T35) : WT := wrap s35 (G35 F)
theorem k35 (F55 : T55) (β : Type) (e : argsT s35) (k : V → Option β) : fnK cfg (tabL [(55, W55 F55)]) X35 35 Try.f35 β (argsEnc s35 e) k = G35 (P35 F55 ) β e k := by kernel_rfl
theorem ok35 : FnOk D 35 (W35 F35) := fn_okW [(55, W55 F55)] X35 (fun _ => rfl) Try.func35 rfl (tabL_cons ok55 tabL_nil) (k35 F55 )

/-- laws.szCache -/
abbrev T13 : Type 1 := (β : Type) → List V → Int → (Int → Option β) → Option β
def P13 (F35 : T35) : T13 := fun β a_Entries left k =>
 F35 _ a_Entries left fun n1 =>
 br (decide (n1 < 0)) (
 k (-1)) (
 k n1)
def F13 : T13 := P13 F35 
abbrev s13 : List (Bool × List CK) := [(true, [.sl 10 true]), (false, [.int .i64])]
def G13 (F : T13) (β : Type) (e : (List V × Unit) × (Int × Unit) × Unit) (k : V → Option β) : Option β := F β e.1.1 e.2.1.1 (fun y1 => k (.int .i64 y1))
abbrev W13 (F : T13) : WT := wrap s13 (G13 F)
theorem k13 (F35 : T35) (β : Type) (e : argsT s13) (k : V → Option β) : fnK cfg (tabL [(35, W35 F35)]) noX 13 Try.f13 β (argsEnc s13 e) k = G13 (P13 F35 ) β e k := by kernel_rfl
theorem ok13 : FnOk D 13 (W13 F13) := fn_okW [(35, W35 F35)] noX (fun _ => rfl) Try.func13 rfl (tabL_cons ok35 tabL_nil) (k13 F35 )

/-- laws.szSent -/
abbrev T36 : Type 1 := (β : Type) → List UInt8 → List UInt8 → List UInt8 → Bool → Int → (Int → Option β) → Option β
def P36 (F56 : T56) : T36 := fun β a_Top a_To_Host a_To_Path a_Guess left k =>
 br (decide (IntKind.wrap .i64 (left - (a_Top.length : Int)) < 0)) (
 k (-1)) (
 F56 _ a_To_Host a_To_Path (IntKind.wrap .i64 (left - (a_Top.length : Int))) fun n1 =>
 br (decide (n1 < 0)) (
 k (-1)) (
 k n1))
def F36 : T36 := P36 F56 
abbrev s36 : List (Bool × List CK) := [(true, [.str, .str, .str, .bool]), (false, [.int .i64])]
def G36 (F : T36) (β : Type) (e : (List UInt8 × List UInt8 × List UInt8 × Bool × Unit) × (Int × Unit) × Unit) (k : V → Option β) : Option β := F β e.1.1 e.1.2.1 e.1.2.2.1 e.1.2.2.2.1 e.2.1.1 (fun y1 => k (.int .i64 y1))
abbrev W36 (F : T36) : WT := wrap s36 (G36 F)
theorem k36 (F56 : T56) (β : Type) (e : argsT s36) (k : V → Option β) : fnK cfg (tabL [(56, W56 F56)]) noX 36 Try.f36 β (argsEnc s36 e) k = G36 (P36 F56 ) β e k := by kernel_rfl
theorem ok36 : FnOk D 36 (W36 F36) := fn_okW [(56, W56 F56)] noX (fun _ => rfl) Try.func36 rfl (tabL_cons ok56 tabL_nil) (k36 F56 )

/-- laws.szSentS -/
abbrev T14 : Type 1 := (β : Type) → List V → Int → (Int → Option β) → Option β
def P14 (F36 : T36) : T14 := fun β a left k =>
 br (decide (IntKind.wrap .i64 (left - (a.length : Int)) < 0)) (
 k (-1)) (
 whileK (fun s1 =>
 br (decide ((lI s1 2) < ((lL s1 0).length : Int))) (
 chk (0 ≤ (lI s1 2)) <|
 idx true [.str, .str, .str, .bool] (lL s1 0) ((lI s1 2).toNat) fun (e2 : List UInt8 × List UInt8 × List UInt8 × Bool × Unit) =>
 F36 _ e2.1 e2.2.1 e2.2.2.1 e2.2.2.2.1 (lI s1 1) fun n3 =>
 br (decide (n3 < 0)) (
 some (.inr (0, [.i n3, .i (-1)]))) (
 some (.inl [.l (lL s1 0), .i n3, .i (IntKind.wrap .i64 ((lI s1 2) + 1))]))) (
 some (.inr (1, [.i (lI s1 1)])))) [.l a, .i (IntKind.wrap .i64 (left - (a.length : Int))), .i 0] fun (r4 : Nat × List Leaf) =>
 if r4.1 = 0 then
 k (lI r4.2 1)
 else
 k (lI r4.2 0))
def F14 : T14 := P14 F36 
def X14 : Exits := fun i => lookN i [] [(5, [(.ret, xk 27 [(1, .int .i64 0), (4, .int .i64 0)] []), (.exit 0, xk 27 [(1, .int .i64 0)] [])])]
abbrev s14 : List (Bool × List CK) := [(false, [.sl 4 true]), (false, [.int .i64])]
def G14 (F : T14) (β : Type) (e : (List V × Unit) × (Int × Unit) × Unit) (k : V → Option β) : Option β := F β e.1.1 e.2.1.1 (fun y1 => k (.int .i64 y1))
abbrev W14 (F : T14) : WT := wrap s14 (G14 F)
theorem k14 (F36 : T36) (β : Type) (e : argsT s14) (k : V → Option β) : fnK cfg (tabL [(36, W36 F36)]) X14 14 Try.f14 β (argsEnc s14 e) k = G14 (P14 F36 ) β e k := by kernel_rfl
theorem ok14 : FnOk D 14 (W14 F14) := fn_okW [(36, W36 F36)] X14 (fun _ => rfl) Try.func14 rfl (tabL_cons ok36 tabL_nil) (k14 F36 )

/-- laws.szNet -/
abbrev T5 : Type 1 := (β : Type) → List V → List V → List V → Int → Int → (Int → Option β) → Option β
def P5 (F12 : T12) (F13 : T13) (F14 : T14) : T5 := fun β a_Servers a_Cache_Entries a_Log a_Now left k =>
 F12 _ a_Servers left fun n1 =>
 br (decide (n1 < 0)) (
 k (-1)) (
 F13 _ a_Cache_Entries n1 fun n2 =>
 br (decide (n2 < 0)) (
 k (-1)) (
 F14 _ a_Log n2 fun n3 =>
 br (decide (n3 < 0)) (
 k (-1)) (
 k n3)))
def F5 : T5 := P5 F12 F13 F14 
abbrev s5 : List (Bool × List CK) := [(true, [.sl 2 false, .sl 10 true, .sl 4 true, .int .i64]), (false, [.int .i64])]
def G5 (F : T5) (β : Type) (e : (List V × List V × List V × Int × Unit) × (Int × Unit) × Unit) (k : V → Option β) : Option β := F β e.1.1 e.1.2.1 e.1.2.2.1 e.1.2.2.2.1 e.2.1.1 (fun y1 => k (.int .i64 y1))
abbrev W5 (F : T5) : WT := wrap s5 (G5 F)
theorem k5 (F12 : T12) (F13 : T13) (F14 : T14) (β : Type) (e : argsT s5) (k : V → Option β) : fnK cfg (tabL [(12, W12 F12), (13, W13 F13), (14, W14 F14)]) noX 5 Try.f5 β (argsEnc s5 e) k = G5 (P5 F12 F13 F14 ) β e k := by kernel_rfl
theorem ok5 : FnOk D 5 (W5 F5) := fn_okW [(12, W12 F12), (13, W13 F13), (14, W14 F14)] noX (fun _ => rfl) Try.func5 rfl (tabL_cons ok12 (tabL_cons ok13 (tabL_cons ok14 tabL_nil))) (k5 F12 F13 F14 )

/-- laws.toResponse -/
abbrev T79 : Type 1 := (β : Type) → Int → Int → List UInt8 → Int → Bool → List UInt8 → (Int → Int → List UInt8 → Int → Bool → List UInt8 → Option β) → Option β
def P79 : T79 := fun β a_Status a_Kind a_Body a_Age a_Shares a_Policy k =>
 k a_Status a_Kind a_Body a_Age a_Shares a_Policy
def F79 : T79 := P79 
abbrev s79 : List (Bool × List CK) := [(true, [.int .i64, .int .i64, .str, .int .i64, .bool, .str])]
def G79 (F : T79) (β : Type) (e : (Int × Int × List UInt8 × Int × Bool × List UInt8 × Unit) × Unit) (k : V → Option β) : Option β := let a0_0 := e.1; let a0_1 := a0_0.2; let a0_2 := a0_1.2; let a0_3 := a0_2.2; let a0_4 := a0_3.2; let a0_5 := a0_4.2; F β a0_0.1 a0_1.1 a0_2.1 a0_3.1 a0_4.1 a0_5.1 (fun y1 y2 y3 y4 y5 y6 => k (.agg [.int .i64 y1, .int .i64 y2, .str y3, .int .i64 y4, .bool y5, .str y6]))
abbrev W79 (F : T79) : WT := wrap s79 (G79 F)
theorem k79 (β : Type) (e : argsT s79) (k : V → Option β) : fnK cfg (tabL []) noX 79 Try.f79 β (argsEnc s79 e) k = G79 (P79 ) β e k := by kernel_rfl
theorem ok79 : FnOk D 79 (W79 F79) := fn_okW [] noX (fun _ => rfl) Try.func79 rfl (tabL_nil) (k79 )

/-- laws.toFile -/
abbrev T78 : Type 1 := (β : Type) → List UInt8 → Int → Int → List UInt8 → Int → Bool → List UInt8 → (List UInt8 → Int → Int → List UInt8 → Int → Bool → List UInt8 → Option β) → Option β
def P78 (F79 : T79) : T78 := fun β a_Path a_Response_Status a_Response_Kind a_Response_Body a_Response_Age a_Response_Shares a_Response_Policy k =>
 F79 _ a_Response_Status a_Response_Kind a_Response_Body a_Response_Age a_Response_Shares a_Response_Policy fun n1 n2 t3 n4 b5 t6 =>
 k a_Path n1 n2 t3 n4 b5 t6
def F78 : T78 := P78 F79 
abbrev s78 : List (Bool × List CK) := [(true, [.str, .int .i64, .int .i64, .str, .int .i64, .bool, .str])]
def G78 (F : T78) (β : Type) (e : (List UInt8 × Int × Int × List UInt8 × Int × Bool × List UInt8 × Unit) × Unit) (k : V → Option β) : Option β := let a0_0 := e.1; let a0_1 := a0_0.2; let a0_2 := a0_1.2; let a0_3 := a0_2.2; let a0_4 := a0_3.2; let a0_5 := a0_4.2; let a0_6 := a0_5.2; F β a0_0.1 a0_1.1 a0_2.1 a0_3.1 a0_4.1 a0_5.1 a0_6.1 (fun y1 y2 y3 y4 y5 y6 y7 => k (.agg [.str y1, .int .i64 y2, .int .i64 y3, .str y4, .int .i64 y5, .bool y6, .str y7]))
abbrev W78 (F : T78) : WT := wrap s78 (G78 F)
theorem k78 (F79 : T79) (β : Type) (e : argsT s78) (k : V → Option β) : fnK cfg (tabL [(79, W79 F79)]) noX 78 Try.f78 β (argsEnc s78 e) k = G78 (P78 F79 ) β e k := by kernel_rfl
theorem ok78 : FnOk D 78 (W78 F78) := fn_okW [(79, W79 F79)] noX (fun _ => rfl) Try.func78 rfl (tabL_cons ok79 tabL_nil) (k78 F79 )

/-- laws.toFileS -/
abbrev T60 : Type 1 := (β : Type) → List V → (List V → Option β) → Option β
def P60 (F78 : T78) : T60 := fun β a k =>
 chk (0 ≤ (a.length : Int) ∧ (a.length : Int) ≤ (a.length : Int) ∧ (a.length : Int) * 80 ≤ 140737488355328 ∧ (a.length : Int) ≤ 140737488355328) <|
 whileK (fun s1 =>
 br (decide ((lI s1 2) < ((lL s1 0).length : Int))) (
 chk (0 ≤ (lI s1 2)) <|
 idx true [.str, .int .i64, .int .i64, .str, .int .i64, .bool, .str] (lL s1 0) ((lI s1 2).toNat) fun (e2 : List UInt8 × Int × Int × List UInt8 × Int × Bool × List UInt8 × Unit) =>
 F78 _ e2.1 e2.2.1 e2.2.2.1 e2.2.2.2.1 e2.2.2.2.2.1 e2.2.2.2.2.2.1 e2.2.2.2.2.2.2.1 fun t3 n4 n5 t6 n7 b8 t9 =>
 chk (0 ≤ (lI s1 2) ∧ (lI s1 2).toNat < (lL s1 1).length) <|
 storeO (lL s1 1) ((lI s1 2).toNat) 0 [.str t3, .int .i64 n4, .int .i64 n5, .str t6, .int .i64 n7, .bool b8, .str t9] fun l10 =>
 some (.inl [.l (lL s1 0), .l l10, .i (IntKind.wrap .i64 ((lI s1 2) + 1))])) (
 some (.inr (0, [.l (lL s1 1)])))) [.l a, .l (List.replicate ((a.length : Int).toNat) (.agg [.str [], .int .i64 0, .int .i64 0, .str [], .int .i64 0, .bool false, .str []])), .i 0] fun (r11 : Nat × List Leaf) =>
 k (lL r11.2 0)
def F60 : T60 := P60 F78 
def X60 : Exits := fun i => lookN i [] [(3, [(.exit 0, xk 23 [(3, .own 1000000 7 .flat [])] [])])]
abbrev s60 : List (Bool × List CK) := [(false, [.sl 7 true])]
def G60 (F : T60) (β : Type) (e : (List V × Unit) × Unit) (k : V → Option β) : Option β := F β e.1.1 (fun y1 => k (.own 0 7 .flat y1))
abbrev W60 (F : T60) : WT := wrap s60 (G60 F)
theorem k60 (F78 : T78) (β : Type) (e : argsT s60) (k : V → Option β) : fnK cfg (tabL [(78, W78 F78)]) X60 60 Try.f60 β (argsEnc s60 e) k = G60 (P60 F78 ) β e k := by kernel_rfl
theorem ok60 : FnOk D 60 (W60 F60) := fn_okW [(78, W78 F78)] X60 (fun _ => rfl) Try.func60 rfl (tabL_cons ok78 tabL_nil) (k60 F78 )

/-- laws.toServer -/
abbrev T40 : Type 1 := (β : Type) → List UInt8 → List V → (List UInt8 → List V → Option β) → Option β
def P40 (F60 : T60) : T40 := fun β a_Host a_Files k =>
 F60 _ a_Files fun l1 =>
 k a_Host l1
def F40 : T40 := P40 F60 
abbrev s40 : List (Bool × List CK) := [(true, [.str, .sl 7 true])]
def G40 (F : T40) (β : Type) (e : (List UInt8 × List V × Unit) × Unit) (k : V → Option β) : Option β := F β e.1.1 e.1.2.1 (fun y1 y2 => k (.agg [.str y1, .own 1 7 .flat y2]))
abbrev W40 (F : T40) : WT := wrap s40 (G40 F)
theorem k40 (F60 : T60) (β : Type) (e : argsT s40) (k : V → Option β) : fnK cfg (tabL [(60, W60 F60)]) noX 40 Try.f40 β (argsEnc s40 e) k = G40 (P40 F60 ) β e k := by kernel_rfl
theorem ok40 : FnOk D 40 (W40 F40) := fn_okW [(60, W60 F60)] noX (fun _ => rfl) Try.func40 rfl (tabL_cons ok60 tabL_nil) (k40 F60 )

/-- laws.toServerS -/
abbrev T17 : Type 1 := (β : Type) → List V → (List V → Option β) → Option β
def P17 (F40 : T40) : T17 := fun β a k =>
 chk (0 ≤ (a.length : Int) ∧ (a.length : Int) ≤ (a.length : Int) ∧ (a.length : Int) * 40 ≤ 140737488355328 ∧ (a.length : Int) ≤ 140737488355328) <|
 whileK (fun s1 =>
 br (decide ((lI s1 2) < ((lL s1 0).length : Int))) (
 chk (0 ≤ (lI s1 2)) <|
 idx true [.str, .sl 7 true] (lL s1 0) ((lI s1 2).toNat) fun (e2 : List UInt8 × List V × Unit) =>
 F40 _ e2.1 e2.2.1 fun t3 l4 =>
 chk (0 ≤ (lI s1 2) ∧ (lI s1 2).toNat < (lL s1 1).length) <|
 storeO (lL s1 1) ((lI s1 2).toNat) 0 [.str t3, .sl 7 true l4] fun l5 =>
 some (.inl [.l (lL s1 0), .l l5, .i (IntKind.wrap .i64 ((lI s1 2) + 1))])) (
 some (.inr (0, [.l (lL s1 1)])))) [.l a, .l (List.replicate ((a.length : Int).toNat) (.agg [.str [], .sl 7 true []])), .i 0] fun (r6 : Nat × List Leaf) =>
 k (lL r6.2 0)
def F17 : T17 := P17 F40 
def X17 : Exits := fun i => lookN i [] [(3, [(.exit 0, xk 23 [(3, .own 1000000 2 .clean [])] [])])]
abbrev s17 : List (Bool × List CK) := [(false, [.sl 2 false])]
def G17 (F : T17) (β : Type) (e : (List V × Unit) × Unit) (k : V → Option β) : Option β := F β e.1.1 (fun y1 => k (.own 0 2 .clean y1))
abbrev W17 (F : T17) : WT := wrap s17 (G17 F)
theorem k17 (F40 : T40) (β : Type) (e : argsT s17) (k : V → Option β) : fnK cfg (tabL [(40, W40 F40)]) X17 17 Try.f17 β (argsEnc s17 e) k = G17 (P17 F40 ) β e k := by kernel_rfl
theorem ok17 : FnOk D 17 (W17 F17) := fn_okW [(40, W40 F40)] X17 (fun _ => rfl) Try.func17 rfl (tabL_cons ok40 tabL_nil) (k17 F40 )

/-- laws.toAddr -/
abbrev T62 : Type 1 := (β : Type) → List UInt8 → List UInt8 → (List UInt8 → List UInt8 → Option β) → Option β
def P62 : T62 := fun β a_Host a_Path k =>
 k a_Host a_Path
def F62 : T62 := P62 
abbrev s62 : List (Bool × List CK) := [(true, [.str, .str])]
def G62 (F : T62) (β : Type) (e : (List UInt8 × List UInt8 × Unit) × Unit) (k : V → Option β) : Option β := F β e.1.1 e.1.2.1 (fun y1 y2 => k (.agg [.str y1, .str y2]))
abbrev W62 (F : T62) : WT := wrap s62 (G62 F)
theorem k62 (β : Type) (e : argsT s62) (k : V → Option β) : fnK cfg (tabL []) noX 62 Try.f62 β (argsEnc s62 e) k = G62 (P62 ) β e k := by kernel_rfl
theorem ok62 : FnOk D 62 (W62 F62) := fn_okW [] noX (fun _ => rfl) Try.func62 rfl (tabL_nil) (k62 )

/-- laws.toEntry -/
abbrev T61 : Type 1 := (β : Type) → List UInt8 → List UInt8 → List UInt8 → Int → Int → List UInt8 → Int → Bool → List UInt8 → Int → (List UInt8 → List UInt8 → List UInt8 → Int → Int → List UInt8 → Int → Bool → List UInt8 → Int → Option β) → Option β
def P61 (F62 : T62) (F79 : T79) : T61 := fun β a_Top a_To_Host a_To_Path a_Response_Status a_Response_Kind a_Response_Body a_Response_Age a_Response_Shares a_Response_Policy a_Until k =>
 F62 _ a_To_Host a_To_Path fun t1 t2 =>
 F79 _ a_Response_Status a_Response_Kind a_Response_Body a_Response_Age a_Response_Shares a_Response_Policy fun n3 n4 t5 n6 b7 t8 =>
 k a_Top t1 t2 n3 n4 t5 n6 b7 t8 a_Until
def F61 : T61 := P61 F62 F79 
abbrev s61 : List (Bool × List CK) := [(true, [.str, .str, .str, .int .i64, .int .i64, .str, .int .i64, .bool, .str, .int .i64])]
def G61 (F : T61) (β : Type) (e : (List UInt8 × List UInt8 × List UInt8 × Int × Int × List UInt8 × Int × Bool × List UInt8 × Int × Unit) × Unit) (k : V → Option β) : Option β := let a0_0 := e.1; let a0_1 := a0_0.2; let a0_2 := a0_1.2; let a0_3 := a0_2.2; let a0_4 := a0_3.2; let a0_5 := a0_4.2; let a0_6 := a0_5.2; let a0_7 := a0_6.2; let a0_8 := a0_7.2; let a0_9 := a0_8.2; F β a0_0.1 a0_1.1 a0_2.1 a0_3.1 a0_4.1 a0_5.1 a0_6.1 a0_7.1 a0_8.1 a0_9.1 (fun y1 y2 y3 y4 y5 y6 y7 y8 y9 y10 => k (.agg [.str y1, .str y2, .str y3, .int .i64 y4, .int .i64 y5, .str y6, .int .i64 y7, .bool y8, .str y9, .int .i64 y10]))
abbrev W61 (F : T61) : WT := wrap s61 (G61 F)
theorem k61 (F62 : T62) (F79 : T79) (β : Type) (e : argsT s61) (k : V → Option β) : fnK cfg (tabL [(62, W62 F62), (79, W79 F79)]) noX 61 Try.f61 β (argsEnc s61 e) k = G61 (P61 F62 F79 ) β e k := by kernel_rfl
theorem ok61 : FnOk D 61 (W61 F61) := fn_okW [(62, W62 F62), (79, W79 F79)] noX (fun _ => rfl) Try.func61 rfl (tabL_cons ok62 (tabL_cons ok79 tabL_nil)) (k61 F62 F79 )

/-- laws.toEntryS -/
abbrev T41 : Type 1 := (β : Type) → List V → (List V → Option β) → Option β
def P41 (F61 : T61) : T41 := fun β a k =>
 chk (0 ≤ (a.length : Int) ∧ (a.length : Int) ≤ (a.length : Int) ∧ (a.length : Int) * 120 ≤ 140737488355328 ∧ (a.length : Int) ≤ 140737488355328) <|
 whileK (fun s1 =>
 br (decide ((lI s1 2) < ((lL s1 0).length : Int))) (
 chk (0 ≤ (lI s1 2)) <|
 idx true [.str, .str, .str, .int .i64, .int .i64, .str, .int .i64, .bool, .str, .int .i64] (lL s1 0) ((lI s1 2).toNat) fun (e2 : List UInt8 × List UInt8 × List UInt8 × Int × Int × List UInt8 × Int × Bool × List UInt8 × Int × Unit) =>
 F61 _ e2.1 e2.2.1 e2.2.2.1 e2.2.2.2.1 e2.2.2.2.2.1 e2.2.2.2.2.2.1 e2.2.2.2.2.2.2.1 e2.2.2.2.2.2.2.2.1 e2.2.2.2.2.2.2.2.2.1 e2.2.2.2.2.2.2.2.2.2.1 fun t3 t4 t5 n6 n7 t8 n9 b10 t11 n12 =>
 chk (0 ≤ (lI s1 2) ∧ (lI s1 2).toNat < (lL s1 1).length) <|
 storeO (lL s1 1) ((lI s1 2).toNat) 0 [.str t3, .str t4, .str t5, .int .i64 n6, .int .i64 n7, .str t8, .int .i64 n9, .bool b10, .str t11, .int .i64 n12] fun l13 =>
 some (.inl [.l (lL s1 0), .l l13, .i (IntKind.wrap .i64 ((lI s1 2) + 1))])) (
 some (.inr (0, [.l (lL s1 1)])))) [.l a, .l (List.replicate ((a.length : Int).toNat) (.agg [.str [], .str [], .str [], .int .i64 0, .int .i64 0, .str [], .int .i64 0, .bool false, .str [], .int .i64 0])), .i 0] fun (r14 : Nat × List Leaf) =>
 k (lL r14.2 0)
def F41 : T41 := P41 F61 
def X41 : Exits := fun i => lookN i [] [(3, [(.exit 0, xk 23 [(3, .own 1000000 10 .flat [])] [])])]
abbrev s41 : List (Bool × List CK) := [(false, [.sl 10 true])]
def G41 (F : T41) (β : Type) (e : (List V × Unit) × Unit) (k : V → Option β) : Option β := F β e.1.1 (fun y1 => k (.own 0 10 .flat y1))
abbrev W41 (F : T41) : WT := wrap s41 (G41 F)
theorem k41 (F61 : T61) (β : Type) (e : argsT s41) (k : V → Option β) : fnK cfg (tabL [(61, W61 F61)]) X41 41 Try.f41 β (argsEnc s41 e) k = G41 (P41 F61 ) β e k := by kernel_rfl
theorem ok41 : FnOk D 41 (W41 F41) := fn_okW [(61, W61 F61)] X41 (fun _ => rfl) Try.func41 rfl (tabL_cons ok61 tabL_nil) (k41 F61 )

/-- laws.toCache -/
abbrev T18 : Type 1 := (β : Type) → List V → (List V → Option β) → Option β
def P18 (F41 : T41) : T18 := fun β a_Entries k =>
 F41 _ a_Entries fun l1 =>
 k l1
def F18 : T18 := P18 F41 
abbrev s18 : List (Bool × List CK) := [(true, [.sl 10 true])]
def G18 (F : T18) (β : Type) (e : (List V × Unit) × Unit) (k : V → Option β) : Option β := F β e.1.1 (fun y1 => k (.agg [.own 0 10 .flat y1]))
abbrev W18 (F : T18) : WT := wrap s18 (G18 F)
theorem k18 (F41 : T41) (β : Type) (e : argsT s18) (k : V → Option β) : fnK cfg (tabL [(41, W41 F41)]) noX 18 Try.f18 β (argsEnc s18 e) k = G18 (P18 F41 ) β e k := by kernel_rfl
theorem ok18 : FnOk D 18 (W18 F18) := fn_okW [(41, W41 F41)] noX (fun _ => rfl) Try.func18 rfl (tabL_cons ok41 tabL_nil) (k18 F41 )

/-- laws.toSent -/
abbrev T42 : Type 1 := (β : Type) → List UInt8 → List UInt8 → List UInt8 → Bool → (List UInt8 → List UInt8 → List UInt8 → Bool → Option β) → Option β
def P42 (F62 : T62) : T42 := fun β a_Top a_To_Host a_To_Path a_Guess k =>
 F62 _ a_To_Host a_To_Path fun t1 t2 =>
 k a_Top t1 t2 a_Guess
def F42 : T42 := P42 F62 
abbrev s42 : List (Bool × List CK) := [(true, [.str, .str, .str, .bool])]
def G42 (F : T42) (β : Type) (e : (List UInt8 × List UInt8 × List UInt8 × Bool × Unit) × Unit) (k : V → Option β) : Option β := F β e.1.1 e.1.2.1 e.1.2.2.1 e.1.2.2.2.1 (fun y1 y2 y3 y4 => k (.agg [.str y1, .str y2, .str y3, .bool y4]))
abbrev W42 (F : T42) : WT := wrap s42 (G42 F)
theorem k42 (F62 : T62) (β : Type) (e : argsT s42) (k : V → Option β) : fnK cfg (tabL [(62, W62 F62)]) noX 42 Try.f42 β (argsEnc s42 e) k = G42 (P42 F62 ) β e k := by kernel_rfl
theorem ok42 : FnOk D 42 (W42 F42) := fn_okW [(62, W62 F62)] noX (fun _ => rfl) Try.func42 rfl (tabL_cons ok62 tabL_nil) (k42 F62 )

/-- laws.toSentS -/
abbrev T19 : Type 1 := (β : Type) → List V → (List V → Option β) → Option β
def P19 (F42 : T42) : T19 := fun β a k =>
 chk (0 ≤ (a.length : Int) ∧ (a.length : Int) ≤ (a.length : Int) ∧ (a.length : Int) * 56 ≤ 140737488355328 ∧ (a.length : Int) ≤ 140737488355328) <|
 whileK (fun s1 =>
 br (decide ((lI s1 2) < ((lL s1 0).length : Int))) (
 chk (0 ≤ (lI s1 2)) <|
 idx true [.str, .str, .str, .bool] (lL s1 0) ((lI s1 2).toNat) fun (e2 : List UInt8 × List UInt8 × List UInt8 × Bool × Unit) =>
 F42 _ e2.1 e2.2.1 e2.2.2.1 e2.2.2.2.1 fun t3 t4 t5 b6 =>
 chk (0 ≤ (lI s1 2) ∧ (lI s1 2).toNat < (lL s1 1).length) <|
 storeO (lL s1 1) ((lI s1 2).toNat) 0 [.str t3, .str t4, .str t5, .bool b6] fun l7 =>
 some (.inl [.l (lL s1 0), .l l7, .i (IntKind.wrap .i64 ((lI s1 2) + 1))])) (
 some (.inr (0, [.l (lL s1 1)])))) [.l a, .l (List.replicate ((a.length : Int).toNat) (.agg [.str [], .str [], .str [], .bool false])), .i 0] fun (r8 : Nat × List Leaf) =>
 k (lL r8.2 0)
def F19 : T19 := P19 F42 
def X19 : Exits := fun i => lookN i [] [(3, [(.exit 0, xk 23 [(3, .own 1000000 4 .flat [])] [])])]
abbrev s19 : List (Bool × List CK) := [(false, [.sl 4 true])]
def G19 (F : T19) (β : Type) (e : (List V × Unit) × Unit) (k : V → Option β) : Option β := F β e.1.1 (fun y1 => k (.own 0 4 .flat y1))
abbrev W19 (F : T19) : WT := wrap s19 (G19 F)
theorem k19 (F42 : T42) (β : Type) (e : argsT s19) (k : V → Option β) : fnK cfg (tabL [(42, W42 F42)]) X19 19 Try.f19 β (argsEnc s19 e) k = G19 (P19 F42 ) β e k := by kernel_rfl
theorem ok19 : FnOk D 19 (W19 F19) := fn_okW [(42, W42 F42)] X19 (fun _ => rfl) Try.func19 rfl (tabL_cons ok42 tabL_nil) (k19 F42 )

/-- laws.toNet -/
abbrev T7 : Type 1 := (β : Type) → List V → List V → List V → Int → (List V → List V → List V → Int → Option β) → Option β
def P7 (F17 : T17) (F18 : T18) (F19 : T19) : T7 := fun β a_Servers a_Cache_Entries a_Log a_Now k =>
 F17 _ a_Servers fun l1 =>
 F18 _ a_Cache_Entries fun l2 =>
 F19 _ a_Log fun l3 =>
 k l1 l2 l3 a_Now
def F7 : T7 := P7 F17 F18 F19 
abbrev s7 : List (Bool × List CK) := [(true, [.sl 2 false, .sl 10 true, .sl 4 true, .int .i64])]
def G7 (F : T7) (β : Type) (e : (List V × List V × List V × Int × Unit) × Unit) (k : V → Option β) : Option β := F β e.1.1 e.1.2.1 e.1.2.2.1 e.1.2.2.2.1 (fun y1 y2 y3 y4 => k (.agg [.own 0 2 .clean y1, .own 1 10 .flat y2, .own 2 4 .flat y3, .int .i64 y4]))
abbrev W7 (F : T7) : WT := wrap s7 (G7 F)
theorem k7 (F17 : T17) (F18 : T18) (F19 : T19) (β : Type) (e : argsT s7) (k : V → Option β) : fnK cfg (tabL [(17, W17 F17), (18, W18 F18), (19, W19 F19)]) noX 7 Try.f7 β (argsEnc s7 e) k = G7 (P7 F17 F18 F19 ) β e k := by kernel_rfl
theorem ok7 : FnOk D 7 (W7 F7) := fn_okW [(17, W17 F17), (18, W18 F18), (19, W19 F19)] noX (fun _ => rfl) Try.func7 rfl (tabL_cons ok17 (tabL_cons ok18 (tabL_cons ok19 tabL_nil))) (k7 F17 F18 F19 )

/-- spec.SentTo -/
abbrev T37 : Type 1 := (β : Type) → List V → List V → List V → Int → List UInt8 → (List V → Option β) → Option β
def P37 : T37 := fun β n_Servers n_Cache_Entries n_Log n_Now host k =>
 whileK (fun s1 =>
 br (decide ((lI s1 2) < ((lL s1 5).length : Int))) (
 chk (0 ≤ (lI s1 2)) <|
 idx true [.str, .str, .str, .bool] (lL s1 5) ((lI s1 2).toNat) fun (e2 : List UInt8 × List UInt8 × List UInt8 × Bool × Unit) =>
 br (e2.2.1 == (lS s1 0)) (
 chk (0 ≤ (lI s1 2)) <|
 idx true [.str, .str, .str, .bool] (lL s1 5) ((lI s1 2).toNat) fun (e3 : List UInt8 × List UInt8 × List UInt8 × Bool × Unit) =>
 chk (((lL s1 1).length + ([.agg [.str e3.1, .str e3.2.1, .str e3.2.2.1, .bool e3.2.2.2.1]] : List V).length) * 56 ≤ 140737488355328 ∧ (lL s1 1).length + ([.agg [.str e3.1, .str e3.2.1, .str e3.2.2.1, .bool e3.2.2.2.1]] : List V).length ≤ 140737488355328) <|
 some (.inl [.s (lS s1 0), .l ((lL s1 1) ++ ([.agg [.str e3.1, .str e3.2.1, .str e3.2.2.1, .bool e3.2.2.2.1]] : List V)), .i (IntKind.wrap .i64 ((lI s1 2) + 1)), .l (lL s1 3), .l (lL s1 4), .l (lL s1 5), .i (lI s1 6)])) (
 some (.inl [.s (lS s1 0), .l (lL s1 1), .i (IntKind.wrap .i64 ((lI s1 2) + 1)), .l (lL s1 3), .l (lL s1 4), .l (lL s1 5), .i (lI s1 6)]))) (
 some (.inr (0, [.l (lL s1 1)])))) [.s host, .l [], .i 0, .l n_Servers, .l n_Cache_Entries, .l n_Log, .i n_Now] fun (r4 : Nat × List Leaf) =>
 k (lL r4.2 0)
def F37 : T37 := P37 
def X37 : Exits := fun i => lookN i [] [(3, [(.exit 0, xk 33 [(5, .own 1000000 4 .flat [])] [])])]
abbrev s37 : List (Bool × List CK) := [(true, [.sl 2 false, .sl 10 true, .sl 4 true, .int .i64]), (false, [.str])]
def G37 (F : T37) (β : Type) (e : (List V × List V × List V × Int × Unit) × (List UInt8 × Unit) × Unit) (k : V → Option β) : Option β := F β e.1.1 e.1.2.1 e.1.2.2.1 e.1.2.2.2.1 e.2.1.1 (fun y1 => k (.own 0 4 .flat y1))
abbrev W37 (F : T37) : WT := wrap s37 (G37 F)
theorem k37 (β : Type) (e : argsT s37) (k : V → Option β) : fnK cfg (tabL []) X37 37 Try.f37 β (argsEnc s37 e) k = G37 (P37 ) β e k := by kernel_rfl
theorem ok37 : FnOk D 37 (W37 F37) := fn_okW [] X37 (fun _ => rfl) Try.func37 rfl (tabL_nil) (k37 )

/-- spec.HasAddr -/
abbrev T57 : Type 1 := (β : Type) → List V → List UInt8 → List UInt8 → (Bool → Option β) → Option β
def P57 : T57 := fun β l a_Host a_Path k =>
 whileK (fun s1 =>
 br (decide ((lI s1 1) < ((lL s1 0).length : Int))) (
 chk (0 ≤ (lI s1 1)) <|
 idx true [.str, .str] (lL s1 0) ((lI s1 1).toNat) fun (e2 : List UInt8 × List UInt8 × Unit) =>
 br ((e2.1 == (lS s1 2)) && ((e2.2.1 == (lS s1 3)) && true)) (
 some (.inr (0, [.b true]))) (
 some (.inl [.l (lL s1 0), .i (IntKind.wrap .i64 ((lI s1 1) + 1)), .s (lS s1 2), .s (lS s1 3)]))) (
 some (.inr (1, [])))) [.l l, .i 0, .s a_Host, .s a_Path] fun (r3 : Nat × List Leaf) =>
 if r3.1 = 0 then
 k (lB r3.2 0)
 else
 k false
def F57 : T57 := P57 
def X57 : Exits := fun i => lookN i [] [(2, [(.ret, xk 18 [(4, .bool false)] []), (.exit 0, xk 18 [] [])])]
abbrev s57 : List (Bool × List CK) := [(false, [.sl 2 true]), (true, [.str, .str])]
def G57 (F : T57) (β : Type) (e : (List V × Unit) × (List UInt8 × List UInt8 × Unit) × Unit) (k : V → Option β) : Option β := F β e.1.1 e.2.1.1 e.2.1.2.1 (fun y1 => k (.bool y1))
abbrev W57 (F : T57) : WT := wrap s57 (G57 F)
theorem k57 (β : Type) (e : argsT s57) (k : V → Option β) : fnK cfg (tabL []) X57 57 Try.f57 β (argsEnc s57 e) k = G57 (P57 ) β e k := by kernel_rfl
theorem ok57 : FnOk D 57 (W57 F57) := fn_okW [] X57 (fun _ => rfl) Try.func57 rfl (tabL_nil) (k57 )

/-- spec.CompareAddrs -/
abbrev T58 : Type 1 := (β : Type) → List UInt8 → List UInt8 → List UInt8 → List UInt8 → (Int → Option β) → Option β
def P58 : T58 := fun β a_Host a_Path b_Host b_Path k =>
 br ((a_Host == b_Host) && ((a_Path == b_Path) && true)) (
 k 0) (
 br (less a_Host b_Host) (
 k (-1)) (
 br (a_Host == b_Host) (
 br (less a_Path b_Path) (
 k (-1)) (
 k 1)) (
 k 1)))
def F58 : T58 := P58 
abbrev s58 : List (Bool × List CK) := [(true, [.str, .str]), (true, [.str, .str])]
def G58 (F : T58) (β : Type) (e : (List UInt8 × List UInt8 × Unit) × (List UInt8 × List UInt8 × Unit) × Unit) (k : V → Option β) : Option β := F β e.1.1 e.1.2.1 e.2.1.1 e.2.1.2.1 (fun y1 => k (.int .i64 y1))
abbrev W58 (F : T58) : WT := wrap s58 (G58 F)
theorem k58 (β : Type) (e : argsT s58) (k : V → Option β) : fnK cfg (tabL []) noX 58 Try.f58 β (argsEnc s58 e) k = G58 (P58 ) β e k := by kernel_rfl
theorem ok58 : FnOk D 58 (W58 F58) := fn_okW [] noX (fun _ => rfl) Try.func58 rfl (tabL_nil) (k58 )

/-- spec.SortAddrs -/
abbrev T38 : Type 1 := (β : Type) → List V → (List V → Option β) → Option β
def P38 (F57 : T57) (F58 : T58) : T38 := fun β l k =>
 whileK (fun s1 =>
 br (decide ((lI s1 2) < ((lL s1 0).length : Int))) (
 chk (0 ≤ (lI s1 2)) <|
 idx true [.str, .str] (lL s1 0) ((lI s1 2).toNat) fun (e2 : List UInt8 × List UInt8 × Unit) =>
 F57 _ (lL s1 1) e2.1 e2.2.1 fun b3 =>
 br b3 (
 some (.inl [.l (lL s1 0), .l (lL s1 1), .i (IntKind.wrap .i64 ((lI s1 2) + 1))])) (
 whileK (fun s4 =>
 br (decide ((lI s4 3) > 0)) (
 chk (0 ≤ (lI s4 2)) <|
 idx true [.str, .str] (lL s4 0) ((lI s4 2).toNat) fun (e5 : List UInt8 × List UInt8 × Unit) =>
 chk (0 ≤ IntKind.wrap .i64 ((lI s4 3) - 1) ∧ (IntKind.wrap .i64 ((lI s4 3) - 1)).toNat < (lL s4 1).length) <|
 idxAt [.str, .str] (lL s4 1) ((IntKind.wrap .i64 ((lI s4 3) - 1)).toNat) 0 fun (e6 : List UInt8 × List UInt8 × Unit) =>
 F58 _ e5.1 e5.2.1 e6.1 e6.2.1 fun n7 =>
 br (decide (n7 < 0)) (
 some (.inl [.l (lL s4 0), .l (lL s4 1), .i (lI s4 2), .i (IntKind.wrap .i64 ((lI s4 3) - 1))])) (
 some (.inr (0, [.l (lL s4 0), .l (lL s4 1), .i (lI s4 2), .i (lI s4 3)])))) (
 some (.inr (0, [.l (lL s4 0), .l (lL s4 1), .i (lI s4 2), .i (lI s4 3)])))) [.l (lL s1 0), .l (lL s1 1), .i (lI s1 2), .i ((lL s1 1).length : Int)] fun (r8 : Nat × List Leaf) =>
 chk (0 ≤ (0 : Int) ∧ (0 : Int) ≤ (lI r8.2 3) ∧ (lI r8.2 3) ≤ ((lL r8.2 1).length : Int)) <|
 chk ((([] : List V).length + (((lL r8.2 1).take ((lI r8.2 3).toNat)).drop 0).length) * 32 ≤ 140737488355328 ∧ ([] : List V).length + (((lL r8.2 1).take ((lI r8.2 3).toNat)).drop 0).length ≤ 140737488355328) <|
 chk (0 ≤ (lI r8.2 2)) <|
 idx true [.str, .str] (lL r8.2 0) ((lI r8.2 2).toNat) fun (e9 : List UInt8 × List UInt8 × Unit) =>
 chk (((([] : List V) ++ (((lL r8.2 1).take ((lI r8.2 3).toNat)).drop 0)).length + ([.agg [.str e9.1, .str e9.2.1]] : List V).length) * 32 ≤ 140737488355328 ∧ (([] : List V) ++ (((lL r8.2 1).take ((lI r8.2 3).toNat)).drop 0)).length + ([.agg [.str e9.1, .str e9.2.1]] : List V).length ≤ 140737488355328) <|
 chk (0 ≤ (lI r8.2 3) ∧ (lI r8.2 3) ≤ ((lL r8.2 1).length : Int) ∧ ((lL r8.2 1).length : Int) ≤ ((lL r8.2 1).length : Int)) <|
 chk ((((([] : List V) ++ (((lL r8.2 1).take ((lI r8.2 3).toNat)).drop 0)) ++ ([.agg [.str e9.1, .str e9.2.1]] : List V)).length + (((lL r8.2 1).take (((lL r8.2 1).length : Int).toNat)).drop ((lI r8.2 3).toNat)).length) * 32 ≤ 140737488355328 ∧ ((([] : List V) ++ (((lL r8.2 1).take ((lI r8.2 3).toNat)).drop 0)) ++ ([.agg [.str e9.1, .str e9.2.1]] : List V)).length + (((lL r8.2 1).take (((lL r8.2 1).length : Int).toNat)).drop ((lI r8.2 3).toNat)).length ≤ 140737488355328) <|
 some (.inl [.l (lL r8.2 0), .l (((([] : List V) ++ (((lL r8.2 1).take ((lI r8.2 3).toNat)).drop 0)) ++ ([.agg [.str e9.1, .str e9.2.1]] : List V)) ++ (((lL r8.2 1).take (((lL r8.2 1).length : Int).toNat)).drop ((lI r8.2 3).toNat))), .i (IntKind.wrap .i64 ((lI r8.2 2) + 1))]))) (
 some (.inr (0, [.l (lL s1 1)])))) [.l l, .l [], .i 0] fun (r10 : Nat × List Leaf) =>
 k (lL r10.2 0)
def F38 : T38 := P38 F57 F58 
def X38 : Exits := fun i => lookN i [] [(3, [(.exit 0, xk 57 [(3, .own 1000000 2 .flat [])] [])]), (7, [(.exit 2, xk 57 [(0, .sl 2 true []), (3, .own 1000000 2 .flat []), (4, .int .i64 0), (5, .int .i64 0)] [])])]
abbrev s38 : List (Bool × List CK) := [(false, [.sl 2 true])]
def G38 (F : T38) (β : Type) (e : (List V × Unit) × Unit) (k : V → Option β) : Option β := F β e.1.1 (fun y1 => k (.own 0 2 .flat y1))
abbrev W38 (F : T38) : WT := wrap s38 (G38 F)
theorem k38 (F57 : T57) (F58 : T58) (β : Type) (e : argsT s38) (k : V → Option β) : fnK cfg (tabL [(57, W57 F57), (58, W58 F58)]) X38 38 Try.f38 β (argsEnc s38 e) k = G38 (P38 F57 F58 ) β e k := by kernel_rfl
theorem ok38 : FnOk D 38 (W38 F38) := fn_okW [(57, W57 F57), (58, W58 F58)] X38 (fun _ => rfl) Try.func38 rfl (tabL_cons ok57 (tabL_cons ok58 tabL_nil)) (k38 F57 F58 )

/-- spec.CrossLearned -/
abbrev T15 : Type 1 := (β : Type) → List V → List V → List V → Int → List UInt8 → (List V → Option β) → Option β
def P15 (F37 : T37) (F38 : T38) : T15 := fun β n_Servers n_Cache_Entries n_Log n_Now host k =>
 F37 _ n_Servers n_Cache_Entries n_Log n_Now host fun l1 =>
 whileK (fun s2 =>
 br (decide ((lI s2 3) < ((lL s2 2).length : Int))) (
 chk (0 ≤ (lI s2 3) ∧ (lI s2 3).toNat < (lL s2 2).length) <|
 idxAt [.str] (lL s2 2) ((lI s2 3).toNat) 0 fun (e3 : List UInt8 × Unit) =>
 br (!(e3.1 == (lS s2 0))) (
 chk (0 ≤ (lI s2 3) ∧ (lI s2 3).toNat < (lL s2 2).length) <|
 idxAt [.str, .str] (lL s2 2) ((lI s2 3).toNat) 1 fun (e4 : List UInt8 × List UInt8 × Unit) =>
 chk (((lL s2 1).length + ([.agg [.str e4.1, .str e4.2.1]] : List V).length) * 32 ≤ 140737488355328 ∧ (lL s2 1).length + ([.agg [.str e4.1, .str e4.2.1]] : List V).length ≤ 140737488355328) <|
 some (.inl [.s (lS s2 0), .l ((lL s2 1) ++ ([.agg [.str e4.1, .str e4.2.1]] : List V)), .l (lL s2 2), .i (IntKind.wrap .i64 ((lI s2 3) + 1))])) (
 some (.inl [.s (lS s2 0), .l (lL s2 1), .l (lL s2 2), .i (IntKind.wrap .i64 ((lI s2 3) + 1))]))) (
 some (.inr (0, [.l (lL s2 1)])))) [.s host, .l [], .l l1, .i 0] fun (r5 : Nat × List Leaf) =>
 F38 _ (lL r5.2 0) fun l6 =>
 k l6
def F15 : T15 := P15 F37 F38 
def X15 : Exits := fun i => lookN i [] [(4, [(.exit 0, xk 35 [(5, .own 1000000 2 .flat [])] [])])]
abbrev s15 : List (Bool × List CK) := [(true, [.sl 2 false, .sl 10 true, .sl 4 true, .int .i64]), (false, [.str])]
def G15 (F : T15) (β : Type) (e : (List V × List V × List V × Int × Unit) × (List UInt8 × Unit) × Unit) (k : V → Option β) : Option β := F β e.1.1 e.1.2.1 e.1.2.2.1 e.1.2.2.2.1 e.2.1.1 (fun y1 => k (.own 0 2 .flat y1))
abbrev W15 (F : T15) : WT := wrap s15 (G15 F)
theorem k15 (F37 : T37) (F38 : T38) (β : Type) (e : argsT s15) (k : V → Option β) : fnK cfg (tabL [(37, W37 F37), (38, W38 F38)]) X15 15 Try.f15 β (argsEnc s15 e) k = G15 (P15 F37 F38 ) β e k := by kernel_rfl
theorem ok15 : FnOk D 15 (W15 F15) := fn_okW [(37, W37 F37), (38, W38 F38)] X15 (fun _ => rfl) Try.func15 rfl (tabL_cons ok37 (tabL_cons ok38 tabL_nil)) (k15 F37 F38 )

/-- spec.l1In -/
abbrev T77 : Type 1 := (β : Type) → Int → Int → Int → (Bool → Option β) → Option β
def P77 : T77 := fun β x least most k =>
 br (decide (x ≥ least)) (
 k (decide (x ≤ most))) (
 k false)
def F77 : T77 := P77 
abbrev s77 : List (Bool × List CK) := [(false, [.int .i64]), (false, [.int .i64]), (false, [.int .i64])]
def G77 (F : T77) (β : Type) (e : (Int × Unit) × (Int × Unit) × (Int × Unit) × Unit) (k : V → Option β) : Option β := F β e.1.1 e.2.1.1 e.2.2.1.1 (fun y1 => k (.bool y1))
abbrev W77 (F : T77) : WT := wrap s77 (G77 F)
theorem k77 (β : Type) (e : argsT s77) (k : V → Option β) : fnK cfg (tabL []) noX 77 Try.f77 β (argsEnc s77 e) k = G77 (P77 ) β e k := by kernel_rfl
theorem ok77 : FnOk D 77 (W77 F77) := fn_okW [] noX (fun _ => rfl) Try.func77 rfl (tabL_nil) (k77 )

/-- spec.IsName -/
abbrev T59 : Type 1 := (β : Type) → List UInt8 → (Bool → Option β) → Option β
def P59 (F77 : T77) : T59 := fun β s k =>
 whileK (fun s1 =>
 br (decide ((lI s1 1) < ((lS s1 0).length : Int))) (
 idxS (lS s1 0) (lI s1 1) fun b2 =>
 br (decide (b2 < 97)) (
 some (.inr (0, [.s (lS s1 0), .b false]))) (
 idxS (lS s1 0) (lI s1 1) fun b3 =>
 br (decide (b3 > 122)) (
 some (.inr (0, [.s (lS s1 0), .b false]))) (
 some (.inl [.s (lS s1 0), .i (IntKind.wrap .i64 ((lI s1 1) + 1))])))) (
 some (.inr (1, [.s (lS s1 0)])))) [.s s, .i 0] fun (r4 : Nat × List Leaf) =>
 if r4.1 = 0 then
 k (lB r4.2 1)
 else
 F77 _ ((lS r4.2 0).length : Int) 1 8 fun b5 =>
 k b5
def F59 : T59 := P59 F77 
def X59 : Exits := fun i => lookN i [] [(2, [(.ret, xk 23 [(0, .str []), (2, .bool false)] []), (.exit 0, xk 23 [(0, .str [])] [])])]
abbrev s59 : List (Bool × List CK) := [(false, [.str])]
def G59 (F : T59) (β : Type) (e : (List UInt8 × Unit) × Unit) (k : V → Option β) : Option β := F β e.1.1 (fun y1 => k (.bool y1))
abbrev W59 (F : T59) : WT := wrap s59 (G59 F)
theorem k59 (F77 : T77) (β : Type) (e : argsT s59) (k : V → Option β) : fnK cfg (tabL [(77, W77 F77)]) X59 59 Try.f59 β (argsEnc s59 e) k = G59 (P59 F77 ) β e k := by kernel_rfl
theorem ok59 : FnOk D 59 (W59 F59) := fn_okW [(77, W77 F77)] X59 (fun _ => rfl) Try.func59 rfl (tabL_cons ok77 tabL_nil) (k59 F77 )

/-- spec.IsAddr -/
abbrev T39 : Type 1 := (β : Type) → List UInt8 → List UInt8 → (Bool → Option β) → Option β
def P39 (F59 : T59) : T39 := fun β a_Host a_Path k =>
 F59 _ a_Host fun b1 =>
 br b1 (
 F59 _ a_Path fun b2 =>
 k b2) (
 k false)
def F39 : T39 := P39 F59 
abbrev s39 : List (Bool × List CK) := [(true, [.str, .str])]
def G39 (F : T39) (β : Type) (e : (List UInt8 × List UInt8 × Unit) × Unit) (k : V → Option β) : Option β := F β e.1.1 e.1.2.1 (fun y1 => k (.bool y1))
abbrev W39 (F : T39) : WT := wrap s39 (G39 F)
theorem k39 (F59 : T59) (β : Type) (e : argsT s39) (k : V → Option β) : fnK cfg (tabL [(59, W59 F59)]) noX 39 Try.f39 β (argsEnc s39 e) k = G39 (P39 F59 ) β e k := by kernel_rfl
theorem ok39 : FnOk D 39 (W39 F39) := fn_okW [(59, W59 F59)] noX (fun _ => rfl) Try.func39 rfl (tabL_cons ok59 tabL_nil) (k39 F59 )

/-- spec.FormatAddr -/
abbrev T16 : Type 1 := (β : Type) → List UInt8 → List UInt8 → (List UInt8 → Option β) → Option β
def P16 (F39 : T39) : T16 := fun β a_Host a_Path k =>
 F39 _ a_Host a_Path fun b1 =>
 br (!b1) (
 k []) (
 chk (a_Host.length + ([47] : List UInt8).length ≤ 9223372036854775807) <|
 chk ((a_Host ++ [47]).length + a_Path.length ≤ 9223372036854775807) <|
 k ((a_Host ++ [47]) ++ a_Path))
def F16 : T16 := P16 F39 
abbrev s16 : List (Bool × List CK) := [(true, [.str, .str])]
def G16 (F : T16) (β : Type) (e : (List UInt8 × List UInt8 × Unit) × Unit) (k : V → Option β) : Option β := F β e.1.1 e.1.2.1 (fun y1 => k (.str y1))
abbrev W16 (F : T16) : WT := wrap s16 (G16 F)
theorem k16 (F39 : T39) (β : Type) (e : argsT s16) (k : V → Option β) : fnK cfg (tabL [(39, W39 F39)]) noX 16 Try.f16 β (argsEnc s16 e) k = G16 (P16 F39 ) β e k := by kernel_rfl
theorem ok16 : FnOk D 16 (W16 F16) := fn_okW [(39, W39 F39)] noX (fun _ => rfl) Try.func16 rfl (tabL_cons ok39 tabL_nil) (k16 F39 )

/-- spec.ViewText -/
abbrev T6 : Type 1 := (β : Type) → List V → List V → List V → Int → List UInt8 → (List UInt8 → Option β) → Option β
def P6 (F15 : T15) (F16 : T16) : T6 := fun β n_Servers n_Cache_Entries n_Log n_Now host k =>
 F15 _ n_Servers n_Cache_Entries n_Log n_Now host fun l1 =>
 br ((l1.length : Int) == 0) (
 k [45]) (
 whileK (fun s2 =>
 br (decide ((lI s2 2) < ((lL s2 0).length : Int))) (
 br (decide ((lI s2 2) > 0)) (
 chk ((lS s2 1).length + ([32] : List UInt8).length ≤ 9223372036854775807) <|
 chk (0 ≤ (lI s2 2) ∧ (lI s2 2).toNat < (lL s2 0).length) <|
 idxAt [.str, .str] (lL s2 0) ((lI s2 2).toNat) 0 fun (e3 : List UInt8 × List UInt8 × Unit) =>
 F16 _ e3.1 e3.2.1 fun t4 =>
 chk (((lS s2 1) ++ [32]).length + t4.length ≤ 9223372036854775807) <|
 some (.inl [.l (lL s2 0), .s (((lS s2 1) ++ [32]) ++ t4), .i (IntKind.wrap .i64 ((lI s2 2) + 1))])) (
 chk (0 ≤ (lI s2 2) ∧ (lI s2 2).toNat < (lL s2 0).length) <|
 idxAt [.str, .str] (lL s2 0) ((lI s2 2).toNat) 0 fun (e5 : List UInt8 × List UInt8 × Unit) =>
 F16 _ e5.1 e5.2.1 fun t6 =>
 chk ((lS s2 1).length + t6.length ≤ 9223372036854775807) <|
 some (.inl [.l (lL s2 0), .s ((lS s2 1) ++ t6), .i (IntKind.wrap .i64 ((lI s2 2) + 1))]))) (
 some (.inr (0, [.s (lS s2 1)])))) [.l l1, .s [], .i 0] fun (r7 : Nat × List Leaf) =>
 k (lS r7.2 0))
def F6 : T6 := P6 F15 F16 
def X6 : Exits := fun i => lookN i [] [(6, [(.exit 0, xk 32 [(6, .str [])] [])])]
abbrev s6 : List (Bool × List CK) := [(true, [.sl 2 false, .sl 10 true, .sl 4 true, .int .i64]), (false, [.str])]
def G6 (F : T6) (β : Type) (e : (List V × List V × List V × Int × Unit) × (List UInt8 × Unit) × Unit) (k : V → Option β) : Option β := F β e.1.1 e.1.2.1 e.1.2.2.1 e.1.2.2.2.1 e.2.1.1 (fun y1 => k (.str y1))
abbrev W6 (F : T6) : WT := wrap s6 (G6 F)
theorem k6 (F15 : T15) (F16 : T16) (β : Type) (e : argsT s6) (k : V → Option β) : fnK cfg (tabL [(15, W15 F15), (16, W16 F16)]) X6 6 Try.f6 β (argsEnc s6 e) k = G6 (P6 F15 F16 ) β e k := by kernel_rfl
theorem ok6 : FnOk D 6 (W6 F6) := fn_okW [(15, W15 F15), (16, W16 F16)] X6 (fun _ => rfl) Try.func6 rfl (tabL_cons ok15 (tabL_cons ok16 tabL_nil)) (k6 F15 F16 )

/-- impl.SentTo -/
abbrev T43 : Type 1 := (β : Type) → List V → List V → List V → Int → List UInt8 → (List V → Option β) → Option β
def P43 : T43 := fun β n_Servers n_Cache_Entries n_Log n_Now host k =>
 whileK (fun s1 =>
 br (decide ((lI s1 4) < (lI s1 3))) (
 chk (0 ≤ (lI s1 4)) <|
 idx true [.str, .str, .str, .bool] (lL s1 2) ((lI s1 4).toNat) fun (e2 : List UInt8 × List UInt8 × List UInt8 × Bool × Unit) =>
 br (e2.2.1 == (lS s1 0)) (
 chk (((lL s1 1).length + ([.agg [.str e2.1, .str e2.2.1, .str e2.2.2.1, .bool e2.2.2.2.1]] : List V).length) * 56 ≤ 140737488355328 ∧ (lL s1 1).length + ([.agg [.str e2.1, .str e2.2.1, .str e2.2.2.1, .bool e2.2.2.2.1]] : List V).length ≤ 140737488355328) <|
 some (.inl [.s (lS s1 0), .l ((lL s1 1) ++ ([.agg [.str e2.1, .str e2.2.1, .str e2.2.2.1, .bool e2.2.2.2.1]] : List V)), .l (lL s1 2), .i (lI s1 3), .i (IntKind.wrap .i64 ((lI s1 4) + 1))])) (
 some (.inl [.s (lS s1 0), .l (lL s1 1), .l (lL s1 2), .i (lI s1 3), .i (IntKind.wrap .i64 ((lI s1 4) + 1))]))) (
 some (.inr (0, [.l (lL s1 1)])))) [.s host, .l [], .l n_Log, .i (n_Log.length : Int), .i 0] fun (r3 : Nat × List Leaf) =>
 k (lL r3.2 0)
def F43 : T43 := P43 
def X43 : Exits := fun i => lookN i [] [(3, [(.exit 0, xk 27 [(5, .own 1000000 4 .flat [])] [])])]
abbrev s43 : List (Bool × List CK) := [(true, [.sl 2 false, .sl 10 true, .sl 4 true, .int .i64]), (false, [.str])]
def G43 (F : T43) (β : Type) (e : (List V × List V × List V × Int × Unit) × (List UInt8 × Unit) × Unit) (k : V → Option β) : Option β := F β e.1.1 e.1.2.1 e.1.2.2.1 e.1.2.2.2.1 e.2.1.1 (fun y1 => k (.own 0 4 .flat y1))
abbrev W43 (F : T43) : WT := wrap s43 (G43 F)
theorem k43 (β : Type) (e : argsT s43) (k : V → Option β) : fnK cfg (tabL []) X43 43 Try.f43 β (argsEnc s43 e) k = G43 (P43 ) β e k := by kernel_rfl
theorem ok43 : FnOk D 43 (W43 F43) := fn_okW [] X43 (fun _ => rfl) Try.func43 rfl (tabL_nil) (k43 )

/-- impl.SortAddrs -/
abbrev T44 : Type 1 := (β : Type) → List V → (List V → Option β) → Option β
def F44 : T44 := sortPrK
abbrev s44 : List (Bool × List CK) := [(false, [.sl 2 true])]
def G44 (F : T44) (β : Type) (e : (List V × Unit) × Unit) (k : V → Option β) : Option β := F β e.1.1 (fun y1 => k (.own 0 2 .flat y1))
abbrev W44 (F : T44) : WT := wrap s44 (G44 F)
theorem ok44 : FnOk D 44 (W44 F44) := ok_sortPr (fun _ => rfl)

/-- impl.CrossLearned -/
abbrev T20 : Type 1 := (β : Type) → List V → List V → List V → Int → List UInt8 → (List V → Option β) → Option β
def P20 (F43 : T43) (F44 : T44) : T20 := fun β n_Servers n_Cache_Entries n_Log n_Now host k =>
 F43 _ n_Servers n_Cache_Entries n_Log n_Now host fun l1 =>
 whileK (fun s2 =>
 br (decide ((lI s2 4) < (lI s2 3))) (
 chk (0 ≤ (lI s2 4) ∧ (lI s2 4).toNat < (lL s2 2).length) <|
 idxAt [.str, .str, .str, .bool] (lL s2 2) ((lI s2 4).toNat) 0 fun (e3 : List UInt8 × List UInt8 × List UInt8 × Bool × Unit) =>
 br (!(e3.1 == (lS s2 0))) (
 chk (((lL s2 1).length + ([.agg [.str e3.2.1, .str e3.2.2.1]] : List V).length) * 32 ≤ 140737488355328 ∧ (lL s2 1).length + ([.agg [.str e3.2.1, .str e3.2.2.1]] : List V).length ≤ 140737488355328) <|
 some (.inl [.s (lS s2 0), .l ((lL s2 1) ++ ([.agg [.str e3.2.1, .str e3.2.2.1]] : List V)), .l (lL s2 2), .i (lI s2 3), .i (IntKind.wrap .i64 ((lI s2 4) + 1))])) (
 some (.inl [.s (lS s2 0), .l (lL s2 1), .l (lL s2 2), .i (lI s2 3), .i (IntKind.wrap .i64 ((lI s2 4) + 1))]))) (
 some (.inr (0, [.l (lL s2 1)])))) [.s host, .l [], .l l1, .i (l1.length : Int), .i 0] fun (r4 : Nat × List Leaf) =>
 F44 _ (lL r4.2 0) fun l5 =>
 k l5
def F20 : T20 := P20 F43 F44 
def X20 : Exits := fun i => lookN i [] [(3, [(.exit 0, xk 29 [(5, .own 1000000 2 .flat [])] [])])]
abbrev s20 : List (Bool × List CK) := [(true, [.sl 2 false, .sl 10 true, .sl 4 true, .int .i64]), (false, [.str])]
def G20 (F : T20) (β : Type) (e : (List V × List V × List V × Int × Unit) × (List UInt8 × Unit) × Unit) (k : V → Option β) : Option β := F β e.1.1 e.1.2.1 e.1.2.2.1 e.1.2.2.2.1 e.2.1.1 (fun y1 => k (.own 0 2 .flat y1))
abbrev W20 (F : T20) : WT := wrap s20 (G20 F)
theorem k20 (F43 : T43) (F44 : T44) (β : Type) (e : argsT s20) (k : V → Option β) : fnK cfg (tabL [(43, W43 F43), (44, W44 F44)]) X20 20 Try.f20 β (argsEnc s20 e) k = G20 (P20 F43 F44 ) β e k := by kernel_rfl
theorem ok20 : FnOk D 20 (W20 F20) := fn_okW [(43, W43 F43), (44, W44 F44)] X20 (fun _ => rfl) Try.func20 rfl (tabL_cons ok43 (tabL_cons ok44 tabL_nil)) (k20 F43 F44 )

/-- impl.InRange -/
abbrev T82 : Type 1 := (β : Type) → Int → Int → Int → (Bool → Option β) → Option β
def P82 : T82 := fun β n low high k =>
 br (decide (low ≤ n)) (
 k (decide (n ≤ high))) (
 k false)
def F82 : T82 := P82 
abbrev s82 : List (Bool × List CK) := [(false, [.int .i64]), (false, [.int .i64]), (false, [.int .i64])]
def G82 (F : T82) (β : Type) (e : (Int × Unit) × (Int × Unit) × (Int × Unit) × Unit) (k : V → Option β) : Option β := F β e.1.1 e.2.1.1 e.2.2.1.1 (fun y1 => k (.bool y1))
abbrev W82 (F : T82) : WT := wrap s82 (G82 F)
theorem k82 (β : Type) (e : argsT s82) (k : V → Option β) : fnK cfg (tabL []) noX 82 Try.f82 β (argsEnc s82 e) k = G82 (P82 ) β e k := by kernel_rfl
theorem ok82 : FnOk D 82 (W82 F82) := fn_okW [] noX (fun _ => rfl) Try.func82 rfl (tabL_nil) (k82 )

/-- impl.IsName -/
abbrev T66 : Type 1 := (β : Type) → List UInt8 → (Bool → Option β) → Option β
def P66 (F82 : T82) : T66 := fun β s k =>
 whileK (fun s1 =>
 br (decide ((lI s1 1) < ((lS s1 0).length : Int))) (
 idxS (lS s1 0) (lI s1 1) fun b2 =>
 br (decide (b2 < 97)) (
 some (.inr (0, [.s (lS s1 0), .b false]))) (
 idxS (lS s1 0) (lI s1 1) fun b3 =>
 br (decide (b3 > 122)) (
 some (.inr (0, [.s (lS s1 0), .b false]))) (
 some (.inl [.s (lS s1 0), .i (IntKind.wrap .i64 ((lI s1 1) + 1))])))) (
 some (.inr (1, [.s (lS s1 0)])))) [.s s, .i 0] fun (r4 : Nat × List Leaf) =>
 if r4.1 = 0 then
 k (lB r4.2 1)
 else
 F82 _ ((lS r4.2 0).length : Int) 1 8 fun b5 =>
 k b5
def F66 : T66 := P66 F82 
def X66 : Exits := fun i => lookN i [] [(2, [(.ret, xk 23 [(0, .str []), (2, .bool false)] []), (.exit 0, xk 23 [(0, .str [])] [])])]
abbrev s66 : List (Bool × List CK) := [(false, [.str])]
def G66 (F : T66) (β : Type) (e : (List UInt8 × Unit) × Unit) (k : V → Option β) : Option β := F β e.1.1 (fun y1 => k (.bool y1))
abbrev W66 (F : T66) : WT := wrap s66 (G66 F)
theorem k66 (F82 : T82) (β : Type) (e : argsT s66) (k : V → Option β) : fnK cfg (tabL [(82, W82 F82)]) X66 66 Try.f66 β (argsEnc s66 e) k = G66 (P66 F82 ) β e k := by kernel_rfl
theorem ok66 : FnOk D 66 (W66 F66) := fn_okW [(82, W82 F82)] X66 (fun _ => rfl) Try.func66 rfl (tabL_cons ok82 tabL_nil) (k66 F82 )

/-- impl.IsAddr -/
abbrev T45 : Type 1 := (β : Type) → List UInt8 → List UInt8 → (Bool → Option β) → Option β
def P45 (F66 : T66) : T45 := fun β a_Host a_Path k =>
 F66 _ a_Host fun b1 =>
 br b1 (
 F66 _ a_Path fun b2 =>
 k b2) (
 k false)
def F45 : T45 := P45 F66 
abbrev s45 : List (Bool × List CK) := [(true, [.str, .str])]
def G45 (F : T45) (β : Type) (e : (List UInt8 × List UInt8 × Unit) × Unit) (k : V → Option β) : Option β := F β e.1.1 e.1.2.1 (fun y1 => k (.bool y1))
abbrev W45 (F : T45) : WT := wrap s45 (G45 F)
theorem k45 (F66 : T66) (β : Type) (e : argsT s45) (k : V → Option β) : fnK cfg (tabL [(66, W66 F66)]) noX 45 Try.f45 β (argsEnc s45 e) k = G45 (P45 F66 ) β e k := by kernel_rfl
theorem ok45 : FnOk D 45 (W45 F45) := fn_okW [(66, W66 F66)] noX (fun _ => rfl) Try.func45 rfl (tabL_cons ok66 tabL_nil) (k45 F66 )

/-- impl.FormatAddr -/
abbrev T21 : Type 1 := (β : Type) → List UInt8 → List UInt8 → (List UInt8 → Option β) → Option β
def P21 (F45 : T45) : T21 := fun β a_Host a_Path k =>
 F45 _ a_Host a_Path fun b1 =>
 br (!b1) (
 k []) (
 chk (a_Host.length + ([47] : List UInt8).length ≤ 9223372036854775807) <|
 chk ((a_Host ++ [47]).length + a_Path.length ≤ 9223372036854775807) <|
 k ((a_Host ++ [47]) ++ a_Path))
def F21 : T21 := P21 F45 
abbrev s21 : List (Bool × List CK) := [(true, [.str, .str])]
def G21 (F : T21) (β : Type) (e : (List UInt8 × List UInt8 × Unit) × Unit) (k : V → Option β) : Option β := F β e.1.1 e.1.2.1 (fun y1 => k (.str y1))
abbrev W21 (F : T21) : WT := wrap s21 (G21 F)
theorem k21 (F45 : T45) (β : Type) (e : argsT s21) (k : V → Option β) : fnK cfg (tabL [(45, W45 F45)]) noX 21 Try.f21 β (argsEnc s21 e) k = G21 (P21 F45 ) β e k := by kernel_rfl
theorem ok21 : FnOk D 21 (W21 F21) := fn_okW [(45, W45 F45)] noX (fun _ => rfl) Try.func21 rfl (tabL_cons ok45 tabL_nil) (k21 F45 )

/-- strings.Join -/
abbrev T22 : Type 1 := (β : Type) → List V → List UInt8 → (List UInt8 → Option β) → Option β
def F22 : T22 := joinK
abbrev s22 : List (Bool × List CK) := [(false, [.sl 1 true]), (false, [.str])]
def G22 (F : T22) (β : Type) (e : (List V × Unit) × (List UInt8 × Unit) × Unit) (k : V → Option β) : Option β := F β e.1.1 e.2.1.1 (fun y1 => k (.str y1))
abbrev W22 (F : T22) : WT := wrap s22 (G22 F)
theorem ok22 : FnOk D 22 (W22 F22) := ok_join (fun _ => rfl)

/-- impl.ViewText -/
abbrev T8 : Type 1 := (β : Type) → List V → List V → List V → Int → List UInt8 → (List UInt8 → Option β) → Option β
def P8 (F20 : T20) (F21 : T21) (F22 : T22) : T8 := fun β n_Servers n_Cache_Entries n_Log n_Now host k =>
 F20 _ n_Servers n_Cache_Entries n_Log n_Now host fun l1 =>
 whileK (fun s2 =>
 br (decide ((lI s2 3) < (lI s2 2))) (
 chk (0 ≤ (lI s2 3) ∧ (lI s2 3).toNat < (lL s2 1).length) <|
 idxAt [.str, .str] (lL s2 1) ((lI s2 3).toNat) 0 fun (e3 : List UInt8 × List UInt8 × Unit) =>
 F21 _ e3.1 e3.2.1 fun t4 =>
 chk (((lL s2 0).length + ([.str t4] : List V).length) * 16 ≤ 140737488355328 ∧ (lL s2 0).length + ([.str t4] : List V).length ≤ 140737488355328) <|
 some (.inl [.l ((lL s2 0) ++ ([.str t4] : List V)), .l (lL s2 1), .i (lI s2 2), .i (IntKind.wrap .i64 ((lI s2 3) + 1))])) (
 some (.inr (0, [.l (lL s2 0)])))) [.l [], .l l1, .i (l1.length : Int), .i 0] fun (r5 : Nat × List Leaf) =>
 br (((lL r5.2 0).length : Int) == 0) (
 k [45]) (
 F22 _ (lL r5.2 0) [32] fun t6 =>
 k t6)
def F8 : T8 := P8 F20 F21 F22 
def X8 : Exits := fun i => lookN i [] [(3, [(.exit 0, xk 28 [(5, .own 1000000 1 .flat [])] [])])]
abbrev s8 : List (Bool × List CK) := [(true, [.sl 2 false, .sl 10 true, .sl 4 true, .int .i64]), (false, [.str])]
def G8 (F : T8) (β : Type) (e : (List V × List V × List V × Int × Unit) × (List UInt8 × Unit) × Unit) (k : V → Option β) : Option β := F β e.1.1 e.1.2.1 e.1.2.2.1 e.1.2.2.2.1 e.2.1.1 (fun y1 => k (.str y1))
abbrev W8 (F : T8) : WT := wrap s8 (G8 F)
theorem k8 (F20 : T20) (F21 : T21) (F22 : T22) (β : Type) (e : argsT s8) (k : V → Option β) : fnK cfg (tabL [(20, W20 F20), (21, W21 F21), (22, W22 F22)]) X8 8 Try.f8 β (argsEnc s8 e) k = G8 (P8 F20 F21 F22 ) β e k := by kernel_rfl
theorem ok8 : FnOk D 8 (W8 F8) := fn_okW [(20, W20 F20), (21, W21 F21), (22, W22 F22)] X8 (fun _ => rfl) Try.func8 rfl (tabL_cons ok20 (tabL_cons ok21 (tabL_cons ok22 tabL_nil))) (k8 F20 F21 F22 )

/-- laws.eqResponse -/
abbrev T86 : Type 1 := (β : Type) → Int → Int → List UInt8 → Int → Bool → List UInt8 → Int → Int → List UInt8 → Int → Bool → List UInt8 → (Bool → Option β) → Option β
def P86 : T86 := fun β a_Status a_Kind a_Body a_Age a_Shares a_Policy b_Status b_Kind b_Body b_Age b_Shares b_Policy k =>
 br (a_Status != b_Status) (
 k false) (
 br (a_Kind != b_Kind) (
 k false) (
 br (!(a_Body == b_Body)) (
 k false) (
 br (a_Age != b_Age) (
 k false) (
 br (!(a_Shares == b_Shares)) (
 k false) (
 br (!(a_Policy == b_Policy)) (
 k false) (
 k true))))))
def F86 : T86 := P86 
abbrev s86 : List (Bool × List CK) := [(true, [.int .i64, .int .i64, .str, .int .i64, .bool, .str]), (true, [.int .i64, .int .i64, .str, .int .i64, .bool, .str])]
def G86 (F : T86) (β : Type) (e : (Int × Int × List UInt8 × Int × Bool × List UInt8 × Unit) × (Int × Int × List UInt8 × Int × Bool × List UInt8 × Unit) × Unit) (k : V → Option β) : Option β := let a0_0 := e.1; let a0_1 := a0_0.2; let a0_2 := a0_1.2; let a0_3 := a0_2.2; let a0_4 := a0_3.2; let a0_5 := a0_4.2; let a1_0 := e.2.1; let a1_1 := a1_0.2; let a1_2 := a1_1.2; let a1_3 := a1_2.2; let a1_4 := a1_3.2; let a1_5 := a1_4.2; F β a0_0.1 a0_1.1 a0_2.1 a0_3.1 a0_4.1 a0_5.1 a1_0.1 a1_1.1 a1_2.1 a1_3.1 a1_4.1 a1_5.1 (fun y1 => k (.bool y1))
abbrev W86 (F : T86) : WT := wrap s86 (G86 F)
theorem k86 (β : Type) (e : argsT s86) (k : V → Option β) : fnK cfg (tabL []) noX 86 Try.f86 β (argsEnc s86 e) k = G86 (P86 ) β e k := by kernel_rfl
theorem ok86 : FnOk D 86 (W86 F86) := fn_okW [] noX (fun _ => rfl) Try.func86 rfl (tabL_nil) (k86 )

/-- laws.eqFile -/
abbrev T85 : Type 1 := (β : Type) → List UInt8 → Int → Int → List UInt8 → Int → Bool → List UInt8 → List UInt8 → Int → Int → List UInt8 → Int → Bool → List UInt8 → (Bool → Option β) → Option β
def P85 (F86 : T86) : T85 := fun β a_Path a_Response_Status a_Response_Kind a_Response_Body a_Response_Age a_Response_Shares a_Response_Policy b_Path b_Response_Status b_Response_Kind b_Response_Body b_Response_Age b_Response_Shares b_Response_Policy k =>
 br (!(a_Path == b_Path)) (
 k false) (
 F86 _ a_Response_Status a_Response_Kind a_Response_Body a_Response_Age a_Response_Shares a_Response_Policy b_Response_Status b_Response_Kind b_Response_Body b_Response_Age b_Response_Shares b_Response_Policy fun b1 =>
 br (!b1) (
 k false) (
 k true))
def F85 : T85 := P85 F86 
abbrev s85 : List (Bool × List CK) := [(true, [.str, .int .i64, .int .i64, .str, .int .i64, .bool, .str]), (true, [.str, .int .i64, .int .i64, .str, .int .i64, .bool, .str])]
def G85 (F : T85) (β : Type) (e : (List UInt8 × Int × Int × List UInt8 × Int × Bool × List UInt8 × Unit) × (List UInt8 × Int × Int × List UInt8 × Int × Bool × List UInt8 × Unit) × Unit) (k : V → Option β) : Option β := let a0_0 := e.1; let a0_1 := a0_0.2; let a0_2 := a0_1.2; let a0_3 := a0_2.2; let a0_4 := a0_3.2; let a0_5 := a0_4.2; let a0_6 := a0_5.2; let a1_0 := e.2.1; let a1_1 := a1_0.2; let a1_2 := a1_1.2; let a1_3 := a1_2.2; let a1_4 := a1_3.2; let a1_5 := a1_4.2; let a1_6 := a1_5.2; F β a0_0.1 a0_1.1 a0_2.1 a0_3.1 a0_4.1 a0_5.1 a0_6.1 a1_0.1 a1_1.1 a1_2.1 a1_3.1 a1_4.1 a1_5.1 a1_6.1 (fun y1 => k (.bool y1))
abbrev W85 (F : T85) : WT := wrap s85 (G85 F)
theorem k85 (F86 : T86) (β : Type) (e : argsT s85) (k : V → Option β) : fnK cfg (tabL [(86, W86 F86)]) noX 85 Try.f85 β (argsEnc s85 e) k = G85 (P85 F86 ) β e k := by kernel_rfl
theorem ok85 : FnOk D 85 (W85 F85) := fn_okW [(86, W86 F86)] noX (fun _ => rfl) Try.func85 rfl (tabL_cons ok86 tabL_nil) (k85 F86 )

/-- laws.eqFileS -/
abbrev T69 : Type 1 := (β : Type) → List V → List V → (Bool → Option β) → Option β
def P69 (F85 : T85) : T69 := fun β a b k =>
 br ((a.length : Int) != (b.length : Int)) (
 k false) (
 whileK (fun s1 =>
 br (decide ((lI s1 2) < ((lL s1 0).length : Int))) (
 chk (0 ≤ (lI s1 2)) <|
 idx true [.str, .int .i64, .int .i64, .str, .int .i64, .bool, .str] (lL s1 0) ((lI s1 2).toNat) fun (e2 : List UInt8 × Int × Int × List UInt8 × Int × Bool × List UInt8 × Unit) =>
 chk (0 ≤ (lI s1 2)) <|
 idx true [.str, .int .i64, .int .i64, .str, .int .i64, .bool, .str] (lL s1 1) ((lI s1 2).toNat) fun (e3 : List UInt8 × Int × Int × List UInt8 × Int × Bool × List UInt8 × Unit) =>
 F85 _ e2.1 e2.2.1 e2.2.2.1 e2.2.2.2.1 e2.2.2.2.2.1 e2.2.2.2.2.2.1 e2.2.2.2.2.2.2.1 e3.1 e3.2.1 e3.2.2.1 e3.2.2.2.1 e3.2.2.2.2.1 e3.2.2.2.2.2.1 e3.2.2.2.2.2.2.1 fun b4 =>
 br (!b4) (
 some (.inr (0, [.b false]))) (
 some (.inl [.l (lL s1 0), .l (lL s1 1), .i (IntKind.wrap .i64 ((lI s1 2) + 1))]))) (
 some (.inr (1, [])))) [.l a, .l b, .i 0] fun (r5 : Nat × List Leaf) =>
 if r5.1 = 0 then
 k (lB r5.2 0)
 else
 k true)
def F69 : T69 := P69 F85 
def X69 : Exits := fun i => lookN i [] [(4, [(.ret, xk 27 [(4, .bool false)] []), (.exit 0, xk 27 [] [])])]
abbrev s69 : List (Bool × List CK) := [(false, [.sl 7 true]), (false, [.sl 7 true])]
def G69 (F : T69) (β : Type) (e : (List V × Unit) × (List V × Unit) × Unit) (k : V → Option β) : Option β := F β e.1.1 e.2.1.1 (fun y1 => k (.bool y1))
abbrev W69 (F : T69) : WT := wrap s69 (G69 F)
theorem k69 (F85 : T85) (β : Type) (e : argsT s69) (k : V → Option β) : fnK cfg (tabL [(85, W85 F85)]) X69 69 Try.f69 β (argsEnc s69 e) k = G69 (P69 F85 ) β e k := by kernel_rfl
theorem ok69 : FnOk D 69 (W69 F69) := fn_okW [(85, W85 F85)] X69 (fun _ => rfl) Try.func69 rfl (tabL_cons ok85 tabL_nil) (k69 F85 )

/-- laws.eqServer -/
abbrev T49 : Type 1 := (β : Type) → List UInt8 → List V → List UInt8 → List V → (Bool → Option β) → Option β
def P49 (F69 : T69) : T49 := fun β a_Host a_Files b_Host b_Files k =>
 br (!(a_Host == b_Host)) (
 k false) (
 F69 _ a_Files b_Files fun b1 =>
 br (!b1) (
 k false) (
 k true))
def F49 : T49 := P49 F69 
abbrev s49 : List (Bool × List CK) := [(true, [.str, .sl 7 true]), (true, [.str, .sl 7 true])]
def G49 (F : T49) (β : Type) (e : (List UInt8 × List V × Unit) × (List UInt8 × List V × Unit) × Unit) (k : V → Option β) : Option β := F β e.1.1 e.1.2.1 e.2.1.1 e.2.1.2.1 (fun y1 => k (.bool y1))
abbrev W49 (F : T49) : WT := wrap s49 (G49 F)
theorem k49 (F69 : T69) (β : Type) (e : argsT s49) (k : V → Option β) : fnK cfg (tabL [(69, W69 F69)]) noX 49 Try.f49 β (argsEnc s49 e) k = G49 (P49 F69 ) β e k := by kernel_rfl
theorem ok49 : FnOk D 49 (W49 F49) := fn_okW [(69, W69 F69)] noX (fun _ => rfl) Try.func49 rfl (tabL_cons ok69 tabL_nil) (k49 F69 )

/-- laws.eqServerS -/
abbrev T23 : Type 1 := (β : Type) → List V → List V → (Bool → Option β) → Option β
def P23 (F49 : T49) : T23 := fun β a b k =>
 br ((a.length : Int) != (b.length : Int)) (
 k false) (
 whileK (fun s1 =>
 br (decide ((lI s1 2) < ((lL s1 0).length : Int))) (
 chk (0 ≤ (lI s1 2)) <|
 idx true [.str, .sl 7 true] (lL s1 0) ((lI s1 2).toNat) fun (e2 : List UInt8 × List V × Unit) =>
 chk (0 ≤ (lI s1 2)) <|
 idx true [.str, .sl 7 true] (lL s1 1) ((lI s1 2).toNat) fun (e3 : List UInt8 × List V × Unit) =>
 F49 _ e2.1 e2.2.1 e3.1 e3.2.1 fun b4 =>
 br (!b4) (
 some (.inr (0, [.b false]))) (
 some (.inl [.l (lL s1 0), .l (lL s1 1), .i (IntKind.wrap .i64 ((lI s1 2) + 1))]))) (
 some (.inr (1, [])))) [.l a, .l b, .i 0] fun (r5 : Nat × List Leaf) =>
 if r5.1 = 0 then
 k (lB r5.2 0)
 else
 k true)
def F23 : T23 := P23 F49 
def X23 : Exits := fun i => lookN i [] [(4, [(.ret, xk 27 [(4, .bool false)] []), (.exit 0, xk 27 [] [])])]
abbrev s23 : List (Bool × List CK) := [(false, [.sl 2 false]), (false, [.sl 2 false])]
def G23 (F : T23) (β : Type) (e : (List V × Unit) × (List V × Unit) × Unit) (k : V → Option β) : Option β := F β e.1.1 e.2.1.1 (fun y1 => k (.bool y1))
abbrev W23 (F : T23) : WT := wrap s23 (G23 F)
theorem k23 (F49 : T49) (β : Type) (e : argsT s23) (k : V → Option β) : fnK cfg (tabL [(49, W49 F49)]) X23 23 Try.f23 β (argsEnc s23 e) k = G23 (P23 F49 ) β e k := by kernel_rfl
theorem ok23 : FnOk D 23 (W23 F23) := fn_okW [(49, W49 F49)] X23 (fun _ => rfl) Try.func23 rfl (tabL_cons ok49 tabL_nil) (k23 F49 )

/-- laws.eqAddr -/
abbrev T71 : Type 1 := (β : Type) → List UInt8 → List UInt8 → List UInt8 → List UInt8 → (Bool → Option β) → Option β
def P71 : T71 := fun β a_Host a_Path b_Host b_Path k =>
 br (!(a_Host == b_Host)) (
 k false) (
 br (!(a_Path == b_Path)) (
 k false) (
 k true))
def F71 : T71 := P71 
abbrev s71 : List (Bool × List CK) := [(true, [.str, .str]), (true, [.str, .str])]
def G71 (F : T71) (β : Type) (e : (List UInt8 × List UInt8 × Unit) × (List UInt8 × List UInt8 × Unit) × Unit) (k : V → Option β) : Option β := F β e.1.1 e.1.2.1 e.2.1.1 e.2.1.2.1 (fun y1 => k (.bool y1))
abbrev W71 (F : T71) : WT := wrap s71 (G71 F)
theorem k71 (β : Type) (e : argsT s71) (k : V → Option β) : fnK cfg (tabL []) noX 71 Try.f71 β (argsEnc s71 e) k = G71 (P71 ) β e k := by kernel_rfl
theorem ok71 : FnOk D 71 (W71 F71) := fn_okW [] noX (fun _ => rfl) Try.func71 rfl (tabL_nil) (k71 )

/-- laws.eqEntry -/
abbrev T70 : Type 1 := (β : Type) → List UInt8 → List UInt8 → List UInt8 → Int → Int → List UInt8 → Int → Bool → List UInt8 → Int → List UInt8 → List UInt8 → List UInt8 → Int → Int → List UInt8 → Int → Bool → List UInt8 → Int → (Bool → Option β) → Option β
def P70 (F71 : T71) (F86 : T86) : T70 := fun β a_Top a_To_Host a_To_Path a_Response_Status a_Response_Kind a_Response_Body a_Response_Age a_Response_Shares a_Response_Policy a_Until b_Top b_To_Host b_To_Path b_Response_Status b_Response_Kind b_Response_Body b_Response_Age b_Response_Shares b_Response_Policy b_Until k =>
 br (!(a_Top == b_Top)) (
 k false) (
 F71 _ a_To_Host a_To_Path b_To_Host b_To_Path fun b1 =>
 br (!b1) (
 k false) (
 F86 _ a_Response_Status a_Response_Kind a_Response_Body a_Response_Age a_Response_Shares a_Response_Policy b_Response_Status b_Response_Kind b_Response_Body b_Response_Age b_Response_Shares b_Response_Policy fun b2 =>
 br (!b2) (
 k false) (
 br (a_Until != b_Until) (
 k false) (
 k true))))
def F70 : T70 := P70 F71 F86 
abbrev s70 : List (Bool × List CK) := [(true, [.str, .str, .str, .int .i64, .int .i64, .str, .int .i64, .bool, .str, .int .i64]), (true, [.str, .str, .str, .int .i64, .int .i64, .str, .int .i64, .bool, .str, .int .i64])]
def G70 (F : T70) (β : Type) (e : (List UInt8 × List UInt8 × List UInt8 × Int × Int × List UInt8 × Int × Bool × List UInt8 × Int × Unit) × (List UInt8 × List UInt8 × List UInt8 × Int × Int × List UInt8 × Int × Bool × List UInt8 × Int × Unit) × Unit) (k : V → Option β) : Option β := let a0_0 := e.1; let a0_1 := a0_0.2; let a0_2 := a0_1.2; let a0_3 := a0_2.2; let a0_4 := a0_3.2; let a0_5 := a0_4.2; let a0_6 := a0_5.2; let a0_7 := a0_6.2; let a0_8 := a0_7.2; let a0_9 := a0_8.2; let a1_0 := e.2.1; let a1_1 := a1_0.2; let a1_2 := a1_1.2; let a1_3 := a1_2.2; let a1_4 := a1_3.2; let a1_5 := a1_4.2; let a1_6 := a1_5.2; let a1_7 := a1_6.2; let a1_8 := a1_7.2; let a1_9 := a1_8.2; F β a0_0.1 a0_1.1 a0_2.1 a0_3.1 a0_4.1 a0_5.1 a0_6.1 a0_7.1 a0_8.1 a0_9.1 a1_0.1 a1_1.1 a1_2.1 a1_3.1 a1_4.1 a1_5.1 a1_6.1 a1_7.1 a1_8.1 a1_9.1 (fun y1 => k (.bool y1))
abbrev W70 (F : T70) : WT := wrap s70 (G70 F)
theorem k70 (F71 : T71) (F86 : T86) (β : Type) (e : argsT s70) (k : V → Option β) : fnK cfg (tabL [(71, W71 F71), (86, W86 F86)]) noX 70 Try.f70 β (argsEnc s70 e) k = G70 (P70 F71 F86 ) β e k := by kernel_rfl
theorem ok70 : FnOk D 70 (W70 F70) := fn_okW [(71, W71 F71), (86, W86 F86)] noX (fun _ => rfl) Try.func70 rfl (tabL_cons ok71 (tabL_cons ok86 tabL_nil)) (k70 F71 F86 )

/-- laws.eqEntryS -/
abbrev T50 : Type 1 := (β : Type) → List V → List V → (Bool → Option β) → Option β
def P50 (F70 : T70) : T50 := fun β a b k =>
 br ((a.length : Int) != (b.length : Int)) (
 k false) (
 whileK (fun s1 =>
 br (decide ((lI s1 2) < ((lL s1 0).length : Int))) (
 chk (0 ≤ (lI s1 2)) <|
 idx true [.str, .str, .str, .int .i64, .int .i64, .str, .int .i64, .bool, .str, .int .i64] (lL s1 0) ((lI s1 2).toNat) fun (e2 : List UInt8 × List UInt8 × List UInt8 × Int × Int × List UInt8 × Int × Bool × List UInt8 × Int × Unit) =>
 chk (0 ≤ (lI s1 2)) <|
 idx true [.str, .str, .str, .int .i64, .int .i64, .str, .int .i64, .bool, .str, .int .i64] (lL s1 1) ((lI s1 2).toNat) fun (e3 : List UInt8 × List UInt8 × List UInt8 × Int × Int × List UInt8 × Int × Bool × List UInt8 × Int × Unit) =>
 F70 _ e2.1 e2.2.1 e2.2.2.1 e2.2.2.2.1 e2.2.2.2.2.1 e2.2.2.2.2.2.1 e2.2.2.2.2.2.2.1 e2.2.2.2.2.2.2.2.1 e2.2.2.2.2.2.2.2.2.1 e2.2.2.2.2.2.2.2.2.2.1 e3.1 e3.2.1 e3.2.2.1 e3.2.2.2.1 e3.2.2.2.2.1 e3.2.2.2.2.2.1 e3.2.2.2.2.2.2.1 e3.2.2.2.2.2.2.2.1 e3.2.2.2.2.2.2.2.2.1 e3.2.2.2.2.2.2.2.2.2.1 fun b4 =>
 br (!b4) (
 some (.inr (0, [.b false]))) (
 some (.inl [.l (lL s1 0), .l (lL s1 1), .i (IntKind.wrap .i64 ((lI s1 2) + 1))]))) (
 some (.inr (1, [])))) [.l a, .l b, .i 0] fun (r5 : Nat × List Leaf) =>
 if r5.1 = 0 then
 k (lB r5.2 0)
 else
 k true)
def F50 : T50 := P50 F70 
def X50 : Exits := fun i => lookN i [] [(4, [(.ret, xk 27 [(4, .bool false)] []), (.exit 0, xk 27 [] [])])]
abbrev s50 : List (Bool × List CK) := [(false, [.sl 10 true]), (false, [.sl 10 true])]
def G50 (F : T50) (β : Type) (e : (List V × Unit) × (List V × Unit) × Unit) (k : V → Option β) : Option β := F β e.1.1 e.2.1.1 (fun y1 => k (.bool y1))
abbrev W50 (F : T50) : WT := wrap s50 (G50 F)
theorem k50 (F70 : T70) (β : Type) (e : argsT s50) (k : V → Option β) : fnK cfg (tabL [(70, W70 F70)]) X50 50 Try.f50 β (argsEnc s50 e) k = G50 (P50 F70 ) β e k := by kernel_rfl
theorem ok50 : FnOk D 50 (W50 F50) := fn_okW [(70, W70 F70)] X50 (fun _ => rfl) Try.func50 rfl (tabL_cons ok70 tabL_nil) (k50 F70 )

/-- laws.eqCache -/
abbrev T24 : Type 1 := (β : Type) → List V → List V → (Bool → Option β) → Option β
def P24 (F50 : T50) : T24 := fun β a_Entries b_Entries k =>
 F50 _ a_Entries b_Entries fun b1 =>
 br (!b1) (
 k false) (
 k true)
def F24 : T24 := P24 F50 
abbrev s24 : List (Bool × List CK) := [(true, [.sl 10 true]), (true, [.sl 10 true])]
def G24 (F : T24) (β : Type) (e : (List V × Unit) × (List V × Unit) × Unit) (k : V → Option β) : Option β := F β e.1.1 e.2.1.1 (fun y1 => k (.bool y1))
abbrev W24 (F : T24) : WT := wrap s24 (G24 F)
theorem k24 (F50 : T50) (β : Type) (e : argsT s24) (k : V → Option β) : fnK cfg (tabL [(50, W50 F50)]) noX 24 Try.f24 β (argsEnc s24 e) k = G24 (P24 F50 ) β e k := by kernel_rfl
theorem ok24 : FnOk D 24 (W24 F24) := fn_okW [(50, W50 F50)] noX (fun _ => rfl) Try.func24 rfl (tabL_cons ok50 tabL_nil) (k24 F50 )

/-- laws.eqSent -/
abbrev T51 : Type 1 := (β : Type) → List UInt8 → List UInt8 → List UInt8 → Bool → List UInt8 → List UInt8 → List UInt8 → Bool → (Bool → Option β) → Option β
def P51 (F71 : T71) : T51 := fun β a_Top a_To_Host a_To_Path a_Guess b_Top b_To_Host b_To_Path b_Guess k =>
 br (!(a_Top == b_Top)) (
 k false) (
 F71 _ a_To_Host a_To_Path b_To_Host b_To_Path fun b1 =>
 br (!b1) (
 k false) (
 br (!(a_Guess == b_Guess)) (
 k false) (
 k true)))
def F51 : T51 := P51 F71 
abbrev s51 : List (Bool × List CK) := [(true, [.str, .str, .str, .bool]), (true, [.str, .str, .str, .bool])]
def G51 (F : T51) (β : Type) (e : (List UInt8 × List UInt8 × List UInt8 × Bool × Unit) × (List UInt8 × List UInt8 × List UInt8 × Bool × Unit) × Unit) (k : V → Option β) : Option β := F β e.1.1 e.1.2.1 e.1.2.2.1 e.1.2.2.2.1 e.2.1.1 e.2.1.2.1 e.2.1.2.2.1 e.2.1.2.2.2.1 (fun y1 => k (.bool y1))
abbrev W51 (F : T51) : WT := wrap s51 (G51 F)
theorem k51 (F71 : T71) (β : Type) (e : argsT s51) (k : V → Option β) : fnK cfg (tabL [(71, W71 F71)]) noX 51 Try.f51 β (argsEnc s51 e) k = G51 (P51 F71 ) β e k := by kernel_rfl
theorem ok51 : FnOk D 51 (W51 F51) := fn_okW [(71, W71 F71)] noX (fun _ => rfl) Try.func51 rfl (tabL_cons ok71 tabL_nil) (k51 F71 )

/-- laws.eqSentS -/
abbrev T25 : Type 1 := (β : Type) → List V → List V → (Bool → Option β) → Option β
def P25 (F51 : T51) : T25 := fun β a b k =>
 br ((a.length : Int) != (b.length : Int)) (
 k false) (
 whileK (fun s1 =>
 br (decide ((lI s1 2) < ((lL s1 0).length : Int))) (
 chk (0 ≤ (lI s1 2)) <|
 idx true [.str, .str, .str, .bool] (lL s1 0) ((lI s1 2).toNat) fun (e2 : List UInt8 × List UInt8 × List UInt8 × Bool × Unit) =>
 chk (0 ≤ (lI s1 2)) <|
 idx true [.str, .str, .str, .bool] (lL s1 1) ((lI s1 2).toNat) fun (e3 : List UInt8 × List UInt8 × List UInt8 × Bool × Unit) =>
 F51 _ e2.1 e2.2.1 e2.2.2.1 e2.2.2.2.1 e3.1 e3.2.1 e3.2.2.1 e3.2.2.2.1 fun b4 =>
 br (!b4) (
 some (.inr (0, [.b false]))) (
 some (.inl [.l (lL s1 0), .l (lL s1 1), .i (IntKind.wrap .i64 ((lI s1 2) + 1))]))) (
 some (.inr (1, [])))) [.l a, .l b, .i 0] fun (r5 : Nat × List Leaf) =>
 if r5.1 = 0 then
 k (lB r5.2 0)
 else
 k true)
def F25 : T25 := P25 F51 
def X25 : Exits := fun i => lookN i [] [(4, [(.ret, xk 27 [(4, .bool false)] []), (.exit 0, xk 27 [] [])])]
abbrev s25 : List (Bool × List CK) := [(false, [.sl 4 true]), (false, [.sl 4 true])]
def G25 (F : T25) (β : Type) (e : (List V × Unit) × (List V × Unit) × Unit) (k : V → Option β) : Option β := F β e.1.1 e.2.1.1 (fun y1 => k (.bool y1))
abbrev W25 (F : T25) : WT := wrap s25 (G25 F)
theorem k25 (F51 : T51) (β : Type) (e : argsT s25) (k : V → Option β) : fnK cfg (tabL [(51, W51 F51)]) X25 25 Try.f25 β (argsEnc s25 e) k = G25 (P25 F51 ) β e k := by kernel_rfl
theorem ok25 : FnOk D 25 (W25 F25) := fn_okW [(51, W51 F51)] X25 (fun _ => rfl) Try.func25 rfl (tabL_cons ok51 tabL_nil) (k25 F51 )

/-- laws.eqNet -/
abbrev T9 : Type 1 := (β : Type) → List V → List V → List V → Int → List V → List V → List V → Int → (Bool → Option β) → Option β
def P9 (F23 : T23) (F24 : T24) (F25 : T25) : T9 := fun β a_Servers a_Cache_Entries a_Log a_Now b_Servers b_Cache_Entries b_Log b_Now k =>
 F23 _ a_Servers b_Servers fun b1 =>
 br (!b1) (
 k false) (
 F24 _ a_Cache_Entries b_Cache_Entries fun b2 =>
 br (!b2) (
 k false) (
 F25 _ a_Log b_Log fun b3 =>
 br (!b3) (
 k false) (
 br (a_Now != b_Now) (
 k false) (
 k true))))
def F9 : T9 := P9 F23 F24 F25 
abbrev s9 : List (Bool × List CK) := [(true, [.sl 2 false, .sl 10 true, .sl 4 true, .int .i64]), (true, [.sl 2 false, .sl 10 true, .sl 4 true, .int .i64])]
def G9 (F : T9) (β : Type) (e : (List V × List V × List V × Int × Unit) × (List V × List V × List V × Int × Unit) × Unit) (k : V → Option β) : Option β := F β e.1.1 e.1.2.1 e.1.2.2.1 e.1.2.2.2.1 e.2.1.1 e.2.1.2.1 e.2.1.2.2.1 e.2.1.2.2.2.1 (fun y1 => k (.bool y1))
abbrev W9 (F : T9) : WT := wrap s9 (G9 F)
theorem k9 (F23 : T23) (F24 : T24) (F25 : T25) (β : Type) (e : argsT s9) (k : V → Option β) : fnK cfg (tabL [(23, W23 F23), (24, W24 F24), (25, W25 F25)]) noX 9 Try.f9 β (argsEnc s9 e) k = G9 (P9 F23 F24 F25 ) β e k := by kernel_rfl
theorem ok9 : FnOk D 9 (W9 F9) := fn_okW [(23, W23 F23), (24, W24 F24), (25, W25 F25)] noX (fun _ => rfl) Try.func9 rfl (tabL_cons ok23 (tabL_cons ok24 (tabL_cons ok25 tabL_nil))) (k9 F23 F24 F25 )

/-- laws.FnExactViewText -/
abbrev T3 : Type 1 := (β : Type) → List V → List V → List V → Int → List UInt8 → (Bool → Option β) → Option β
def P3 (F5 : T5) (F7 : T7) (F6 : T6) (F8 : T8) (F9 : T9) : T3 := fun β aN_Servers aN_Cache_Entries aN_Log aN_Now aHost k =>
 br (decide ((aHost.length : Int) > 1048576)) (
 k true) (
 F5 _ aN_Servers aN_Cache_Entries aN_Log aN_Now 1048576 fun n1 =>
 br (decide (n1 < 0)) (
 k true) (
 F7 _ aN_Servers aN_Cache_Entries aN_Log aN_Now fun l2 l3 l4 n5 =>
 F6 _ l2 l3 l4 n5 aHost fun t6 =>
 F7 _ aN_Servers aN_Cache_Entries aN_Log aN_Now fun l7 l8 l9 n10 =>
 F8 _ l7 l8 l9 n10 aHost fun t11 =>
 br (!(t11 == t6)) (
 k false) (
 F7 _ aN_Servers aN_Cache_Entries aN_Log aN_Now fun l12 l13 l14 n15 =>
 F9 _ l7 l8 l9 n10 l12 l13 l14 n15 fun b16 =>
 br (!b16) (
 k false) (
 k true))))
def F3 : T3 := P3 F5 F7 F6 F8 F9 
abbrev s3 : List (Bool × List CK) := [(true, [.sl 2 false, .sl 10 true, .sl 4 true, .int .i64]), (false, [.str])]
def G3 (F : T3) (β : Type) (e : (List V × List V × List V × Int × Unit) × (List UInt8 × Unit) × Unit) (k : V → Option β) : Option β := F β e.1.1 e.1.2.1 e.1.2.2.1 e.1.2.2.2.1 e.2.1.1 (fun y1 => k (.bool y1))
abbrev W3 (F : T3) : WT := wrap s3 (G3 F)
theorem k3 (F5 : T5) (F7 : T7) (F6 : T6) (F8 : T8) (F9 : T9) (β : Type) (e : argsT s3) (k : V → Option β) : fnK cfg (tabL [(5, W5 F5), (7, W7 F7), (6, W6 F6), (8, W8 F8), (9, W9 F9)]) noX 3 Try.f3 β (argsEnc s3 e) k = G3 (P3 F5 F7 F6 F8 F9 ) β e k := by kernel_rfl
theorem ok3 : FnOk D 3 (W3 F3) := fn_okW [(5, W5 F5), (7, W7 F7), (6, W6 F6), (8, W8 F8), (9, W9 F9)] noX (fun _ => rfl) Try.func3 rfl (tabL_cons ok5 (tabL_cons ok7 (tabL_cons ok6 (tabL_cons ok8 (tabL_cons ok9 tabL_nil))))) (k3 F5 F7 F6 F8 F9 )

end
end Go.Am

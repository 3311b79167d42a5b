/-
  Functions of the program, extracted by program (sym.py) out of their code: what each computes, and, by the kernel's reckoning, that the machine's looking form computes just that; so what the machine answers.
-/
import Derived.Test.YtlgbgnlpbnhhfaaGreatAmCfg
import Derived.Test.YtlgbgnlpbnhhfaaGreatAmEvOk2
import Derived.KernelRfl
set_option maxRecDepth 10000
set_option linter.unusedVariables false
namespace Go.Am
open Go Go.Proofs
noncomputable section
abbrev WT : Type 1 := (β : Type) → List V → (V → Option β) → Option β
/-- laws.szResponse -/
abbrev T160 : Type 1 := (β : Type) → Int → Int → List UInt8 → Int → Bool → List UInt8 → Int → (Int → Option β) → Option β
def P160 : T160 := fun β a_Status a_Kind a_Body a_Age a_Shares a_Policy left k =>
 br (decide (IntKind.wrap .i64 (left - (a_Body.length : Int)) < 0)) (
 k (-1)) (
 br (decide (IntKind.wrap .i64 ((IntKind.wrap .i64 (left - (a_Body.length : Int))) - (a_Policy.length : Int)) < 0)) (
 k (-1)) (
 k (IntKind.wrap .i64 ((IntKind.wrap .i64 (left - (a_Body.length : Int))) - (a_Policy.length : Int)))))
def F160 : T160 := P160 
abbrev s160 : List (Bool × List CK) := [(true, [.int .i64, .int .i64, .str, .int .i64, .bool, .str]), (false, [.int .i64])]
def G160 (F : T160) (β : Type) (e : (Int × Int × List UInt8 × Int × Bool × List UInt8 × Unit) × (Int × Unit) × Unit) (k : V → Option β) : Option β := let a0_0 := e.1; let a0_1 := a0_0.2; let a0_2 := a0_1.2; let a0_3 := a0_2.2; let a0_4 := a0_3.2; let a0_5 := a0_4.2; F β a0_0.1 a0_1.1 a0_2.1 a0_3.1 a0_4.1 a0_5.1 e.2.1.1 (fun y1 => k (.int .i64 y1))
abbrev W160 (F : T160) : WT := wrap s160 (G160 F)
theorem k160 (β : Type) (e : argsT s160) (k : V → Option β) : fnK cfg (tabL []) noX 160 Tryz.f160 β (argsEnc s160 e) k = G160 (P160 ) β e k := by kernel_rfl
theorem ok160 : FnOk D 160 (W160 F160) := fn_okW [] noX (fun _ => rfl) Tryz.func160 rfl (tabL_nil) (k160 )

/-- laws.szFile -/
abbrev T189 : Type 1 := (β : Type) → List UInt8 → Int → Int → List UInt8 → Int → Bool → List UInt8 → Int → (Int → Option β) → Option β
def P189 (F160 : T160) : T189 := fun β a_Path a_Response_Status a_Response_Kind a_Response_Body a_Response_Age a_Response_Shares a_Response_Policy left k =>
 br (decide (IntKind.wrap .i64 (left - (a_Path.length : Int)) < 0)) (
 k (-1)) (
 F160 _ a_Response_Status a_Response_Kind a_Response_Body a_Response_Age a_Response_Shares a_Response_Policy (IntKind.wrap .i64 (left - (a_Path.length : Int))) fun n1 =>
 br (decide (n1 < 0)) (
 k (-1)) (
 k n1))
def F189 : T189 := P189 F160 
abbrev s189 : List (Bool × List CK) := [(true, [.str, .int .i64, .int .i64, .str, .int .i64, .bool, .str]), (false, [.int .i64])]
def G189 (F : T189) (β : Type) (e : (List UInt8 × Int × Int × List UInt8 × Int × Bool × List UInt8 × Unit) × (Int × Unit) × Unit) (k : V → Option β) : Option β := let a0_0 := e.1; let a0_1 := a0_0.2; let a0_2 := a0_1.2; let a0_3 := a0_2.2; let a0_4 := a0_3.2; let a0_5 := a0_4.2; let a0_6 := a0_5.2; F β a0_0.1 a0_1.1 a0_2.1 a0_3.1 a0_4.1 a0_5.1 a0_6.1 e.2.1.1 (fun y1 => k (.int .i64 y1))
abbrev W189 (F : T189) : WT := wrap s189 (G189 F)
theorem k189 (F160 : T160) (β : Type) (e : argsT s189) (k : V → Option β) : fnK cfg (tabL [(160, W160 F160)]) noX 189 Tryz.f189 β (argsEnc s189 e) k = G189 (P189 F160 ) β e k := by kernel_rfl
theorem ok189 : FnOk D 189 (W189 F189) := fn_okW [(160, W160 F160)] noX (fun _ => rfl) Tryz.func189 rfl (tabL_cons ok160 tabL_nil) (k189 F160 )

/-- laws.szFileS -/
abbrev T161 : Type 1 := (β : Type) → List V → Int → (Int → Option β) → Option β
def P161 (F189 : T189) : T161 := fun β a left k =>
 br (decide (IntKind.wrap .i64 (left - (a.length : Int)) < 0)) (
 k (-1)) (
 whileK (fun s1 =>
 br (decide ((lI s1 2) < ((lL s1 0).length : Int))) (
 chk (0 ≤ (lI s1 2)) <|
 idx true [.str, .int .i64, .int .i64, .str, .int .i64, .bool, .str] (lL s1 0) ((lI s1 2).toNat) fun (e2 : List UInt8 × Int × Int × List UInt8 × Int × Bool × List UInt8 × Unit) =>
 F189 _ e2.1 e2.2.1 e2.2.2.1 e2.2.2.2.1 e2.2.2.2.2.1 e2.2.2.2.2.2.1 e2.2.2.2.2.2.2.1 (lI s1 1) fun n3 =>
 br (decide (n3 < 0)) (
 some (.inr (0, [.i n3, .i (-1)]))) (
 some (.inl [.l (lL s1 0), .i n3, .i (IntKind.wrap .i64 ((lI s1 2) + 1))]))) (
 some (.inr (1, [.i (lI s1 1)])))) [.l a, .i (IntKind.wrap .i64 (left - (a.length : Int))), .i 0] fun (r4 : Nat × List Leaf) =>
 if r4.1 = 0 then
 k (lI r4.2 1)
 else
 k (lI r4.2 0))
def F161 : T161 := P161 F189 
def X161 : Exits := fun i => lookN i [] [(5, [(.ret, xk 27 [(1, .int .i64 0), (4, .int .i64 0)] []), (.exit 0, xk 27 [(1, .int .i64 0)] [])])]
abbrev s161 : List (Bool × List CK) := [(false, [.sl 7 true]), (false, [.int .i64])]
def G161 (F : T161) (β : Type) (e : (List V × Unit) × (Int × Unit) × Unit) (k : V → Option β) : Option β := F β e.1.1 e.2.1.1 (fun y1 => k (.int .i64 y1))
abbrev W161 (F : T161) : WT := wrap s161 (G161 F)
theorem k161 (F189 : T189) (β : Type) (e : argsT s161) (k : V → Option β) : fnK cfg (tabL [(189, W189 F189)]) X161 161 Tryz.f161 β (argsEnc s161 e) k = G161 (P161 F189 ) β e k := by kernel_rfl
theorem ok161 : FnOk D 161 (W161 F161) := fn_okW [(189, W189 F189)] X161 (fun _ => rfl) Tryz.func161 rfl (tabL_cons ok189 tabL_nil) (k161 F189 )

/-- laws.szServer -/
abbrev T99 : Type 1 := (β : Type) → List UInt8 → List V → Int → (Int → Option β) → Option β
def P99 (F161 : T161) : T99 := fun β a_Host a_Files left k =>
 br (decide (IntKind.wrap .i64 (left - (a_Host.length : Int)) < 0)) (
 k (-1)) (
 F161 _ a_Files (IntKind.wrap .i64 (left - (a_Host.length : Int))) fun n1 =>
 br (decide (n1 < 0)) (
 k (-1)) (
 k n1))
def F99 : T99 := P99 F161 
abbrev s99 : List (Bool × List CK) := [(true, [.str, .sl 7 true]), (false, [.int .i64])]
def G99 (F : T99) (β : Type) (e : (List UInt8 × List V × Unit) × (Int × Unit) × Unit) (k : V → Option β) : Option β := F β e.1.1 e.1.2.1 e.2.1.1 (fun y1 => k (.int .i64 y1))
abbrev W99 (F : T99) : WT := wrap s99 (G99 F)
theorem k99 (F161 : T161) (β : Type) (e : argsT s99) (k : V → Option β) : fnK cfg (tabL [(161, W161 F161)]) noX 99 Tryz.f99 β (argsEnc s99 e) k = G99 (P99 F161 ) β e k := by kernel_rfl
theorem ok99 : FnOk D 99 (W99 F99) := fn_okW [(161, W161 F161)] noX (fun _ => rfl) Tryz.func99 rfl (tabL_cons ok161 tabL_nil) (k99 F161 )

/-- laws.szServerS -/
abbrev T34 : Type 1 := (β : Type) → List V → Int → (Int → Option β) → Option β
def P34 (F99 : T99) : T34 := fun β a left k =>
 br (decide (IntKind.wrap .i64 (left - (a.length : Int)) < 0)) (
 k (-1)) (
 whileK (fun s1 =>
 br (decide ((lI s1 2) < ((lL s1 0).length : Int))) (
 chk (0 ≤ (lI s1 2)) <|
 idx true [.str, .sl 7 true] (lL s1 0) ((lI s1 2).toNat) fun (e2 : List UInt8 × List V × Unit) =>
 F99 _ e2.1 e2.2.1 (lI s1 1) fun n3 =>
 br (decide (n3 < 0)) (
 some (.inr (0, [.i n3, .i (-1)]))) (
 some (.inl [.l (lL s1 0), .i n3, .i (IntKind.wrap .i64 ((lI s1 2) + 1))]))) (
 some (.inr (1, [.i (lI s1 1)])))) [.l a, .i (IntKind.wrap .i64 (left - (a.length : Int))), .i 0] fun (r4 : Nat × List Leaf) =>
 if r4.1 = 0 then
 k (lI r4.2 1)
 else
 k (lI r4.2 0))
def F34 : T34 := P34 F99 
def X34 : Exits := fun i => lookN i [] [(5, [(.ret, xk 27 [(1, .int .i64 0), (4, .int .i64 0)] []), (.exit 0, xk 27 [(1, .int .i64 0)] [])])]
abbrev s34 : List (Bool × List CK) := [(false, [.sl 2 false]), (false, [.int .i64])]
def G34 (F : T34) (β : Type) (e : (List V × Unit) × (Int × Unit) × Unit) (k : V → Option β) : Option β := F β e.1.1 e.2.1.1 (fun y1 => k (.int .i64 y1))
abbrev W34 (F : T34) : WT := wrap s34 (G34 F)
theorem k34 (F99 : T99) (β : Type) (e : argsT s34) (k : V → Option β) : fnK cfg (tabL [(99, W99 F99)]) X34 34 Tryz.f34 β (argsEnc s34 e) k = G34 (P34 F99 ) β e k := by kernel_rfl
theorem ok34 : FnOk D 34 (W34 F34) := fn_okW [(99, W99 F99)] X34 (fun _ => rfl) Tryz.func34 rfl (tabL_cons ok99 tabL_nil) (k34 F99 )

/-- laws.szAddr -/
abbrev T50 : Type 1 := (β : Type) → List UInt8 → List UInt8 → Int → (Int → Option β) → Option β
def P50 : T50 := fun β a_Host a_Path left k =>
 br (decide (IntKind.wrap .i64 (left - (a_Host.length : Int)) < 0)) (
 k (-1)) (
 br (decide (IntKind.wrap .i64 ((IntKind.wrap .i64 (left - (a_Host.length : Int))) - (a_Path.length : Int)) < 0)) (
 k (-1)) (
 k (IntKind.wrap .i64 ((IntKind.wrap .i64 (left - (a_Host.length : Int))) - (a_Path.length : Int)))))
def F50 : T50 := P50 
abbrev s50 : List (Bool × List CK) := [(true, [.str, .str]), (false, [.int .i64])]
def G50 (F : T50) (β : Type) (e : (List UInt8 × List UInt8 × Unit) × (Int × Unit) × Unit) (k : V → Option β) : Option β := F β e.1.1 e.1.2.1 e.2.1.1 (fun y1 => k (.int .i64 y1))
abbrev W50 (F : T50) : WT := wrap s50 (G50 F)
theorem k50 (β : Type) (e : argsT s50) (k : V → Option β) : fnK cfg (tabL []) noX 50 Tryz.f50 β (argsEnc s50 e) k = G50 (P50 ) β e k := by kernel_rfl
theorem ok50 : FnOk D 50 (W50 F50) := fn_okW [] noX (fun _ => rfl) Tryz.func50 rfl (tabL_nil) (k50 )

/-- laws.szEntry -/
abbrev T174 : Type 1 := (β : Type) → List UInt8 → List UInt8 → List UInt8 → Int → Int → List UInt8 → Int → Bool → List UInt8 → Int → Int → (Int → Option β) → Option β
def P174 (F50 : T50) (F160 : T160) : T174 := fun β a_Top a_To_Host a_To_Path a_Response_Status a_Response_Kind a_Response_Body a_Response_Age a_Response_Shares a_Response_Policy a_Until left k =>
 br (decide (IntKind.wrap .i64 (left - (a_Top.length : Int)) < 0)) (
 k (-1)) (
 F50 _ a_To_Host a_To_Path (IntKind.wrap .i64 (left - (a_Top.length : Int))) fun n1 =>
 br (decide (n1 < 0)) (
 k (-1)) (
 F160 _ a_Response_Status a_Response_Kind a_Response_Body a_Response_Age a_Response_Shares a_Response_Policy n1 fun n2 =>
 br (decide (n2 < 0)) (
 k (-1)) (
 k n2)))
def F174 : T174 := P174 F50 F160 
abbrev s174 : List (Bool × List CK) := [(true, [.str, .str, .str, .int .i64, .int .i64, .str, .int .i64, .bool, .str, .int .i64]), (false, [.int .i64])]
def G174 (F : T174) (β : Type) (e : (List UInt8 × List UInt8 × List UInt8 × Int × Int × List UInt8 × Int × Bool × List UInt8 × Int × Unit) × (Int × Unit) × Unit) (k : V → Option β) : Option β := let a0_0 := e.1; let a0_1 := a0_0.2; let a0_2 := a0_1.2; let a0_3 := a0_2.2; let a0_4 := a0_3.2; let a0_5 := a0_4.2; let a0_6 := a0_5.2; let a0_7 := a0_6.2; let a0_8 := a0_7.2; let a0_9 := a0_8.2; F β a0_0.1 a0_1.1 a0_2.1 a0_3.1 a0_4.1 a0_5.1 a0_6.1 a0_7.1 a0_8.1 a0_9.1 e.2.1.1 (fun y1 => k (.int .i64 y1))
abbrev W174 (F : T174) : WT := wrap s174 (G174 F)
theorem k174 (F50 : T50) (F160 : T160) (β : Type) (e : argsT s174) (k : V → Option β) : fnK cfg (tabL [(50, W50 F50), (160, W160 F160)]) noX 174 Tryz.f174 β (argsEnc s174 e) k = G174 (P174 F50 F160 ) β e k := by kernel_rfl
theorem ok174 : FnOk D 174 (W174 F174) := fn_okW [(50, W50 F50), (160, W160 F160)] noX (fun _ => rfl) Tryz.func174 rfl (tabL_cons ok50 (tabL_cons ok160 tabL_nil)) (k174 F50 F160 )

/-- laws.szEntryS -/
abbrev T121 : Type 1 := (β : Type) → List V → Int → (Int → Option β) → Option β
def P121 (F174 : T174) : T121 := fun β a left k =>
 br (decide (IntKind.wrap .i64 (left - (a.length : Int)) < 0)) (
 k (-1)) (
 whileK (fun s1 =>
 br (decide ((lI s1 2) < ((lL s1 0).length : Int))) (
 chk (0 ≤ (lI s1 2)) <|
 idx true [.str, .str, .str, .int .i64, .int .i64, .str, .int .i64, .bool, .str, .int .i64] (lL s1 0) ((lI s1 2).toNat) fun (e2 : List UInt8 × List UInt8 × List UInt8 × Int × Int × List UInt8 × Int × Bool × List UInt8 × Int × Unit) =>
 F174 _ e2.1 e2.2.1 e2.2.2.1 e2.2.2.2.1 e2.2.2.2.2.1 e2.2.2.2.2.2.1 e2.2.2.2.2.2.2.1 e2.2.2.2.2.2.2.2.1 e2.2.2.2.2.2.2.2.2.1 e2.2.2.2.2.2.2.2.2.2.1 (lI s1 1) fun n3 =>
 br (decide (n3 < 0)) (
 some (.inr (0, [.i n3, .i (-1)]))) (
 some (.inl [.l (lL s1 0), .i n3, .i (IntKind.wrap .i64 ((lI s1 2) + 1))]))) (
 some (.inr (1, [.i (lI s1 1)])))) [.l a, .i (IntKind.wrap .i64 (left - (a.length : Int))), .i 0] fun (r4 : Nat × List Leaf) =>
 if r4.1 = 0 then
 k (lI r4.2 1)
 else
 k (lI r4.2 0))
def F121 : T121 := P121 F174 
def X121 : Exits := fun i => lookN i [] [(5, [(.ret, xk 27 [(1, .int .i64 0), (4, .int .i64 0)] []), (.exit 0, xk 27 [(1, .int .i64 0)] [])])]
abbrev s121 : List (Bool × List CK) := [(false, [.sl 10 true]), (false, [.int .i64])]
def G121 (F : T121) (β : Type) (e : (List V × Unit) × (Int × Unit) × Unit) (k : V → Option β) : Option β := F β e.1.1 e.2.1.1 (fun y1 => k (.int .i64 y1))
abbrev W121 (F : T121) : WT := wrap s121 (G121 F)
theorem k121 (F174 : T174) (β : Type) (e : argsT s121) (k : V → Option β) : fnK cfg (tabL [(174, W174 F174)]) X121 121 Tryz.f121 β (argsEnc s121 e) k = G121 (P121 F174 ) β e k := by kernel_rfl
theorem ok121 : FnOk D 121 (W121 F121) := fn_okW [(174, W174 F174)] X121 (fun _ => rfl) Tryz.func121 rfl (tabL_cons ok174 tabL_nil) (k121 F174 )

/-- laws.szCache -/
abbrev T44 : Type 1 := (β : Type) → List V → Int → (Int → Option β) → Option β
def P44 (F121 : T121) : T44 := fun β a_Entries left k =>
 F121 _ a_Entries left fun n1 =>
 br (decide (n1 < 0)) (
 k (-1)) (
 k n1)
def F44 : T44 := P44 F121 
abbrev s44 : List (Bool × List CK) := [(true, [.sl 10 true]), (false, [.int .i64])]
def G44 (F : T44) (β : Type) (e : (List V × Unit) × (Int × Unit) × Unit) (k : V → Option β) : Option β := F β e.1.1 e.2.1.1 (fun y1 => k (.int .i64 y1))
abbrev W44 (F : T44) : WT := wrap s44 (G44 F)
theorem k44 (F121 : T121) (β : Type) (e : argsT s44) (k : V → Option β) : fnK cfg (tabL [(121, W121 F121)]) noX 44 Tryz.f44 β (argsEnc s44 e) k = G44 (P44 F121 ) β e k := by kernel_rfl
theorem ok44 : FnOk D 44 (W44 F44) := fn_okW [(121, W121 F121)] noX (fun _ => rfl) Tryz.func44 rfl (tabL_cons ok121 tabL_nil) (k44 F121 )

/-- laws.szSent -/
abbrev T122 : Type 1 := (β : Type) → List UInt8 → List UInt8 → List UInt8 → Bool → Int → (Int → Option β) → Option β
def P122 (F50 : T50) : T122 := fun β a_Top a_To_Host a_To_Path a_Guess left k =>
 br (decide (IntKind.wrap .i64 (left - (a_Top.length : Int)) < 0)) (
 k (-1)) (
 F50 _ a_To_Host a_To_Path (IntKind.wrap .i64 (left - (a_Top.length : Int))) fun n1 =>
 br (decide (n1 < 0)) (
 k (-1)) (
 k n1))
def F122 : T122 := P122 F50 
abbrev s122 : List (Bool × List CK) := [(true, [.str, .str, .str, .bool]), (false, [.int .i64])]
def G122 (F : T122) (β : Type) (e : (List UInt8 × List UInt8 × List UInt8 × Bool × Unit) × (Int × Unit) × Unit) (k : V → Option β) : Option β := F β e.1.1 e.1.2.1 e.1.2.2.1 e.1.2.2.2.1 e.2.1.1 (fun y1 => k (.int .i64 y1))
abbrev W122 (F : T122) : WT := wrap s122 (G122 F)
theorem k122 (F50 : T50) (β : Type) (e : argsT s122) (k : V → Option β) : fnK cfg (tabL [(50, W50 F50)]) noX 122 Tryz.f122 β (argsEnc s122 e) k = G122 (P122 F50 ) β e k := by kernel_rfl
theorem ok122 : FnOk D 122 (W122 F122) := fn_okW [(50, W50 F50)] noX (fun _ => rfl) Tryz.func122 rfl (tabL_cons ok50 tabL_nil) (k122 F50 )

/-- laws.szSentS -/
abbrev T45 : Type 1 := (β : Type) → List V → Int → (Int → Option β) → Option β
def P45 (F122 : T122) : T45 := fun β a left k =>
 br (decide (IntKind.wrap .i64 (left - (a.length : Int)) < 0)) (
 k (-1)) (
 whileK (fun s1 =>
 br (decide ((lI s1 2) < ((lL s1 0).length : Int))) (
 chk (0 ≤ (lI s1 2)) <|
 idx true [.str, .str, .str, .bool] (lL s1 0) ((lI s1 2).toNat) fun (e2 : List UInt8 × List UInt8 × List UInt8 × Bool × Unit) =>
 F122 _ e2.1 e2.2.1 e2.2.2.1 e2.2.2.2.1 (lI s1 1) fun n3 =>
 br (decide (n3 < 0)) (
 some (.inr (0, [.i n3, .i (-1)]))) (
 some (.inl [.l (lL s1 0), .i n3, .i (IntKind.wrap .i64 ((lI s1 2) + 1))]))) (
 some (.inr (1, [.i (lI s1 1)])))) [.l a, .i (IntKind.wrap .i64 (left - (a.length : Int))), .i 0] fun (r4 : Nat × List Leaf) =>
 if r4.1 = 0 then
 k (lI r4.2 1)
 else
 k (lI r4.2 0))
def F45 : T45 := P45 F122 
def X45 : Exits := fun i => lookN i [] [(5, [(.ret, xk 27 [(1, .int .i64 0), (4, .int .i64 0)] []), (.exit 0, xk 27 [(1, .int .i64 0)] [])])]
abbrev s45 : List (Bool × List CK) := [(false, [.sl 4 true]), (false, [.int .i64])]
def G45 (F : T45) (β : Type) (e : (List V × Unit) × (Int × Unit) × Unit) (k : V → Option β) : Option β := F β e.1.1 e.2.1.1 (fun y1 => k (.int .i64 y1))
abbrev W45 (F : T45) : WT := wrap s45 (G45 F)
theorem k45 (F122 : T122) (β : Type) (e : argsT s45) (k : V → Option β) : fnK cfg (tabL [(122, W122 F122)]) X45 45 Tryz.f45 β (argsEnc s45 e) k = G45 (P45 F122 ) β e k := by kernel_rfl
theorem ok45 : FnOk D 45 (W45 F45) := fn_okW [(122, W122 F122)] X45 (fun _ => rfl) Tryz.func45 rfl (tabL_cons ok122 tabL_nil) (k45 F122 )

/-- laws.szNet -/
abbrev T13 : Type 1 := (β : Type) → List V → List V → List V → Int → Int → (Int → Option β) → Option β
def P13 (F34 : T34) (F44 : T44) (F45 : T45) : T13 := fun β a_Servers a_Cache_Entries a_Log a_Now left k =>
 F34 _ a_Servers left fun n1 =>
 br (decide (n1 < 0)) (
 k (-1)) (
 F44 _ a_Cache_Entries n1 fun n2 =>
 br (decide (n2 < 0)) (
 k (-1)) (
 F45 _ a_Log n2 fun n3 =>
 br (decide (n3 < 0)) (
 k (-1)) (
 k n3)))
def F13 : T13 := P13 F34 F44 F45 
abbrev s13 : List (Bool × List CK) := [(true, [.sl 2 false, .sl 10 true, .sl 4 true, .int .i64]), (false, [.int .i64])]
def G13 (F : T13) (β : Type) (e : (List V × List V × List V × Int × Unit) × (Int × Unit) × Unit) (k : V → Option β) : Option β := F β e.1.1 e.1.2.1 e.1.2.2.1 e.1.2.2.2.1 e.2.1.1 (fun y1 => k (.int .i64 y1))
abbrev W13 (F : T13) : WT := wrap s13 (G13 F)
theorem k13 (F34 : T34) (F44 : T44) (F45 : T45) (β : Type) (e : argsT s13) (k : V → Option β) : fnK cfg (tabL [(34, W34 F34), (44, W44 F44), (45, W45 F45)]) noX 13 Tryz.f13 β (argsEnc s13 e) k = G13 (P13 F34 F44 F45 ) β e k := by kernel_rfl
theorem ok13 : FnOk D 13 (W13 F13) := fn_okW [(34, W34 F34), (44, W44 F44), (45, W45 F45)] noX (fun _ => rfl) Tryz.func13 rfl (tabL_cons ok34 (tabL_cons ok44 (tabL_cons ok45 tabL_nil))) (k13 F34 F44 F45 )

/-- laws.szStringS -/
abbrev T58 : Type 1 := (β : Type) → List V → Int → (Int → Option β) → Option β
def P58 : T58 := fun β a left k =>
 br (decide (IntKind.wrap .i64 (left - (a.length : Int)) < 0)) (
 k (-1)) (
 whileK (fun s1 =>
 br (decide ((lI s1 2) < ((lL s1 0).length : Int))) (
 chk (0 ≤ (lI s1 2)) <|
 idx false [.str] (lL s1 0) ((lI s1 2).toNat) fun (e2 : List UInt8 × Unit) =>
 br (decide (IntKind.wrap .i64 ((lI s1 1) - (e2.1.length : Int)) < 0)) (
 some (.inr (0, [.i (IntKind.wrap .i64 ((lI s1 1) - (e2.1.length : Int))), .i (-1)]))) (
 some (.inl [.l (lL s1 0), .i (IntKind.wrap .i64 ((lI s1 1) - (e2.1.length : Int))), .i (IntKind.wrap .i64 ((lI s1 2) + 1))]))) (
 some (.inr (1, [.i (lI s1 1)])))) [.l a, .i (IntKind.wrap .i64 (left - (a.length : Int))), .i 0] fun (r3 : Nat × List Leaf) =>
 if r3.1 = 0 then
 k (lI r3.2 1)
 else
 k (lI r3.2 0))
def F58 : T58 := P58 
def X58 : Exits := fun i => lookN i [] [(5, [(.ret, xk 28 [(1, .int .i64 0), (4, .int .i64 0)] []), (.exit 0, xk 28 [(1, .int .i64 0)] [])])]
abbrev s58 : List (Bool × List CK) := [(false, [.sl 1 true]), (false, [.int .i64])]
def G58 (F : T58) (β : Type) (e : (List V × Unit) × (Int × Unit) × Unit) (k : V → Option β) : Option β := F β e.1.1 e.2.1.1 (fun y1 => k (.int .i64 y1))
abbrev W58 (F : T58) : WT := wrap s58 (G58 F)
theorem k58 (β : Type) (e : argsT s58) (k : V → Option β) : fnK cfg (tabL []) X58 58 Tryz.f58 β (argsEnc s58 e) k = G58 (P58 ) β e k := by kernel_rfl
theorem ok58 : FnOk D 58 (W58 F58) := fn_okW [] X58 (fun _ => rfl) Tryz.func58 rfl (tabL_nil) (k58 )

/-- laws.szPolicy -/
abbrev T51 : Type 1 := (β : Type) → Bool → List V → List V → List V → List UInt8 → Int → (Int → Option β) → Option β
def P51 (F58 : T58) : T51 := fun β a_Set a_Scripts a_Styles a_Images a_Nonce left k =>
 F58 _ a_Scripts left fun n1 =>
 br (decide (n1 < 0)) (
 k (-1)) (
 F58 _ a_Styles n1 fun n2 =>
 br (decide (n2 < 0)) (
 k (-1)) (
 F58 _ a_Images n2 fun n3 =>
 br (decide (n3 < 0)) (
 k (-1)) (
 br (decide (IntKind.wrap .i64 (n3 - (a_Nonce.length : Int)) < 0)) (
 k (-1)) (
 k (IntKind.wrap .i64 (n3 - (a_Nonce.length : Int)))))))
def F51 : T51 := P51 F58 
abbrev s51 : List (Bool × List CK) := [(true, [.bool, .sl 1 true, .sl 1 true, .sl 1 true, .str]), (false, [.int .i64])]
def G51 (F : T51) (β : Type) (e : (Bool × List V × List V × List V × List UInt8 × Unit) × (Int × Unit) × Unit) (k : V → Option β) : Option β := let a0_0 := e.1; let a0_1 := a0_0.2; let a0_2 := a0_1.2; let a0_3 := a0_2.2; let a0_4 := a0_3.2; F β a0_0.1 a0_1.1 a0_2.1 a0_3.1 a0_4.1 e.2.1.1 (fun y1 => k (.int .i64 y1))
abbrev W51 (F : T51) : WT := wrap s51 (G51 F)
theorem k51 (F58 : T58) (β : Type) (e : argsT s51) (k : V → Option β) : fnK cfg (tabL [(58, W58 F58)]) noX 51 Tryz.f51 β (argsEnc s51 e) k = G51 (P51 F58 ) β e k := by kernel_rfl
theorem ok51 : FnOk D 51 (W51 F51) := fn_okW [(58, W58 F58)] noX (fun _ => rfl) Tryz.func51 rfl (tabL_cons ok58 tabL_nil) (k51 F58 )

/-- laws.szTokenizer -/
abbrev T52 : Type 1 := (β : Type) → List UInt8 → Int → (Int → Option β) → Option β
def P52 : T52 := fun β a_Rest left k =>
 br (decide (IntKind.wrap .i64 (left - (a_Rest.length : Int)) < 0)) (
 k (-1)) (
 k (IntKind.wrap .i64 (left - (a_Rest.length : Int))))
def F52 : T52 := P52 
abbrev s52 : List (Bool × List CK) := [(true, [.str]), (false, [.int .i64])]
def G52 (F : T52) (β : Type) (e : (List UInt8 × Unit) × (Int × Unit) × Unit) (k : V → Option β) : Option β := F β e.1.1 e.2.1.1 (fun y1 => k (.int .i64 y1))
abbrev W52 (F : T52) : WT := wrap s52 (G52 F)
theorem k52 (β : Type) (e : argsT s52) (k : V → Option β) : fnK cfg (tabL []) noX 52 Tryz.f52 β (argsEnc s52 e) k = G52 (P52 ) β e k := by kernel_rfl
theorem ok52 : FnOk D 52 (W52 F52) := fn_okW [] noX (fun _ => rfl) Tryz.func52 rfl (tabL_nil) (k52 )

/-- laws.szAttr -/
abbrev T192 : Type 1 := (β : Type) → List UInt8 → List UInt8 → Int → (Int → Option β) → Option β
def P192 : T192 := fun β a_Name a_Value left k =>
 br (decide (IntKind.wrap .i64 (left - (a_Name.length : Int)) < 0)) (
 k (-1)) (
 br (decide (IntKind.wrap .i64 ((IntKind.wrap .i64 (left - (a_Name.length : Int))) - (a_Value.length : Int)) < 0)) (
 k (-1)) (
 k (IntKind.wrap .i64 ((IntKind.wrap .i64 (left - (a_Name.length : Int))) - (a_Value.length : Int)))))
def F192 : T192 := P192 
abbrev s192 : List (Bool × List CK) := [(true, [.str, .str]), (false, [.int .i64])]
def G192 (F : T192) (β : Type) (e : (List UInt8 × List UInt8 × Unit) × (Int × Unit) × Unit) (k : V → Option β) : Option β := F β e.1.1 e.1.2.1 e.2.1.1 (fun y1 => k (.int .i64 y1))
abbrev W192 (F : T192) : WT := wrap s192 (G192 F)
theorem k192 (β : Type) (e : argsT s192) (k : V → Option β) : fnK cfg (tabL []) noX 192 Tryz.f192 β (argsEnc s192 e) k = G192 (P192 ) β e k := by kernel_rfl
theorem ok192 : FnOk D 192 (W192 F192) := fn_okW [] noX (fun _ => rfl) Tryz.func192 rfl (tabL_nil) (k192 )

/-- laws.szAttrS -/
abbrev T177 : Type 1 := (β : Type) → List V → Int → (Int → Option β) → Option β
def P177 (F192 : T192) : T177 := fun β a left k =>
 br (decide (IntKind.wrap .i64 (left - (a.length : Int)) < 0)) (
 k (-1)) (
 whileK (fun s1 =>
 br (decide ((lI s1 2) < ((lL s1 0).length : Int))) (
 chk (0 ≤ (lI s1 2)) <|
 idx true [.str, .str] (lL s1 0) ((lI s1 2).toNat) fun (e2 : List UInt8 × List UInt8 × Unit) =>
 F192 _ e2.1 e2.2.1 (lI s1 1) fun n3 =>
 br (decide (n3 < 0)) (
 some (.inr (0, [.i n3, .i (-1)]))) (
 some (.inl [.l (lL s1 0), .i n3, .i (IntKind.wrap .i64 ((lI s1 2) + 1))]))) (
 some (.inr (1, [.i (lI s1 1)])))) [.l a, .i (IntKind.wrap .i64 (left - (a.length : Int))), .i 0] fun (r4 : Nat × List Leaf) =>
 if r4.1 = 0 then
 k (lI r4.2 1)
 else
 k (lI r4.2 0))
def F177 : T177 := P177 F192 
def X177 : Exits := fun i => lookN i [] [(5, [(.ret, xk 27 [(1, .int .i64 0), (4, .int .i64 0)] []), (.exit 0, xk 27 [(1, .int .i64 0)] [])])]
abbrev s177 : List (Bool × List CK) := [(false, [.sl 2 true]), (false, [.int .i64])]
def G177 (F : T177) (β : Type) (e : (List V × Unit) × (Int × Unit) × Unit) (k : V → Option β) : Option β := F β e.1.1 e.2.1.1 (fun y1 => k (.int .i64 y1))
abbrev W177 (F : T177) : WT := wrap s177 (G177 F)
theorem k177 (F192 : T192) (β : Type) (e : argsT s177) (k : V → Option β) : fnK cfg (tabL [(192, W192 F192)]) X177 177 Tryz.f177 β (argsEnc s177 e) k = G177 (P177 F192 ) β e k := by kernel_rfl
theorem ok177 : FnOk D 177 (W177 F177) := fn_okW [(192, W192 F192)] X177 (fun _ => rfl) Tryz.func177 rfl (tabL_cons ok192 tabL_nil) (k177 F192 )

/-- laws.szToken -/
abbrev T127 : Type 1 := (β : Type) → Int → List UInt8 → List V → List UInt8 → Int → (Int → Option β) → Option β
def P127 (F177 : T177) : T127 := fun β a_Kind a_Name a_Attrs a_Text left k =>
 br (decide (IntKind.wrap .i64 (left - (a_Name.length : Int)) < 0)) (
 k (-1)) (
 F177 _ a_Attrs (IntKind.wrap .i64 (left - (a_Name.length : Int))) fun n1 =>
 br (decide (n1 < 0)) (
 k (-1)) (
 br (decide (IntKind.wrap .i64 (n1 - (a_Text.length : Int)) < 0)) (
 k (-1)) (
 k (IntKind.wrap .i64 (n1 - (a_Text.length : Int))))))
def F127 : T127 := P127 F177 
abbrev s127 : List (Bool × List CK) := [(true, [.int .i64, .str, .sl 2 true, .str]), (false, [.int .i64])]
def G127 (F : T127) (β : Type) (e : (Int × List UInt8 × List V × List UInt8 × Unit) × (Int × Unit) × Unit) (k : V → Option β) : Option β := F β e.1.1 e.1.2.1 e.1.2.2.1 e.1.2.2.2.1 e.2.1.1 (fun y1 => k (.int .i64 y1))
abbrev W127 (F : T127) : WT := wrap s127 (G127 F)
theorem k127 (F177 : T177) (β : Type) (e : argsT s127) (k : V → Option β) : fnK cfg (tabL [(177, W177 F177)]) noX 127 Tryz.f127 β (argsEnc s127 e) k = G127 (P127 F177 ) β e k := by kernel_rfl
theorem ok127 : FnOk D 127 (W127 F127) := fn_okW [(177, W177 F177)] noX (fun _ => rfl) Tryz.func127 rfl (tabL_cons ok177 tabL_nil) (k127 F177 )

/-- laws.szTokenS -/
abbrev T53 : Type 1 := (β : Type) → List V → Int → (Int → Option β) → Option β
def P53 (F127 : T127) : T53 := fun β a left k =>
 br (decide (IntKind.wrap .i64 (left - (a.length : Int)) < 0)) (
 k (-1)) (
 whileK (fun s1 =>
 br (decide ((lI s1 2) < ((lL s1 0).length : Int))) (
 chk (0 ≤ (lI s1 2)) <|
 idx true [.int .i64, .str, .sl 2 true, .str] (lL s1 0) ((lI s1 2).toNat) fun (e2 : Int × List UInt8 × List V × List UInt8 × Unit) =>
 F127 _ e2.1 e2.2.1 e2.2.2.1 e2.2.2.2.1 (lI s1 1) fun n3 =>
 br (decide (n3 < 0)) (
 some (.inr (0, [.i n3, .i (-1)]))) (
 some (.inl [.l (lL s1 0), .i n3, .i (IntKind.wrap .i64 ((lI s1 2) + 1))]))) (
 some (.inr (1, [.i (lI s1 1)])))) [.l a, .i (IntKind.wrap .i64 (left - (a.length : Int))), .i 0] fun (r4 : Nat × List Leaf) =>
 if r4.1 = 0 then
 k (lI r4.2 1)
 else
 k (lI r4.2 0))
def F53 : T53 := P53 F127 
def X53 : Exits := fun i => lookN i [] [(5, [(.ret, xk 27 [(1, .int .i64 0), (4, .int .i64 0)] []), (.exit 0, xk 27 [(1, .int .i64 0)] [])])]
abbrev s53 : List (Bool × List CK) := [(false, [.sl 4 false]), (false, [.int .i64])]
def G53 (F : T53) (β : Type) (e : (List V × Unit) × (Int × Unit) × Unit) (k : V → Option β) : Option β := F β e.1.1 e.2.1.1 (fun y1 => k (.int .i64 y1))
abbrev W53 (F : T53) : WT := wrap s53 (G53 F)
theorem k53 (F127 : T127) (β : Type) (e : argsT s53) (k : V → Option β) : fnK cfg (tabL [(127, W127 F127)]) X53 53 Tryz.f53 β (argsEnc s53 e) k = G53 (P53 F127 ) β e k := by kernel_rfl
theorem ok53 : FnOk D 53 (W53 F53) := fn_okW [(127, W127 F127)] X53 (fun _ => rfl) Tryz.func53 rfl (tabL_cons ok127 tabL_nil) (k53 F127 )

/-- laws.szNode -/
abbrev T178 : Type 1 := (β : Type) → List UInt8 → List UInt8 → Int → List V → Int → (Int → Option β) → Option β
def P178 (F177 : T177) : T178 := fun β a_Name a_Text a_Parent a_Attrs left k =>
 br (decide (IntKind.wrap .i64 (left - (a_Name.length : Int)) < 0)) (
 k (-1)) (
 br (decide (IntKind.wrap .i64 ((IntKind.wrap .i64 (left - (a_Name.length : Int))) - (a_Text.length : Int)) < 0)) (
 k (-1)) (
 F177 _ a_Attrs (IntKind.wrap .i64 ((IntKind.wrap .i64 (left - (a_Name.length : Int))) - (a_Text.length : Int))) fun n1 =>
 br (decide (n1 < 0)) (
 k (-1)) (
 k n1)))
def F178 : T178 := P178 F177 
abbrev s178 : List (Bool × List CK) := [(true, [.str, .str, .int .i64, .sl 2 true]), (false, [.int .i64])]
def G178 (F : T178) (β : Type) (e : (List UInt8 × List UInt8 × Int × List V × Unit) × (Int × Unit) × Unit) (k : V → Option β) : Option β := F β e.1.1 e.1.2.1 e.1.2.2.1 e.1.2.2.2.1 e.2.1.1 (fun y1 => k (.int .i64 y1))
abbrev W178 (F : T178) : WT := wrap s178 (G178 F)
theorem k178 (F177 : T177) (β : Type) (e : argsT s178) (k : V → Option β) : fnK cfg (tabL [(177, W177 F177)]) noX 178 Tryz.f178 β (argsEnc s178 e) k = G178 (P178 F177 ) β e k := by kernel_rfl
theorem ok178 : FnOk D 178 (W178 F178) := fn_okW [(177, W177 F177)] noX (fun _ => rfl) Tryz.func178 rfl (tabL_cons ok177 tabL_nil) (k178 F177 )

/-- laws.szNodeS -/
abbrev T128 : Type 1 := (β : Type) → List V → Int → (Int → Option β) → Option β
def P128 (F178 : T178) : T128 := fun β a left k =>
 br (decide (IntKind.wrap .i64 (left - (a.length : Int)) < 0)) (
 k (-1)) (
 whileK (fun s1 =>
 br (decide ((lI s1 2) < ((lL s1 0).length : Int))) (
 chk (0 ≤ (lI s1 2)) <|
 idx true [.str, .str, .int .i64, .sl 2 true] (lL s1 0) ((lI s1 2).toNat) fun (e2 : List UInt8 × List UInt8 × Int × List V × Unit) =>
 F178 _ e2.1 e2.2.1 e2.2.2.1 e2.2.2.2.1 (lI s1 1) fun n3 =>
 br (decide (n3 < 0)) (
 some (.inr (0, [.i n3, .i (-1)]))) (
 some (.inl [.l (lL s1 0), .i n3, .i (IntKind.wrap .i64 ((lI s1 2) + 1))]))) (
 some (.inr (1, [.i (lI s1 1)])))) [.l a, .i (IntKind.wrap .i64 (left - (a.length : Int))), .i 0] fun (r4 : Nat × List Leaf) =>
 if r4.1 = 0 then
 k (lI r4.2 1)
 else
 k (lI r4.2 0))
def F128 : T128 := P128 F178 
def X128 : Exits := fun i => lookN i [] [(5, [(.ret, xk 27 [(1, .int .i64 0), (4, .int .i64 0)] []), (.exit 0, xk 27 [(1, .int .i64 0)] [])])]
abbrev s128 : List (Bool × List CK) := [(false, [.sl 4 false]), (false, [.int .i64])]
def G128 (F : T128) (β : Type) (e : (List V × Unit) × (Int × Unit) × Unit) (k : V → Option β) : Option β := F β e.1.1 e.2.1.1 (fun y1 => k (.int .i64 y1))
abbrev W128 (F : T128) : WT := wrap s128 (G128 F)
theorem k128 (F178 : T178) (β : Type) (e : argsT s128) (k : V → Option β) : fnK cfg (tabL [(178, W178 F178)]) X128 128 Tryz.f128 β (argsEnc s128 e) k = G128 (P128 F178 ) β e k := by kernel_rfl
theorem ok128 : FnOk D 128 (W128 F128) := fn_okW [(178, W178 F178)] X128 (fun _ => rfl) Tryz.func128 rfl (tabL_cons ok178 tabL_nil) (k128 F178 )

/-- laws.szIntS -/
abbrev T129 : Type 1 := (β : Type) → List V → Int → (Int → Option β) → Option β
def P129 : T129 := fun β a left k =>
 br (decide (IntKind.wrap .i64 (left - (a.length : Int)) < 0)) (
 k (-1)) (
 k (IntKind.wrap .i64 (left - (a.length : Int))))
def F129 : T129 := P129 
abbrev s129 : List (Bool × List CK) := [(false, [.sl 1 true]), (false, [.int .i64])]
def G129 (F : T129) (β : Type) (e : (List V × Unit) × (Int × Unit) × Unit) (k : V → Option β) : Option β := F β e.1.1 e.2.1.1 (fun y1 => k (.int .i64 y1))
abbrev W129 (F : T129) : WT := wrap s129 (G129 F)
theorem k129 (β : Type) (e : argsT s129) (k : V → Option β) : fnK cfg (tabL []) noX 129 Tryz.f129 β (argsEnc s129 e) k = G129 (P129 ) β e k := by kernel_rfl
theorem ok129 : FnOk D 129 (W129 F129) := fn_okW [] noX (fun _ => rfl) Tryz.func129 rfl (tabL_nil) (k129 )

/-- laws.szBuilder -/
abbrev T54 : Type 1 := (β : Type) → List V → List V → Int → (Int → Option β) → Option β
def P54 (F128 : T128) (F129 : T129) : T54 := fun β a_Nodes a_Open left k =>
 F128 _ a_Nodes left fun n1 =>
 br (decide (n1 < 0)) (
 k (-1)) (
 F129 _ a_Open n1 fun n2 =>
 br (decide (n2 < 0)) (
 k (-1)) (
 k n2))
def F54 : T54 := P54 F128 F129 
abbrev s54 : List (Bool × List CK) := [(true, [.sl 4 false, .sl 1 true]), (false, [.int .i64])]
def G54 (F : T54) (β : Type) (e : (List V × List V × Unit) × (Int × Unit) × Unit) (k : V → Option β) : Option β := F β e.1.1 e.1.2.1 e.2.1.1 (fun y1 => k (.int .i64 y1))
abbrev W54 (F : T54) : WT := wrap s54 (G54 F)
theorem k54 (F128 : T128) (F129 : T129) (β : Type) (e : argsT s54) (k : V → Option β) : fnK cfg (tabL [(128, W128 F128), (129, W129 F129)]) noX 54 Tryz.f54 β (argsEnc s54 e) k = G54 (P54 F128 F129 ) β e k := by kernel_rfl
theorem ok54 : FnOk D 54 (W54 F54) := fn_okW [(128, W128 F128), (129, W129 F129)] noX (fun _ => rfl) Tryz.func54 rfl (tabL_cons ok128 (tabL_cons ok129 tabL_nil)) (k54 F128 F129 )

/-- laws.szSlot -/
abbrev T130 : Type 1 := (β : Type) → Int → List UInt8 → List UInt8 → List UInt8 → Int → Bool → Int → List UInt8 → Int → (Int → Option β) → Option β
def P130 (F50 : T50) : T130 := fun β a_Mode a_To_Host a_To_Path a_Digest a_Node a_Done a_Code a_Body left k =>
 F50 _ a_To_Host a_To_Path left fun n1 =>
 br (decide (n1 < 0)) (
 k (-1)) (
 br (decide (IntKind.wrap .i64 (n1 - (a_Digest.length : Int)) < 0)) (
 k (-1)) (
 br (decide (IntKind.wrap .i64 ((IntKind.wrap .i64 (n1 - (a_Digest.length : Int))) - (a_Body.length : Int)) < 0)) (
 k (-1)) (
 k (IntKind.wrap .i64 ((IntKind.wrap .i64 (n1 - (a_Digest.length : Int))) - (a_Body.length : Int))))))
def F130 : T130 := P130 F50 
abbrev s130 : List (Bool × List CK) := [(true, [.int .i64, .str, .str, .str, .int .i64, .bool, .int .i64, .str]), (false, [.int .i64])]
def G130 (F : T130) (β : Type) (e : (Int × List UInt8 × List UInt8 × List UInt8 × Int × Bool × Int × List UInt8 × Unit) × (Int × Unit) × Unit) (k : V → Option β) : Option β := let a0_0 := e.1; let a0_1 := a0_0.2; let a0_2 := a0_1.2; let a0_3 := a0_2.2; let a0_4 := a0_3.2; let a0_5 := a0_4.2; let a0_6 := a0_5.2; let a0_7 := a0_6.2; F β a0_0.1 a0_1.1 a0_2.1 a0_3.1 a0_4.1 a0_5.1 a0_6.1 a0_7.1 e.2.1.1 (fun y1 => k (.int .i64 y1))
abbrev W130 (F : T130) : WT := wrap s130 (G130 F)
theorem k130 (F50 : T50) (β : Type) (e : argsT s130) (k : V → Option β) : fnK cfg (tabL [(50, W50 F50)]) noX 130 Tryz.f130 β (argsEnc s130 e) k = G130 (P130 F50 ) β e k := by kernel_rfl
theorem ok130 : FnOk D 130 (W130 F130) := fn_okW [(50, W50 F50)] noX (fun _ => rfl) Tryz.func130 rfl (tabL_cons ok50 tabL_nil) (k130 F50 )

/-- laws.szSlotS -/
abbrev T55 : Type 1 := (β : Type) → List V → Int → (Int → Option β) → Option β
def P55 (F130 : T130) : T55 := fun β a left k =>
 br (decide (IntKind.wrap .i64 (left - (a.length : Int)) < 0)) (
 k (-1)) (
 whileK (fun s1 =>
 br (decide ((lI s1 2) < ((lL s1 0).length : Int))) (
 chk (0 ≤ (lI s1 2)) <|
 idx true [.int .i64, .str, .str, .str, .int .i64, .bool, .int .i64, .str] (lL s1 0) ((lI s1 2).toNat) fun (e2 : Int × List UInt8 × List UInt8 × List UInt8 × Int × Bool × Int × List UInt8 × Unit) =>
 F130 _ e2.1 e2.2.1 e2.2.2.1 e2.2.2.2.1 e2.2.2.2.2.1 e2.2.2.2.2.2.1 e2.2.2.2.2.2.2.1 e2.2.2.2.2.2.2.2.1 (lI s1 1) fun n3 =>
 br (decide (n3 < 0)) (
 some (.inr (0, [.i n3, .i (-1)]))) (
 some (.inl [.l (lL s1 0), .i n3, .i (IntKind.wrap .i64 ((lI s1 2) + 1))]))) (
 some (.inr (1, [.i (lI s1 1)])))) [.l a, .i (IntKind.wrap .i64 (left - (a.length : Int))), .i 0] fun (r4 : Nat × List Leaf) =>
 if r4.1 = 0 then
 k (lI r4.2 1)
 else
 k (lI r4.2 0))
def F55 : T55 := P55 F130 
def X55 : Exits := fun i => lookN i [] [(5, [(.ret, xk 27 [(1, .int .i64 0), (4, .int .i64 0)] []), (.exit 0, xk 27 [(1, .int .i64 0)] [])])]
abbrev s55 : List (Bool × List CK) := [(false, [.sl 8 true]), (false, [.int .i64])]
def G55 (F : T55) (β : Type) (e : (List V × Unit) × (Int × Unit) × Unit) (k : V → Option β) : Option β := F β e.1.1 e.2.1.1 (fun y1 => k (.int .i64 y1))
abbrev W55 (F : T55) : WT := wrap s55 (G55 F)
theorem k55 (F130 : T130) (β : Type) (e : argsT s55) (k : V → Option β) : fnK cfg (tabL [(130, W130 F130)]) X55 55 Tryz.f55 β (argsEnc s55 e) k = G55 (P55 F130 ) β e k := by kernel_rfl
theorem ok55 : FnOk D 55 (W55 F55) := fn_okW [(130, W130 F130)] X55 (fun _ => rfl) Tryz.func55 rfl (tabL_cons ok130 tabL_nil) (k55 F130 )

/-- laws.szModule -/
abbrev T131 : Type 1 := (β : Type) → List UInt8 → List UInt8 → Bool → Int → List UInt8 → Int → (Int → Option β) → Option β
def P131 (F50 : T50) : T131 := fun β a_To_Host a_To_Path a_Done a_Code a_Body left k =>
 F50 _ a_To_Host a_To_Path left fun n1 =>
 br (decide (n1 < 0)) (
 k (-1)) (
 br (decide (IntKind.wrap .i64 (n1 - (a_Body.length : Int)) < 0)) (
 k (-1)) (
 k (IntKind.wrap .i64 (n1 - (a_Body.length : Int)))))
def F131 : T131 := P131 F50 
abbrev s131 : List (Bool × List CK) := [(true, [.str, .str, .bool, .int .i64, .str]), (false, [.int .i64])]
def G131 (F : T131) (β : Type) (e : (List UInt8 × List UInt8 × Bool × Int × List UInt8 × Unit) × (Int × Unit) × Unit) (k : V → Option β) : Option β := let a0_0 := e.1; let a0_1 := a0_0.2; let a0_2 := a0_1.2; let a0_3 := a0_2.2; let a0_4 := a0_3.2; F β a0_0.1 a0_1.1 a0_2.1 a0_3.1 a0_4.1 e.2.1.1 (fun y1 => k (.int .i64 y1))
abbrev W131 (F : T131) : WT := wrap s131 (G131 F)
theorem k131 (F50 : T50) (β : Type) (e : argsT s131) (k : V → Option β) : fnK cfg (tabL [(50, W50 F50)]) noX 131 Tryz.f131 β (argsEnc s131 e) k = G131 (P131 F50 ) β e k := by kernel_rfl
theorem ok131 : FnOk D 131 (W131 F131) := fn_okW [(50, W50 F50)] noX (fun _ => rfl) Tryz.func131 rfl (tabL_cons ok50 tabL_nil) (k131 F50 )

/-- laws.szModuleS -/
abbrev T56 : Type 1 := (β : Type) → List V → Int → (Int → Option β) → Option β
def P56 (F131 : T131) : T56 := fun β a left k =>
 br (decide (IntKind.wrap .i64 (left - (a.length : Int)) < 0)) (
 k (-1)) (
 whileK (fun s1 =>
 br (decide ((lI s1 2) < ((lL s1 0).length : Int))) (
 chk (0 ≤ (lI s1 2)) <|
 idx true [.str, .str, .bool, .int .i64, .str] (lL s1 0) ((lI s1 2).toNat) fun (e2 : List UInt8 × List UInt8 × Bool × Int × List UInt8 × Unit) =>
 F131 _ e2.1 e2.2.1 e2.2.2.1 e2.2.2.2.1 e2.2.2.2.2.1 (lI s1 1) fun n3 =>
 br (decide (n3 < 0)) (
 some (.inr (0, [.i n3, .i (-1)]))) (
 some (.inl [.l (lL s1 0), .i n3, .i (IntKind.wrap .i64 ((lI s1 2) + 1))]))) (
 some (.inr (1, [.i (lI s1 1)])))) [.l a, .i (IntKind.wrap .i64 (left - (a.length : Int))), .i 0] fun (r4 : Nat × List Leaf) =>
 if r4.1 = 0 then
 k (lI r4.2 1)
 else
 k (lI r4.2 0))
def F56 : T56 := P56 F131 
def X56 : Exits := fun i => lookN i [] [(5, [(.ret, xk 27 [(1, .int .i64 0), (4, .int .i64 0)] []), (.exit 0, xk 27 [(1, .int .i64 0)] [])])]
abbrev s56 : List (Bool × List CK) := [(false, [.sl 5 true]), (false, [.int .i64])]
def G56 (F : T56) (β : Type) (e : (List V × Unit) × (Int × Unit) × Unit) (k : V → Option β) : Option β := F β e.1.1 e.2.1.1 (fun y1 => k (.int .i64 y1))
abbrev W56 (F : T56) : WT := wrap s56 (G56 F)
theorem k56 (F131 : T131) (β : Type) (e : argsT s56) (k : V → Option β) : fnK cfg (tabL [(131, W131 F131)]) X56 56 Tryz.f56 β (argsEnc s56 e) k = G56 (P56 F131 ) β e k := by kernel_rfl
theorem ok56 : FnOk D 56 (W56 F56) := fn_okW [(131, W131 F131)] X56 (fun _ => rfl) Tryz.func56 rfl (tabL_cons ok131 tabL_nil) (k56 F131 )

/-- laws.szAddrS -/
abbrev T57 : Type 1 := (β : Type) → List V → Int → (Int → Option β) → Option β
def P57 (F50 : T50) : T57 := fun β a left k =>
 br (decide (IntKind.wrap .i64 (left - (a.length : Int)) < 0)) (
 k (-1)) (
 whileK (fun s1 =>
 br (decide ((lI s1 2) < ((lL s1 0).length : Int))) (
 chk (0 ≤ (lI s1 2)) <|
 idx true [.str, .str] (lL s1 0) ((lI s1 2).toNat) fun (e2 : List UInt8 × List UInt8 × Unit) =>
 F50 _ e2.1 e2.2.1 (lI s1 1) fun n3 =>
 br (decide (n3 < 0)) (
 some (.inr (0, [.i n3, .i (-1)]))) (
 some (.inl [.l (lL s1 0), .i n3, .i (IntKind.wrap .i64 ((lI s1 2) + 1))]))) (
 some (.inr (1, [.i (lI s1 1)])))) [.l a, .i (IntKind.wrap .i64 (left - (a.length : Int))), .i 0] fun (r4 : Nat × List Leaf) =>
 if r4.1 = 0 then
 k (lI r4.2 1)
 else
 k (lI r4.2 0))
def F57 : T57 := P57 F50 
def X57 : Exits := fun i => lookN i [] [(5, [(.ret, xk 27 [(1, .int .i64 0), (4, .int .i64 0)] []), (.exit 0, xk 27 [(1, .int .i64 0)] [])])]
abbrev s57 : List (Bool × List CK) := [(false, [.sl 2 true]), (false, [.int .i64])]
def G57 (F : T57) (β : Type) (e : (List V × Unit) × (Int × Unit) × Unit) (k : V → Option β) : Option β := F β e.1.1 e.2.1.1 (fun y1 => k (.int .i64 y1))
abbrev W57 (F : T57) : WT := wrap s57 (G57 F)
theorem k57 (F50 : T50) (β : Type) (e : argsT s57) (k : V → Option β) : fnK cfg (tabL [(50, W50 F50)]) X57 57 Tryz.f57 β (argsEnc s57 e) k = G57 (P57 F50 ) β e k := by kernel_rfl
theorem ok57 : FnOk D 57 (W57 F57) := fn_okW [(50, W50 F50)] X57 (fun _ => rfl) Tryz.func57 rfl (tabL_cons ok50 tabL_nil) (k57 F50 )

/-- laws.szPage -/
abbrev T18 : Type 1 := (β : Type) → List UInt8 → List UInt8 → Bool → List V → List V → List V → List UInt8 → List UInt8 → List V → Bool → List V → List V → List V → List V → List V → Int → Int → Int → Int → List V → List V → Bool → Int → (Int → Option β) → Option β
def P18 (F50 : T50) (F51 : T51) (F52 : T52) (F53 : T53) (F54 : T54) (F55 : T55) (F56 : T56) (F57 : T57) (F58 : T58) : T18 := fun β a_Addr_Host a_Addr_Path a_Policy_Set a_Policy_Scripts a_Policy_Styles a_Policy_Images a_Policy_Nonce a_Tok_Rest a_Queue a_Ended a_Builder_Nodes a_Builder_Open a_Slots a_Mods a_Entries a_Block a_Inline a_Deferred a_Entered a_Ran a_Log a_Loaded left k =>
 F50 _ a_Addr_Host a_Addr_Path left fun n1 =>
 br (decide (n1 < 0)) (
 k (-1)) (
 F51 _ a_Policy_Set a_Policy_Scripts a_Policy_Styles a_Policy_Images a_Policy_Nonce n1 fun n2 =>
 br (decide (n2 < 0)) (
 k (-1)) (
 F52 _ a_Tok_Rest n2 fun n3 =>
 br (decide (n3 < 0)) (
 k (-1)) (
 F53 _ a_Queue n3 fun n4 =>
 br (decide (n4 < 0)) (
 k (-1)) (
 F54 _ a_Builder_Nodes a_Builder_Open n4 fun n5 =>
 br (decide (n5 < 0)) (
 k (-1)) (
 F55 _ a_Slots n5 fun n6 =>
 br (decide (n6 < 0)) (
 k (-1)) (
 F56 _ a_Mods n6 fun n7 =>
 br (decide (n7 < 0)) (
 k (-1)) (
 F57 _ a_Entries n7 fun n8 =>
 br (decide (n8 < 0)) (
 k (-1)) (
 F57 _ a_Ran n8 fun n9 =>
 br (decide (n9 < 0)) (
 k (-1)) (
 F58 _ a_Log n9 fun n10 =>
 br (decide (n10 < 0)) (
 k (-1)) (
 k n10))))))))))
def F18 : T18 := P18 F50 F51 F52 F53 F54 F55 F56 F57 F58 
abbrev s18 : List (Bool × List CK) := [(true, [.str, .str, .bool, .sl 1 true, .sl 1 true, .sl 1 true, .str, .str, .sl 4 false, .bool, .sl 4 false, .sl 1 true, .sl 8 true, .sl 5 true, .sl 2 true, .int .i64, .int .i64, .int .i64, .int .i64, .sl 2 true, .sl 1 true, .bool]), (false, [.int .i64])]
def G18 (F : T18) (β : Type) (e : (List UInt8 × List UInt8 × Bool × List V × List V × List V × List UInt8 × List UInt8 × List V × Bool × List V × List V × List V × List V × List V × Int × Int × Int × Int × List V × List V × Bool × Unit) × (Int × Unit) × Unit) (k : V → Option β) : Option β := let a0_0 := e.1; let a0_1 := a0_0.2; let a0_2 := a0_1.2; let a0_3 := a0_2.2; let a0_4 := a0_3.2; let a0_5 := a0_4.2; let a0_6 := a0_5.2; let a0_7 := a0_6.2; let a0_8 := a0_7.2; let a0_9 := a0_8.2; let a0_10 := a0_9.2; let a0_11 := a0_10.2; let a0_12 := a0_11.2; let a0_13 := a0_12.2; let a0_14 := a0_13.2; let a0_15 := a0_14.2; let a0_16 := a0_15.2; let a0_17 := a0_16.2; let a0_18 := a0_17.2; let a0_19 := a0_18.2; let a0_20 := a0_19.2; let a0_21 := a0_20.2; F β a0_0.1 a0_1.1 a0_2.1 a0_3.1 a0_4.1 a0_5.1 a0_6.1 a0_7.1 a0_8.1 a0_9.1 a0_10.1 a0_11.1 a0_12.1 a0_13.1 a0_14.1 a0_15.1 a0_16.1 a0_17.1 a0_18.1 a0_19.1 a0_20.1 a0_21.1 e.2.1.1 (fun y1 => k (.int .i64 y1))
abbrev W18 (F : T18) : WT := wrap s18 (G18 F)
theorem k18 (F50 : T50) (F51 : T51) (F52 : T52) (F53 : T53) (F54 : T54) (F55 : T55) (F56 : T56) (F57 : T57) (F58 : T58) (β : Type) (e : argsT s18) (k : V → Option β) : fnK cfg (tabL [(50, W50 F50), (51, W51 F51), (52, W52 F52), (53, W53 F53), (54, W54 F54), (55, W55 F55), (56, W56 F56), (57, W57 F57), (58, W58 F58)]) noX 18 Tryz.f18 β (argsEnc s18 e) k = G18 (P18 F50 F51 F52 F53 F54 F55 F56 F57 F58 ) β e k := by kernel_rfl
theorem ok18 : FnOk D 18 (W18 F18) := fn_okW [(50, W50 F50), (51, W51 F51), (52, W52 F52), (53, W53 F53), (54, W54 F54), (55, W55 F55), (56, W56 F56), (57, W57 F57), (58, W58 F58)] noX (fun _ => rfl) Tryz.func18 rfl (tabL_cons ok50 (tabL_cons ok51 (tabL_cons ok52 (tabL_cons ok53 (tabL_cons ok54 (tabL_cons ok55 (tabL_cons ok56 (tabL_cons ok57 (tabL_cons ok58 tabL_nil))))))))) (k18 F50 F51 F52 F53 F54 F55 F56 F57 F58 )

/-- laws.szVisit -/
abbrev T151 : Type 1 := (β : Type) → List UInt8 → List UInt8 → List UInt8 → List UInt8 → Bool → List V → List V → List V → List UInt8 → List UInt8 → List V → Bool → List V → List V → List V → List V → List V → Int → Int → Int → Int → List V → List V → Bool → Bool → Int → (Int → Option β) → Option β
def P151 (F50 : T50) (F18 : T18) : T151 := fun β a_Addr_Host a_Addr_Path a_Page_Addr_Host a_Page_Addr_Path a_Page_Policy_Set a_Page_Policy_Scripts a_Page_Policy_Styles a_Page_Policy_Images a_Page_Policy_Nonce a_Page_Tok_Rest a_Page_Queue a_Page_Ended a_Page_Builder_Nodes a_Page_Builder_Open a_Page_Slots a_Page_Mods a_Page_Entries a_Page_Block a_Page_Inline a_Page_Deferred a_Page_Entered a_Page_Ran a_Page_Log a_Page_Loaded a_Kept left k =>
 F50 _ a_Addr_Host a_Addr_Path left fun n1 =>
 br (decide (n1 < 0)) (
 k (-1)) (
 F18 _ a_Page_Addr_Host a_Page_Addr_Path a_Page_Policy_Set a_Page_Policy_Scripts a_Page_Policy_Styles a_Page_Policy_Images a_Page_Policy_Nonce a_Page_Tok_Rest a_Page_Queue a_Page_Ended a_Page_Builder_Nodes a_Page_Builder_Open a_Page_Slots a_Page_Mods a_Page_Entries a_Page_Block a_Page_Inline a_Page_Deferred a_Page_Entered a_Page_Ran a_Page_Log a_Page_Loaded n1 fun n2 =>
 br (decide (n2 < 0)) (
 k (-1)) (
 k n2))
def F151 : T151 := P151 F50 F18 
abbrev s151 : List (Bool × List CK) := [(true, [.str, .str, .str, .str, .bool, .sl 1 true, .sl 1 true, .sl 1 true, .str, .str, .sl 4 false, .bool, .sl 4 false, .sl 1 true, .sl 8 true, .sl 5 true, .sl 2 true, .int .i64, .int .i64, .int .i64, .int .i64, .sl 2 true, .sl 1 true, .bool, .bool]), (false, [.int .i64])]
def G151 (F : T151) (β : Type) (e : (List UInt8 × List UInt8 × List UInt8 × List UInt8 × Bool × List V × List V × List V × List UInt8 × List UInt8 × List V × Bool × List V × List V × List V × List V × List V × Int × Int × Int × Int × List V × List V × Bool × Bool × Unit) × (Int × Unit) × Unit) (k : V → Option β) : Option β := let a0_0 := e.1; let a0_1 := a0_0.2; let a0_2 := a0_1.2; let a0_3 := a0_2.2; let a0_4 := a0_3.2; let a0_5 := a0_4.2; let a0_6 := a0_5.2; let a0_7 := a0_6.2; let a0_8 := a0_7.2; let a0_9 := a0_8.2; let a0_10 := a0_9.2; let a0_11 := a0_10.2; let a0_12 := a0_11.2; let a0_13 := a0_12.2; let a0_14 := a0_13.2; let a0_15 := a0_14.2; let a0_16 := a0_15.2; let a0_17 := a0_16.2; let a0_18 := a0_17.2; let a0_19 := a0_18.2; let a0_20 := a0_19.2; let a0_21 := a0_20.2; let a0_22 := a0_21.2; let a0_23 := a0_22.2; let a0_24 := a0_23.2; F β a0_0.1 a0_1.1 a0_2.1 a0_3.1 a0_4.1 a0_5.1 a0_6.1 a0_7.1 a0_8.1 a0_9.1 a0_10.1 a0_11.1 a0_12.1 a0_13.1 a0_14.1 a0_15.1 a0_16.1 a0_17.1 a0_18.1 a0_19.1 a0_20.1 a0_21.1 a0_22.1 a0_23.1 a0_24.1 e.2.1.1 (fun y1 => k (.int .i64 y1))
abbrev W151 (F : T151) : WT := wrap s151 (G151 F)
theorem k151 (F50 : T50) (F18 : T18) (β : Type) (e : argsT s151) (k : V → Option β) : fnK cfg (tabL [(50, W50 F50), (18, W18 F18)]) noX 151 Tryz.f151 β (argsEnc s151 e) k = G151 (P151 F50 F18 ) β e k := by kernel_rfl
theorem ok151 : FnOk D 151 (W151 F151) := fn_okW [(50, W50 F50), (18, W18 F18)] noX (fun _ => rfl) Tryz.func151 rfl (tabL_cons ok50 (tabL_cons ok18 tabL_nil)) (k151 F50 F18 )

/-- laws.szVisitS -/
abbrev T89 : Type 1 := (β : Type) → List V → Int → (Int → Option β) → Option β
def P89 (F151 : T151) : T89 := fun β a left k =>
 br (decide (IntKind.wrap .i64 (left - (a.length : Int)) < 0)) (
 k (-1)) (
 whileK (fun s1 =>
 br (decide ((lI s1 2) < ((lL s1 0).length : Int))) (
 chk (0 ≤ (lI s1 2)) <|
 idx true [.str, .str, .str, .str, .bool, .sl 1 true, .sl 1 true, .sl 1 true, .str, .str, .sl 4 false, .bool, .sl 4 false, .sl 1 true, .sl 8 true, .sl 5 true, .sl 2 true, .int .i64, .int .i64, .int .i64, .int .i64, .sl 2 true, .sl 1 true, .bool, .bool] (lL s1 0) ((lI s1 2).toNat) fun (e2 : List UInt8 × List UInt8 × List UInt8 × List UInt8 × Bool × List V × List V × List V × List UInt8 × List UInt8 × List V × Bool × List V × List V × List V × List V × List V × Int × Int × Int × Int × List V × List V × Bool × Bool × Unit) =>
 F151 _ e2.1 e2.2.1 e2.2.2.1 e2.2.2.2.1 e2.2.2.2.2.1 e2.2.2.2.2.2.1 e2.2.2.2.2.2.2.1 e2.2.2.2.2.2.2.2.1 e2.2.2.2.2.2.2.2.2.1 e2.2.2.2.2.2.2.2.2.2.1 e2.2.2.2.2.2.2.2.2.2.2.1 e2.2.2.2.2.2.2.2.2.2.2.2.1 e2.2.2.2.2.2.2.2.2.2.2.2.2.1 e2.2.2.2.2.2.2.2.2.2.2.2.2.2.1 e2.2.2.2.2.2.2.2.2.2.2.2.2.2.2.1 e2.2.2.2.2.2.2.2.2.2.2.2.2.2.2.2.1 e2.2.2.2.2.2.2.2.2.2.2.2.2.2.2.2.2.1 e2.2.2.2.2.2.2.2.2.2.2.2.2.2.2.2.2.2.1 e2.2.2.2.2.2.2.2.2.2.2.2.2.2.2.2.2.2.2.1 e2.2.2.2.2.2.2.2.2.2.2.2.2.2.2.2.2.2.2.2.1 e2.2.2.2.2.2.2.2.2.2.2.2.2.2.2.2.2.2.2.2.2.1 e2.2.2.2.2.2.2.2.2.2.2.2.2.2.2.2.2.2.2.2.2.2.1 e2.2.2.2.2.2.2.2.2.2.2.2.2.2.2.2.2.2.2.2.2.2.2.1 e2.2.2.2.2.2.2.2.2.2.2.2.2.2.2.2.2.2.2.2.2.2.2.2.1 e2.2.2.2.2.2.2.2.2.2.2.2.2.2.2.2.2.2.2.2.2.2.2.2.2.1 (lI s1 1) fun n3 =>
 br (decide (n3 < 0)) (
 some (.inr (0, [.i n3, .i (-1)]))) (
 some (.inl [.l (lL s1 0), .i n3, .i (IntKind.wrap .i64 ((lI s1 2) + 1))]))) (
 some (.inr (1, [.i (lI s1 1)])))) [.l a, .i (IntKind.wrap .i64 (left - (a.length : Int))), .i 0] fun (r4 : Nat × List Leaf) =>
 if r4.1 = 0 then
 k (lI r4.2 1)
 else
 k (lI r4.2 0))
def F89 : T89 := P89 F151 
def X89 : Exits := fun i => lookN i [] [(5, [(.ret, xk 27 [(1, .int .i64 0), (4, .int .i64 0)] []), (.exit 0, xk 27 [(1, .int .i64 0)] [])])]
abbrev s89 : List (Bool × List CK) := [(false, [.sl 25 false]), (false, [.int .i64])]
def G89 (F : T89) (β : Type) (e : (List V × Unit) × (Int × Unit) × Unit) (k : V → Option β) : Option β := F β e.1.1 e.2.1.1 (fun y1 => k (.int .i64 y1))
abbrev W89 (F : T89) : WT := wrap s89 (G89 F)
theorem k89 (F151 : T151) (β : Type) (e : argsT s89) (k : V → Option β) : fnK cfg (tabL [(151, W151 F151)]) X89 89 Tryz.f89 β (argsEnc s89 e) k = G89 (P89 F151 ) β e k := by kernel_rfl
theorem ok89 : FnOk D 89 (W89 F89) := fn_okW [(151, W151 F151)] X89 (fun _ => rfl) Tryz.func89 rfl (tabL_cons ok151 tabL_nil) (k89 F151 )

/-- laws.szTab -/
abbrev T23 : Type 1 := (β : Type) → List V → Int → Int → (Int → Option β) → Option β
def P23 (F89 : T89) : T23 := fun β a_Visits a_At left k =>
 F89 _ a_Visits left fun n1 =>
 br (decide (n1 < 0)) (
 k (-1)) (
 k n1)
def F23 : T23 := P23 F89 
abbrev s23 : List (Bool × List CK) := [(true, [.sl 25 false, .int .i64]), (false, [.int .i64])]
def G23 (F : T23) (β : Type) (e : (List V × Int × Unit) × (Int × Unit) × Unit) (k : V → Option β) : Option β := F β e.1.1 e.1.2.1 e.2.1.1 (fun y1 => k (.int .i64 y1))
abbrev W23 (F : T23) : WT := wrap s23 (G23 F)
theorem k23 (F89 : T89) (β : Type) (e : argsT s23) (k : V → Option β) : fnK cfg (tabL [(89, W89 F89)]) noX 23 Tryz.f23 β (argsEnc s23 e) k = G23 (P23 F89 ) β e k := by kernel_rfl
theorem ok23 : FnOk D 23 (W23 F23) := fn_okW [(89, W89 F89)] noX (fun _ => rfl) Tryz.func23 rfl (tabL_cons ok89 tabL_nil) (k23 F89 )

/-- laws.szKept -/
abbrev T98 : Type 1 := (β : Type) → List UInt8 → List UInt8 → Int → Int → List UInt8 → Int → Bool → List UInt8 → Int → (Int → Option β) → Option β
def P98 (F50 : T50) (F160 : T160) : T98 := fun β a_To_Host a_To_Path a_Response_Status a_Response_Kind a_Response_Body a_Response_Age a_Response_Shares a_Response_Policy left k =>
 F50 _ a_To_Host a_To_Path left fun n1 =>
 br (decide (n1 < 0)) (
 k (-1)) (
 F160 _ a_Response_Status a_Response_Kind a_Response_Body a_Response_Age a_Response_Shares a_Response_Policy n1 fun n2 =>
 br (decide (n2 < 0)) (
 k (-1)) (
 k n2))
def F98 : T98 := P98 F50 F160 
abbrev s98 : List (Bool × List CK) := [(true, [.str, .str, .int .i64, .int .i64, .str, .int .i64, .bool, .str]), (false, [.int .i64])]
def G98 (F : T98) (β : Type) (e : (List UInt8 × List UInt8 × Int × Int × List UInt8 × Int × Bool × List UInt8 × Unit) × (Int × Unit) × Unit) (k : V → Option β) : Option β := let a0_0 := e.1; let a0_1 := a0_0.2; let a0_2 := a0_1.2; let a0_3 := a0_2.2; let a0_4 := a0_3.2; let a0_5 := a0_4.2; let a0_6 := a0_5.2; let a0_7 := a0_6.2; F β a0_0.1 a0_1.1 a0_2.1 a0_3.1 a0_4.1 a0_5.1 a0_6.1 a0_7.1 e.2.1.1 (fun y1 => k (.int .i64 y1))
abbrev W98 (F : T98) : WT := wrap s98 (G98 F)
theorem k98 (F50 : T50) (F160 : T160) (β : Type) (e : argsT s98) (k : V → Option β) : fnK cfg (tabL [(50, W50 F50), (160, W160 F160)]) noX 98 Tryz.f98 β (argsEnc s98 e) k = G98 (P98 F50 F160 ) β e k := by kernel_rfl
theorem ok98 : FnOk D 98 (W98 F98) := fn_okW [(50, W50 F50), (160, W160 F160)] noX (fun _ => rfl) Tryz.func98 rfl (tabL_cons ok50 (tabL_cons ok160 tabL_nil)) (k98 F50 F160 )

/-- laws.szKeptS -/
abbrev T33 : Type 1 := (β : Type) → List V → Int → (Int → Option β) → Option β
def P33 (F98 : T98) : T33 := fun β a left k =>
 br (decide (IntKind.wrap .i64 (left - (a.length : Int)) < 0)) (
 k (-1)) (
 whileK (fun s1 =>
 br (decide ((lI s1 2) < ((lL s1 0).length : Int))) (
 chk (0 ≤ (lI s1 2)) <|
 idx true [.str, .str, .int .i64, .int .i64, .str, .int .i64, .bool, .str] (lL s1 0) ((lI s1 2).toNat) fun (e2 : List UInt8 × List UInt8 × Int × Int × List UInt8 × Int × Bool × List UInt8 × Unit) =>
 F98 _ e2.1 e2.2.1 e2.2.2.1 e2.2.2.2.1 e2.2.2.2.2.1 e2.2.2.2.2.2.1 e2.2.2.2.2.2.2.1 e2.2.2.2.2.2.2.2.1 (lI s1 1) fun n3 =>
 br (decide (n3 < 0)) (
 some (.inr (0, [.i n3, .i (-1)]))) (
 some (.inl [.l (lL s1 0), .i n3, .i (IntKind.wrap .i64 ((lI s1 2) + 1))]))) (
 some (.inr (1, [.i (lI s1 1)])))) [.l a, .i (IntKind.wrap .i64 (left - (a.length : Int))), .i 0] fun (r4 : Nat × List Leaf) =>
 if r4.1 = 0 then
 k (lI r4.2 1)
 else
 k (lI r4.2 0))
def F33 : T33 := P33 F98 
def X33 : Exits := fun i => lookN i [] [(5, [(.ret, xk 27 [(1, .int .i64 0), (4, .int .i64 0)] []), (.exit 0, xk 27 [(1, .int .i64 0)] [])])]
abbrev s33 : List (Bool × List CK) := [(false, [.sl 8 true]), (false, [.int .i64])]
def G33 (F : T33) (β : Type) (e : (List V × Unit) × (Int × Unit) × Unit) (k : V → Option β) : Option β := F β e.1.1 e.2.1.1 (fun y1 => k (.int .i64 y1))
abbrev W33 (F : T33) : WT := wrap s33 (G33 F)
theorem k33 (F98 : T98) (β : Type) (e : argsT s33) (k : V → Option β) : fnK cfg (tabL [(98, W98 F98)]) X33 33 Tryz.f33 β (argsEnc s33 e) k = G33 (P33 F98 ) β e k := by kernel_rfl
theorem ok33 : FnOk D 33 (W33 F33) := fn_okW [(98, W98 F98)] X33 (fun _ => rfl) Tryz.func33 rfl (tabL_cons ok98 tabL_nil) (k33 F98 )

/-- laws.szHidden -/
abbrev T8 : Type 1 := (β : Type) → Bool → List UInt8 → List UInt8 → Bool → List V → List V → List V → List UInt8 → List UInt8 → List V → Bool → List V → List V → List V → List V → List V → Int → Int → Int → Int → List V → List V → Bool → List V → List V → Int → Int → (Int → Option β) → Option β
def P8 (F18 : T18) (F33 : T33) (F34 : T34) : T8 := fun β a_Ready a_Page_Addr_Host a_Page_Addr_Path a_Page_Policy_Set a_Page_Policy_Scripts a_Page_Policy_Styles a_Page_Policy_Images a_Page_Policy_Nonce a_Page_Tok_Rest a_Page_Queue a_Page_Ended a_Page_Builder_Nodes a_Page_Builder_Open a_Page_Slots a_Page_Mods a_Page_Entries a_Page_Block a_Page_Inline a_Page_Deferred a_Page_Entered a_Page_Ran a_Page_Log a_Page_Loaded a_Taken a_Servers a_Now left k =>
 F18 _ a_Page_Addr_Host a_Page_Addr_Path a_Page_Policy_Set a_Page_Policy_Scripts a_Page_Policy_Styles a_Page_Policy_Images a_Page_Policy_Nonce a_Page_Tok_Rest a_Page_Queue a_Page_Ended a_Page_Builder_Nodes a_Page_Builder_Open a_Page_Slots a_Page_Mods a_Page_Entries a_Page_Block a_Page_Inline a_Page_Deferred a_Page_Entered a_Page_Ran a_Page_Log a_Page_Loaded left fun n1 =>
 br (decide (n1 < 0)) (
 k (-1)) (
 F33 _ a_Taken n1 fun n2 =>
 br (decide (n2 < 0)) (
 k (-1)) (
 F34 _ a_Servers n2 fun n3 =>
 br (decide (n3 < 0)) (
 k (-1)) (
 k n3)))
def F8 : T8 := P8 F18 F33 F34 
abbrev s8 : List (Bool × List CK) := [(true, [.bool, .str, .str, .bool, .sl 1 true, .sl 1 true, .sl 1 true, .str, .str, .sl 4 false, .bool, .sl 4 false, .sl 1 true, .sl 8 true, .sl 5 true, .sl 2 true, .int .i64, .int .i64, .int .i64, .int .i64, .sl 2 true, .sl 1 true, .bool, .sl 8 true, .sl 2 false, .int .i64]), (false, [.int .i64])]
def G8 (F : T8) (β : Type) (e : (Bool × List UInt8 × List UInt8 × Bool × List V × List V × List V × List UInt8 × List UInt8 × List V × Bool × List V × List V × List V × List V × List V × Int × Int × Int × Int × List V × List V × Bool × List V × List V × Int × Unit) × (Int × Unit) × Unit) (k : V → Option β) : Option β := let a0_0 := e.1; let a0_1 := a0_0.2; let a0_2 := a0_1.2; let a0_3 := a0_2.2; let a0_4 := a0_3.2; let a0_5 := a0_4.2; let a0_6 := a0_5.2; let a0_7 := a0_6.2; let a0_8 := a0_7.2; let a0_9 := a0_8.2; let a0_10 := a0_9.2; let a0_11 := a0_10.2; let a0_12 := a0_11.2; let a0_13 := a0_12.2; let a0_14 := a0_13.2; let a0_15 := a0_14.2; let a0_16 := a0_15.2; let a0_17 := a0_16.2; let a0_18 := a0_17.2; let a0_19 := a0_18.2; let a0_20 := a0_19.2; let a0_21 := a0_20.2; let a0_22 := a0_21.2; let a0_23 := a0_22.2; let a0_24 := a0_23.2; let a0_25 := a0_24.2; F β a0_0.1 a0_1.1 a0_2.1 a0_3.1 a0_4.1 a0_5.1 a0_6.1 a0_7.1 a0_8.1 a0_9.1 a0_10.1 a0_11.1 a0_12.1 a0_13.1 a0_14.1 a0_15.1 a0_16.1 a0_17.1 a0_18.1 a0_19.1 a0_20.1 a0_21.1 a0_22.1 a0_23.1 a0_24.1 a0_25.1 e.2.1.1 (fun y1 => k (.int .i64 y1))
abbrev W8 (F : T8) : WT := wrap s8 (G8 F)
theorem k8 (F18 : T18) (F33 : T33) (F34 : T34) (β : Type) (e : argsT s8) (k : V → Option β) : fnK cfg (tabL [(18, W18 F18), (33, W33 F33), (34, W34 F34)]) noX 8 Tryz.f8 β (argsEnc s8 e) k = G8 (P8 F18 F33 F34 ) β e k := by kernel_rfl
theorem ok8 : FnOk D 8 (W8 F8) := fn_okW [(18, W18 F18), (33, W33 F33), (34, W34 F34)] noX (fun _ => rfl) Tryz.func8 rfl (tabL_cons ok18 (tabL_cons ok33 (tabL_cons ok34 tabL_nil))) (k8 F18 F33 F34 )

/-- laws.szWorld -/
abbrev T28 : Type 1 := (β : Type) → List V → List V → List V → Int → List V → Int → Bool → List UInt8 → List UInt8 → Bool → List V → List V → List V → List UInt8 → List UInt8 → List V → Bool → List V → List V → List V → List V → List V → Int → Int → Int → Int → List V → List V → Bool → List V → List V → Int → Bool → Int → (Int → Option β) → Option β
def P28 (F13 : T13) (F23 : T23) (F8 : T8) : T28 := fun β a_Net_Servers a_Net_Cache_Entries a_Net_Log a_Net_Now a_Tab_Visits a_Tab_At a_Hidden_Ready a_Hidden_Page_Addr_Host a_Hidden_Page_Addr_Path a_Hidden_Page_Policy_Set a_Hidden_Page_Policy_Scripts a_Hidden_Page_Policy_Styles a_Hidden_Page_Policy_Images a_Hidden_Page_Policy_Nonce a_Hidden_Page_Tok_Rest a_Hidden_Page_Queue a_Hidden_Page_Ended a_Hidden_Page_Builder_Nodes a_Hidden_Page_Builder_Open a_Hidden_Page_Slots a_Hidden_Page_Mods a_Hidden_Page_Entries a_Hidden_Page_Block a_Hidden_Page_Inline a_Hidden_Page_Deferred a_Hidden_Page_Entered a_Hidden_Page_Ran a_Hidden_Page_Log a_Hidden_Page_Loaded a_Hidden_Taken a_Hidden_Servers a_Hidden_Now a_Fast left k =>
 F13 _ a_Net_Servers a_Net_Cache_Entries a_Net_Log a_Net_Now left fun n1 =>
 br (decide (n1 < 0)) (
 k (-1)) (
 F23 _ a_Tab_Visits a_Tab_At n1 fun n2 =>
 br (decide (n2 < 0)) (
 k (-1)) (
 F8 _ a_Hidden_Ready a_Hidden_Page_Addr_Host a_Hidden_Page_Addr_Path a_Hidden_Page_Policy_Set a_Hidden_Page_Policy_Scripts a_Hidden_Page_Policy_Styles a_Hidden_Page_Policy_Images a_Hidden_Page_Policy_Nonce a_Hidden_Page_Tok_Rest a_Hidden_Page_Queue a_Hidden_Page_Ended a_Hidden_Page_Builder_Nodes a_Hidden_Page_Builder_Open a_Hidden_Page_Slots a_Hidden_Page_Mods a_Hidden_Page_Entries a_Hidden_Page_Block a_Hidden_Page_Inline a_Hidden_Page_Deferred a_Hidden_Page_Entered a_Hidden_Page_Ran a_Hidden_Page_Log a_Hidden_Page_Loaded a_Hidden_Taken a_Hidden_Servers a_Hidden_Now n2 fun n3 =>
 br (decide (n3 < 0)) (
 k (-1)) (
 k n3)))
def F28 : T28 := P28 F13 F23 F8 
abbrev s28 : List (Bool × List CK) := [(true, [.sl 2 false, .sl 10 true, .sl 4 true, .int .i64, .sl 25 false, .int .i64, .bool, .str, .str, .bool, .sl 1 true, .sl 1 true, .sl 1 true, .str, .str, .sl 4 false, .bool, .sl 4 false, .sl 1 true, .sl 8 true, .sl 5 true, .sl 2 true, .int .i64, .int .i64, .int .i64, .int .i64, .sl 2 true, .sl 1 true, .bool, .sl 8 true, .sl 2 false, .int .i64, .bool]), (false, [.int .i64])]
def G28 (F : T28) (β : Type) (e : (List V × List V × List V × Int × List V × Int × Bool × List UInt8 × List UInt8 × Bool × List V × List V × List V × List UInt8 × List UInt8 × List V × Bool × List V × List V × List V × List V × List V × Int × Int × Int × Int × List V × List V × Bool × List V × List V × Int × Bool × Unit) × (Int × Unit) × Unit) (k : V → Option β) : Option β := let a0_0 := e.1; let a0_1 := a0_0.2; let a0_2 := a0_1.2; let a0_3 := a0_2.2; let a0_4 := a0_3.2; let a0_5 := a0_4.2; let a0_6 := a0_5.2; let a0_7 := a0_6.2; let a0_8 := a0_7.2; let a0_9 := a0_8.2; let a0_10 := a0_9.2; let a0_11 := a0_10.2; let a0_12 := a0_11.2; let a0_13 := a0_12.2; let a0_14 := a0_13.2; let a0_15 := a0_14.2; let a0_16 := a0_15.2; let a0_17 := a0_16.2; let a0_18 := a0_17.2; let a0_19 := a0_18.2; let a0_20 := a0_19.2; let a0_21 := a0_20.2; let a0_22 := a0_21.2; let a0_23 := a0_22.2; let a0_24 := a0_23.2; let a0_25 := a0_24.2; let a0_26 := a0_25.2; let a0_27 := a0_26.2; let a0_28 := a0_27.2; let a0_29 := a0_28.2; let a0_30 := a0_29.2; let a0_31 := a0_30.2; let a0_32 := a0_31.2; F β a0_0.1 a0_1.1 a0_2.1 a0_3.1 a0_4.1 a0_5.1 a0_6.1 a0_7.1 a0_8.1 a0_9.1 a0_10.1 a0_11.1 a0_12.1 a0_13.1 a0_14.1 a0_15.1 a0_16.1 a0_17.1 a0_18.1 a0_19.1 a0_20.1 a0_21.1 a0_22.1 a0_23.1 a0_24.1 a0_25.1 a0_26.1 a0_27.1 a0_28.1 a0_29.1 a0_30.1 a0_31.1 a0_32.1 e.2.1.1 (fun y1 => k (.int .i64 y1))
abbrev W28 (F : T28) : WT := wrap s28 (G28 F)
theorem k28 (F13 : T13) (F23 : T23) (F8 : T8) (β : Type) (e : argsT s28) (k : V → Option β) : fnK cfg (tabL [(13, W13 F13), (23, W23 F23), (8, W8 F8)]) noX 28 Tryz.f28 β (argsEnc s28 e) k = G28 (P28 F13 F23 F8 ) β e k := by kernel_rfl
theorem ok28 : FnOk D 28 (W28 F28) := fn_okW [(13, W13 F13), (23, W23 F23), (8, W8 F8)] noX (fun _ => rfl) Tryz.func28 rfl (tabL_cons ok13 (tabL_cons ok23 (tabL_cons ok8 tabL_nil))) (k28 F13 F23 F8 )

/-- laws.toResponse -/
abbrev T166 : Type 1 := (β : Type) → Int → Int → List UInt8 → Int → Bool → List UInt8 → (Int → Int → List UInt8 → Int → Bool → List UInt8 → Option β) → Option β
def P166 : T166 := fun β a_Status a_Kind a_Body a_Age a_Shares a_Policy k =>
 k a_Status a_Kind a_Body a_Age a_Shares a_Policy
def F166 : T166 := P166 
abbrev s166 : List (Bool × List CK) := [(true, [.int .i64, .int .i64, .str, .int .i64, .bool, .str])]
def G166 (F : T166) (β : Type) (e : (Int × Int × List UInt8 × Int × Bool × List UInt8 × Unit) × Unit) (k : V → Option β) : Option β := let a0_0 := e.1; let a0_1 := a0_0.2; let a0_2 := a0_1.2; let a0_3 := a0_2.2; let a0_4 := a0_3.2; let a0_5 := a0_4.2; F β a0_0.1 a0_1.1 a0_2.1 a0_3.1 a0_4.1 a0_5.1 (fun y1 y2 y3 y4 y5 y6 => k (.agg [.int .i64 y1, .int .i64 y2, .str y3, .int .i64 y4, .bool y5, .str y6]))
abbrev W166 (F : T166) : WT := wrap s166 (G166 F)
theorem k166 (β : Type) (e : argsT s166) (k : V → Option β) : fnK cfg (tabL []) noX 166 Tryz.f166 β (argsEnc s166 e) k = G166 (P166 ) β e k := by kernel_rfl
theorem ok166 : FnOk D 166 (W166 F166) := fn_okW [] noX (fun _ => rfl) Tryz.func166 rfl (tabL_nil) (k166 )

/-- laws.toFile -/
abbrev T190 : Type 1 := (β : Type) → List UInt8 → Int → Int → List UInt8 → Int → Bool → List UInt8 → (List UInt8 → Int → Int → List UInt8 → Int → Bool → List UInt8 → Option β) → Option β
def P190 (F166 : T166) : T190 := fun β a_Path a_Response_Status a_Response_Kind a_Response_Body a_Response_Age a_Response_Shares a_Response_Policy k =>
 F166 _ a_Response_Status a_Response_Kind a_Response_Body a_Response_Age a_Response_Shares a_Response_Policy fun n1 n2 t3 n4 b5 t6 =>
 k a_Path n1 n2 t3 n4 b5 t6
def F190 : T190 := P190 F166 
abbrev s190 : List (Bool × List CK) := [(true, [.str, .int .i64, .int .i64, .str, .int .i64, .bool, .str])]
def G190 (F : T190) (β : Type) (e : (List UInt8 × Int × Int × List UInt8 × Int × Bool × List UInt8 × Unit) × Unit) (k : V → Option β) : Option β := let a0_0 := e.1; let a0_1 := a0_0.2; let a0_2 := a0_1.2; let a0_3 := a0_2.2; let a0_4 := a0_3.2; let a0_5 := a0_4.2; let a0_6 := a0_5.2; F β a0_0.1 a0_1.1 a0_2.1 a0_3.1 a0_4.1 a0_5.1 a0_6.1 (fun y1 y2 y3 y4 y5 y6 y7 => k (.agg [.str y1, .int .i64 y2, .int .i64 y3, .str y4, .int .i64 y5, .bool y6, .str y7]))
abbrev W190 (F : T190) : WT := wrap s190 (G190 F)
theorem k190 (F166 : T166) (β : Type) (e : argsT s190) (k : V → Option β) : fnK cfg (tabL [(166, W166 F166)]) noX 190 Tryz.f190 β (argsEnc s190 e) k = G190 (P190 F166 ) β e k := by kernel_rfl
theorem ok190 : FnOk D 190 (W190 F190) := fn_okW [(166, W166 F166)] noX (fun _ => rfl) Tryz.func190 rfl (tabL_cons ok166 tabL_nil) (k190 F166 )

/-- laws.toFileS -/
abbrev T167 : Type 1 := (β : Type) → List V → (List V → Option β) → Option β
def P167 (F190 : T190) : T167 := fun β a k =>
 chk (0 ≤ (a.length : Int) ∧ (a.length : Int) ≤ (a.length : Int) ∧ (a.length : Int) * 80 ≤ 140737488355328 ∧ (a.length : Int) ≤ 140737488355328) <|
 whileK (fun s1 =>
 br (decide ((lI s1 2) < ((lL s1 0).length : Int))) (
 chk (0 ≤ (lI s1 2)) <|
 idx true [.str, .int .i64, .int .i64, .str, .int .i64, .bool, .str] (lL s1 0) ((lI s1 2).toNat) fun (e2 : List UInt8 × Int × Int × List UInt8 × Int × Bool × List UInt8 × Unit) =>
 F190 _ e2.1 e2.2.1 e2.2.2.1 e2.2.2.2.1 e2.2.2.2.2.1 e2.2.2.2.2.2.1 e2.2.2.2.2.2.2.1 fun t3 n4 n5 t6 n7 b8 t9 =>
 chk (0 ≤ (lI s1 2) ∧ (lI s1 2).toNat < (lL s1 1).length) <|
 storeO (lL s1 1) ((lI s1 2).toNat) 0 [.str t3, .int .i64 n4, .int .i64 n5, .str t6, .int .i64 n7, .bool b8, .str t9] fun l10 =>
 some (.inl [.l (lL s1 0), .l l10, .i (IntKind.wrap .i64 ((lI s1 2) + 1))])) (
 some (.inr (0, [.l (lL s1 1)])))) [.l a, .l (List.replicate ((a.length : Int).toNat) (.agg [.str [], .int .i64 0, .int .i64 0, .str [], .int .i64 0, .bool false, .str []])), .i 0] fun (r11 : Nat × List Leaf) =>
 k (lL r11.2 0)
def F167 : T167 := P167 F190 
def X167 : Exits := fun i => lookN i [] [(3, [(.exit 0, xk 23 [(3, .own 1000000 7 .flat [])] [])])]
abbrev s167 : List (Bool × List CK) := [(false, [.sl 7 true])]
def G167 (F : T167) (β : Type) (e : (List V × Unit) × Unit) (k : V → Option β) : Option β := F β e.1.1 (fun y1 => k (.own 0 7 .flat y1))
abbrev W167 (F : T167) : WT := wrap s167 (G167 F)
theorem k167 (F190 : T190) (β : Type) (e : argsT s167) (k : V → Option β) : fnK cfg (tabL [(190, W190 F190)]) X167 167 Tryz.f167 β (argsEnc s167 e) k = G167 (P167 F190 ) β e k := by kernel_rfl
theorem ok167 : FnOk D 167 (W167 F167) := fn_okW [(190, W190 F190)] X167 (fun _ => rfl) Tryz.func167 rfl (tabL_cons ok190 tabL_nil) (k167 F190 )

/-- laws.toServer -/
abbrev T107 : Type 1 := (β : Type) → List UInt8 → List V → (List UInt8 → List V → Option β) → Option β
def P107 (F167 : T167) : T107 := fun β a_Host a_Files k =>
 F167 _ a_Files fun l1 =>
 k a_Host l1
def F107 : T107 := P107 F167 
abbrev s107 : List (Bool × List CK) := [(true, [.str, .sl 7 true])]
def G107 (F : T107) (β : Type) (e : (List UInt8 × List V × Unit) × Unit) (k : V → Option β) : Option β := F β e.1.1 e.1.2.1 (fun y1 y2 => k (.agg [.str y1, .own 1 7 .flat y2]))
abbrev W107 (F : T107) : WT := wrap s107 (G107 F)
theorem k107 (F167 : T167) (β : Type) (e : argsT s107) (k : V → Option β) : fnK cfg (tabL [(167, W167 F167)]) noX 107 Tryz.f107 β (argsEnc s107 e) k = G107 (P107 F167 ) β e k := by kernel_rfl
theorem ok107 : FnOk D 107 (W107 F107) := fn_okW [(167, W167 F167)] noX (fun _ => rfl) Tryz.func107 rfl (tabL_cons ok167 tabL_nil) (k107 F167 )

/-- laws.toServerS -/
abbrev T38 : Type 1 := (β : Type) → List V → (List V → Option β) → Option β
def P38 (F107 : T107) : T38 := fun β a k =>
 chk (0 ≤ (a.length : Int) ∧ (a.length : Int) ≤ (a.length : Int) ∧ (a.length : Int) * 40 ≤ 140737488355328 ∧ (a.length : Int) ≤ 140737488355328) <|
 whileK (fun s1 =>
 br (decide ((lI s1 2) < ((lL s1 0).length : Int))) (
 chk (0 ≤ (lI s1 2)) <|
 idx true [.str, .sl 7 true] (lL s1 0) ((lI s1 2).toNat) fun (e2 : List UInt8 × List V × Unit) =>
 F107 _ e2.1 e2.2.1 fun t3 l4 =>
 chk (0 ≤ (lI s1 2) ∧ (lI s1 2).toNat < (lL s1 1).length) <|
 storeO (lL s1 1) ((lI s1 2).toNat) 0 [.str t3, .sl 7 true l4] fun l5 =>
 some (.inl [.l (lL s1 0), .l l5, .i (IntKind.wrap .i64 ((lI s1 2) + 1))])) (
 some (.inr (0, [.l (lL s1 1)])))) [.l a, .l (List.replicate ((a.length : Int).toNat) (.agg [.str [], .sl 7 true []])), .i 0] fun (r6 : Nat × List Leaf) =>
 k (lL r6.2 0)
def F38 : T38 := P38 F107 
def X38 : Exits := fun i => lookN i [] [(3, [(.exit 0, xk 23 [(3, .own 1000000 2 .clean [])] [])])]
abbrev s38 : List (Bool × List CK) := [(false, [.sl 2 false])]
def G38 (F : T38) (β : Type) (e : (List V × Unit) × Unit) (k : V → Option β) : Option β := F β e.1.1 (fun y1 => k (.own 0 2 .clean y1))
abbrev W38 (F : T38) : WT := wrap s38 (G38 F)
theorem k38 (F107 : T107) (β : Type) (e : argsT s38) (k : V → Option β) : fnK cfg (tabL [(107, W107 F107)]) X38 38 Tryz.f38 β (argsEnc s38 e) k = G38 (P38 F107 ) β e k := by kernel_rfl
theorem ok38 : FnOk D 38 (W38 F38) := fn_okW [(107, W107 F107)] X38 (fun _ => rfl) Tryz.func38 rfl (tabL_cons ok107 tabL_nil) (k38 F107 )

/-- laws.toAddr -/
abbrev T65 : Type 1 := (β : Type) → List UInt8 → List UInt8 → (List UInt8 → List UInt8 → Option β) → Option β
def P65 : T65 := fun β a_Host a_Path k =>
 k a_Host a_Path
def F65 : T65 := P65 
abbrev s65 : List (Bool × List CK) := [(true, [.str, .str])]
def G65 (F : T65) (β : Type) (e : (List UInt8 × List UInt8 × Unit) × Unit) (k : V → Option β) : Option β := F β e.1.1 e.1.2.1 (fun y1 y2 => k (.agg [.str y1, .str y2]))
abbrev W65 (F : T65) : WT := wrap s65 (G65 F)
theorem k65 (β : Type) (e : argsT s65) (k : V → Option β) : fnK cfg (tabL []) noX 65 Tryz.f65 β (argsEnc s65 e) k = G65 (P65 ) β e k := by kernel_rfl
theorem ok65 : FnOk D 65 (W65 F65) := fn_okW [] noX (fun _ => rfl) Tryz.func65 rfl (tabL_nil) (k65 )

/-- laws.toEntry -/
abbrev T175 : Type 1 := (β : Type) → List UInt8 → List UInt8 → List UInt8 → Int → Int → List UInt8 → Int → Bool → List UInt8 → Int → (List UInt8 → List UInt8 → List UInt8 → Int → Int → List UInt8 → Int → Bool → List UInt8 → Int → Option β) → Option β
def P175 (F65 : T65) (F166 : T166) : T175 := fun β a_Top a_To_Host a_To_Path a_Response_Status a_Response_Kind a_Response_Body a_Response_Age a_Response_Shares a_Response_Policy a_Until k =>
 F65 _ a_To_Host a_To_Path fun t1 t2 =>
 F166 _ a_Response_Status a_Response_Kind a_Response_Body a_Response_Age a_Response_Shares a_Response_Policy fun n3 n4 t5 n6 b7 t8 =>
 k a_Top t1 t2 n3 n4 t5 n6 b7 t8 a_Until
def F175 : T175 := P175 F65 F166 
abbrev s175 : List (Bool × List CK) := [(true, [.str, .str, .str, .int .i64, .int .i64, .str, .int .i64, .bool, .str, .int .i64])]
def G175 (F : T175) (β : Type) (e : (List UInt8 × List UInt8 × List UInt8 × Int × Int × List UInt8 × Int × Bool × List UInt8 × Int × Unit) × Unit) (k : V → Option β) : Option β := let a0_0 := e.1; let a0_1 := a0_0.2; let a0_2 := a0_1.2; let a0_3 := a0_2.2; let a0_4 := a0_3.2; let a0_5 := a0_4.2; let a0_6 := a0_5.2; let a0_7 := a0_6.2; let a0_8 := a0_7.2; let a0_9 := a0_8.2; F β a0_0.1 a0_1.1 a0_2.1 a0_3.1 a0_4.1 a0_5.1 a0_6.1 a0_7.1 a0_8.1 a0_9.1 (fun y1 y2 y3 y4 y5 y6 y7 y8 y9 y10 => k (.agg [.str y1, .str y2, .str y3, .int .i64 y4, .int .i64 y5, .str y6, .int .i64 y7, .bool y8, .str y9, .int .i64 y10]))
abbrev W175 (F : T175) : WT := wrap s175 (G175 F)
theorem k175 (F65 : T65) (F166 : T166) (β : Type) (e : argsT s175) (k : V → Option β) : fnK cfg (tabL [(65, W65 F65), (166, W166 F166)]) noX 175 Tryz.f175 β (argsEnc s175 e) k = G175 (P175 F65 F166 ) β e k := by kernel_rfl
theorem ok175 : FnOk D 175 (W175 F175) := fn_okW [(65, W65 F65), (166, W166 F166)] noX (fun _ => rfl) Tryz.func175 rfl (tabL_cons ok65 (tabL_cons ok166 tabL_nil)) (k175 F65 F166 )

/-- laws.toEntryS -/
abbrev T123 : Type 1 := (β : Type) → List V → (List V → Option β) → Option β
def P123 (F175 : T175) : T123 := fun β a k =>
 chk (0 ≤ (a.length : Int) ∧ (a.length : Int) ≤ (a.length : Int) ∧ (a.length : Int) * 120 ≤ 140737488355328 ∧ (a.length : Int) ≤ 140737488355328) <|
 whileK (fun s1 =>
 br (decide ((lI s1 2) < ((lL s1 0).length : Int))) (
 chk (0 ≤ (lI s1 2)) <|
 idx true [.str, .str, .str, .int .i64, .int .i64, .str, .int .i64, .bool, .str, .int .i64] (lL s1 0) ((lI s1 2).toNat) fun (e2 : List UInt8 × List UInt8 × List UInt8 × Int × Int × List UInt8 × Int × Bool × List UInt8 × Int × Unit) =>
 F175 _ e2.1 e2.2.1 e2.2.2.1 e2.2.2.2.1 e2.2.2.2.2.1 e2.2.2.2.2.2.1 e2.2.2.2.2.2.2.1 e2.2.2.2.2.2.2.2.1 e2.2.2.2.2.2.2.2.2.1 e2.2.2.2.2.2.2.2.2.2.1 fun t3 t4 t5 n6 n7 t8 n9 b10 t11 n12 =>
 chk (0 ≤ (lI s1 2) ∧ (lI s1 2).toNat < (lL s1 1).length) <|
 storeO (lL s1 1) ((lI s1 2).toNat) 0 [.str t3, .str t4, .str t5, .int .i64 n6, .int .i64 n7, .str t8, .int .i64 n9, .bool b10, .str t11, .int .i64 n12] fun l13 =>
 some (.inl [.l (lL s1 0), .l l13, .i (IntKind.wrap .i64 ((lI s1 2) + 1))])) (
 some (.inr (0, [.l (lL s1 1)])))) [.l a, .l (List.replicate ((a.length : Int).toNat) (.agg [.str [], .str [], .str [], .int .i64 0, .int .i64 0, .str [], .int .i64 0, .bool false, .str [], .int .i64 0])), .i 0] fun (r14 : Nat × List Leaf) =>
 k (lL r14.2 0)
def F123 : T123 := P123 F175 
def X123 : Exits := fun i => lookN i [] [(3, [(.exit 0, xk 23 [(3, .own 1000000 10 .flat [])] [])])]
abbrev s123 : List (Bool × List CK) := [(false, [.sl 10 true])]
def G123 (F : T123) (β : Type) (e : (List V × Unit) × Unit) (k : V → Option β) : Option β := F β e.1.1 (fun y1 => k (.own 0 10 .flat y1))
abbrev W123 (F : T123) : WT := wrap s123 (G123 F)
theorem k123 (F175 : T175) (β : Type) (e : argsT s123) (k : V → Option β) : fnK cfg (tabL [(175, W175 F175)]) X123 123 Tryz.f123 β (argsEnc s123 e) k = G123 (P123 F175 ) β e k := by kernel_rfl
theorem ok123 : FnOk D 123 (W123 F123) := fn_okW [(175, W175 F175)] X123 (fun _ => rfl) Tryz.func123 rfl (tabL_cons ok175 tabL_nil) (k123 F175 )

/-- laws.toCache -/
abbrev T46 : Type 1 := (β : Type) → List V → (List V → Option β) → Option β
def P46 (F123 : T123) : T46 := fun β a_Entries k =>
 F123 _ a_Entries fun l1 =>
 k l1
def F46 : T46 := P46 F123 
abbrev s46 : List (Bool × List CK) := [(true, [.sl 10 true])]
def G46 (F : T46) (β : Type) (e : (List V × Unit) × Unit) (k : V → Option β) : Option β := F β e.1.1 (fun y1 => k (.agg [.own 0 10 .flat y1]))
abbrev W46 (F : T46) : WT := wrap s46 (G46 F)
theorem k46 (F123 : T123) (β : Type) (e : argsT s46) (k : V → Option β) : fnK cfg (tabL [(123, W123 F123)]) noX 46 Tryz.f46 β (argsEnc s46 e) k = G46 (P46 F123 ) β e k := by kernel_rfl
theorem ok46 : FnOk D 46 (W46 F46) := fn_okW [(123, W123 F123)] noX (fun _ => rfl) Tryz.func46 rfl (tabL_cons ok123 tabL_nil) (k46 F123 )

/-- laws.toSent -/
abbrev T124 : Type 1 := (β : Type) → List UInt8 → List UInt8 → List UInt8 → Bool → (List UInt8 → List UInt8 → List UInt8 → Bool → Option β) → Option β
def P124 (F65 : T65) : T124 := fun β a_Top a_To_Host a_To_Path a_Guess k =>
 F65 _ a_To_Host a_To_Path fun t1 t2 =>
 k a_Top t1 t2 a_Guess
def F124 : T124 := P124 F65 
abbrev s124 : List (Bool × List CK) := [(true, [.str, .str, .str, .bool])]
def G124 (F : T124) (β : Type) (e : (List UInt8 × List UInt8 × List UInt8 × Bool × Unit) × Unit) (k : V → Option β) : Option β := F β e.1.1 e.1.2.1 e.1.2.2.1 e.1.2.2.2.1 (fun y1 y2 y3 y4 => k (.agg [.str y1, .str y2, .str y3, .bool y4]))
abbrev W124 (F : T124) : WT := wrap s124 (G124 F)
theorem k124 (F65 : T65) (β : Type) (e : argsT s124) (k : V → Option β) : fnK cfg (tabL [(65, W65 F65)]) noX 124 Tryz.f124 β (argsEnc s124 e) k = G124 (P124 F65 ) β e k := by kernel_rfl
theorem ok124 : FnOk D 124 (W124 F124) := fn_okW [(65, W65 F65)] noX (fun _ => rfl) Tryz.func124 rfl (tabL_cons ok65 tabL_nil) (k124 F65 )

/-- laws.toSentS -/
abbrev T47 : Type 1 := (β : Type) → List V → (List V → Option β) → Option β
def P47 (F124 : T124) : T47 := fun β a k =>
 chk (0 ≤ (a.length : Int) ∧ (a.length : Int) ≤ (a.length : Int) ∧ (a.length : Int) * 56 ≤ 140737488355328 ∧ (a.length : Int) ≤ 140737488355328) <|
 whileK (fun s1 =>
 br (decide ((lI s1 2) < ((lL s1 0).length : Int))) (
 chk (0 ≤ (lI s1 2)) <|
 idx true [.str, .str, .str, .bool] (lL s1 0) ((lI s1 2).toNat) fun (e2 : List UInt8 × List UInt8 × List UInt8 × Bool × Unit) =>
 F124 _ e2.1 e2.2.1 e2.2.2.1 e2.2.2.2.1 fun t3 t4 t5 b6 =>
 chk (0 ≤ (lI s1 2) ∧ (lI s1 2).toNat < (lL s1 1).length) <|
 storeO (lL s1 1) ((lI s1 2).toNat) 0 [.str t3, .str t4, .str t5, .bool b6] fun l7 =>
 some (.inl [.l (lL s1 0), .l l7, .i (IntKind.wrap .i64 ((lI s1 2) + 1))])) (
 some (.inr (0, [.l (lL s1 1)])))) [.l a, .l (List.replicate ((a.length : Int).toNat) (.agg [.str [], .str [], .str [], .bool false])), .i 0] fun (r8 : Nat × List Leaf) =>
 k (lL r8.2 0)
def F47 : T47 := P47 F124 
def X47 : Exits := fun i => lookN i [] [(3, [(.exit 0, xk 23 [(3, .own 1000000 4 .flat [])] [])])]
abbrev s47 : List (Bool × List CK) := [(false, [.sl 4 true])]
def G47 (F : T47) (β : Type) (e : (List V × Unit) × Unit) (k : V → Option β) : Option β := F β e.1.1 (fun y1 => k (.own 0 4 .flat y1))
abbrev W47 (F : T47) : WT := wrap s47 (G47 F)
theorem k47 (F124 : T124) (β : Type) (e : argsT s47) (k : V → Option β) : fnK cfg (tabL [(124, W124 F124)]) X47 47 Tryz.f47 β (argsEnc s47 e) k = G47 (P47 F124 ) β e k := by kernel_rfl
theorem ok47 : FnOk D 47 (W47 F47) := fn_okW [(124, W124 F124)] X47 (fun _ => rfl) Tryz.func47 rfl (tabL_cons ok124 tabL_nil) (k47 F124 )

/-- laws.toNet -/
abbrev T15 : Type 1 := (β : Type) → List V → List V → List V → Int → (List V → List V → List V → Int → Option β) → Option β
def P15 (F38 : T38) (F46 : T46) (F47 : T47) : T15 := fun β a_Servers a_Cache_Entries a_Log a_Now k =>
 F38 _ a_Servers fun l1 =>
 F46 _ a_Cache_Entries fun l2 =>
 F47 _ a_Log fun l3 =>
 k l1 l2 l3 a_Now
def F15 : T15 := P15 F38 F46 F47 
abbrev s15 : List (Bool × List CK) := [(true, [.sl 2 false, .sl 10 true, .sl 4 true, .int .i64])]
def G15 (F : T15) (β : Type) (e : (List V × List V × List V × Int × Unit) × Unit) (k : V → Option β) : Option β := F β e.1.1 e.1.2.1 e.1.2.2.1 e.1.2.2.2.1 (fun y1 y2 y3 y4 => k (.agg [.own 0 2 .clean y1, .own 1 10 .flat y2, .own 2 4 .flat y3, .int .i64 y4]))
abbrev W15 (F : T15) : WT := wrap s15 (G15 F)
theorem k15 (F38 : T38) (F46 : T46) (F47 : T47) (β : Type) (e : argsT s15) (k : V → Option β) : fnK cfg (tabL [(38, W38 F38), (46, W46 F46), (47, W47 F47)]) noX 15 Tryz.f15 β (argsEnc s15 e) k = G15 (P15 F38 F46 F47 ) β e k := by kernel_rfl
theorem ok15 : FnOk D 15 (W15 F15) := fn_okW [(38, W38 F38), (46, W46 F46), (47, W47 F47)] noX (fun _ => rfl) Tryz.func15 rfl (tabL_cons ok38 (tabL_cons ok46 (tabL_cons ok47 tabL_nil))) (k15 F38 F46 F47 )

/-- laws.toStringS -/
abbrev T73 : Type 1 := (β : Type) → List V → (List V → Option β) → Option β
def P73 : T73 := fun β a k =>
 chk (0 ≤ (a.length : Int) ∧ (a.length : Int) ≤ (a.length : Int) ∧ (a.length : Int) * 16 ≤ 140737488355328 ∧ (a.length : Int) ≤ 140737488355328) <|
 whileK (fun s1 =>
 br (decide ((lI s1 2) < ((lL s1 0).length : Int))) (
 chk (0 ≤ (lI s1 2)) <|
 idx false [.str] (lL s1 0) ((lI s1 2).toNat) fun (e2 : List UInt8 × Unit) =>
 chk (0 ≤ (lI s1 2) ∧ (lI s1 2).toNat < (lL s1 1).length) <|
 storeO (lL s1 1) ((lI s1 2).toNat) 0 [.str e2.1] fun l3 =>
 some (.inl [.l (lL s1 0), .l l3, .i (IntKind.wrap .i64 ((lI s1 2) + 1))])) (
 some (.inr (0, [.l (lL s1 1)])))) [.l a, .l (List.replicate ((a.length : Int).toNat) (.str [])), .i 0] fun (r4 : Nat × List Leaf) =>
 k (lL r4.2 0)
def F73 : T73 := P73 
def X73 : Exits := fun i => lookN i [] [(3, [(.exit 0, xk 22 [(3, .own 1000000 1 .flat [])] [])])]
abbrev s73 : List (Bool × List CK) := [(false, [.sl 1 true])]
def G73 (F : T73) (β : Type) (e : (List V × Unit) × Unit) (k : V → Option β) : Option β := F β e.1.1 (fun y1 => k (.own 0 1 .flat y1))
abbrev W73 (F : T73) : WT := wrap s73 (G73 F)
theorem k73 (β : Type) (e : argsT s73) (k : V → Option β) : fnK cfg (tabL []) X73 73 Tryz.f73 β (argsEnc s73 e) k = G73 (P73 ) β e k := by kernel_rfl
theorem ok73 : FnOk D 73 (W73 F73) := fn_okW [] X73 (fun _ => rfl) Tryz.func73 rfl (tabL_nil) (k73 )

/-- laws.toPolicy -/
abbrev T66 : Type 1 := (β : Type) → Bool → List V → List V → List V → List UInt8 → (Bool → List V → List V → List V → List UInt8 → Option β) → Option β
def P66 (F73 : T73) : T66 := fun β a_Set a_Scripts a_Styles a_Images a_Nonce k =>
 F73 _ a_Scripts fun l1 =>
 F73 _ a_Styles fun l2 =>
 F73 _ a_Images fun l3 =>
 k a_Set l1 l2 l3 a_Nonce
def F66 : T66 := P66 F73 
abbrev s66 : List (Bool × List CK) := [(true, [.bool, .sl 1 true, .sl 1 true, .sl 1 true, .str])]
def G66 (F : T66) (β : Type) (e : (Bool × List V × List V × List V × List UInt8 × Unit) × Unit) (k : V → Option β) : Option β := let a0_0 := e.1; let a0_1 := a0_0.2; let a0_2 := a0_1.2; let a0_3 := a0_2.2; let a0_4 := a0_3.2; F β a0_0.1 a0_1.1 a0_2.1 a0_3.1 a0_4.1 (fun y1 y2 y3 y4 y5 => k (.agg [.bool y1, .own 1 1 .flat y2, .own 2 1 .flat y3, .own 3 1 .flat y4, .str y5]))
abbrev W66 (F : T66) : WT := wrap s66 (G66 F)
theorem k66 (F73 : T73) (β : Type) (e : argsT s66) (k : V → Option β) : fnK cfg (tabL [(73, W73 F73)]) noX 66 Tryz.f66 β (argsEnc s66 e) k = G66 (P66 F73 ) β e k := by kernel_rfl
theorem ok66 : FnOk D 66 (W66 F66) := fn_okW [(73, W73 F73)] noX (fun _ => rfl) Tryz.func66 rfl (tabL_cons ok73 tabL_nil) (k66 F73 )

/-- laws.toTokenizer -/
abbrev T67 : Type 1 := (β : Type) → List UInt8 → (List UInt8 → Option β) → Option β
def P67 : T67 := fun β a_Rest k =>
 k a_Rest
def F67 : T67 := P67 
abbrev s67 : List (Bool × List CK) := [(true, [.str])]
def G67 (F : T67) (β : Type) (e : (List UInt8 × Unit) × Unit) (k : V → Option β) : Option β := F β e.1.1 (fun y1 => k (.agg [.str y1]))
abbrev W67 (F : T67) : WT := wrap s67 (G67 F)
theorem k67 (β : Type) (e : argsT s67) (k : V → Option β) : fnK cfg (tabL []) noX 67 Tryz.f67 β (argsEnc s67 e) k = G67 (P67 ) β e k := by kernel_rfl
theorem ok67 : FnOk D 67 (W67 F67) := fn_okW [] noX (fun _ => rfl) Tryz.func67 rfl (tabL_nil) (k67 )

/-- laws.toAttr -/
abbrev T193 : Type 1 := (β : Type) → List UInt8 → List UInt8 → (List UInt8 → List UInt8 → Option β) → Option β
def P193 : T193 := fun β a_Name a_Value k =>
 k a_Name a_Value
def F193 : T193 := P193 
abbrev s193 : List (Bool × List CK) := [(true, [.str, .str])]
def G193 (F : T193) (β : Type) (e : (List UInt8 × List UInt8 × Unit) × Unit) (k : V → Option β) : Option β := F β e.1.1 e.1.2.1 (fun y1 y2 => k (.agg [.str y1, .str y2]))
abbrev W193 (F : T193) : WT := wrap s193 (G193 F)
theorem k193 (β : Type) (e : argsT s193) (k : V → Option β) : fnK cfg (tabL []) noX 193 Tryz.f193 β (argsEnc s193 e) k = G193 (P193 ) β e k := by kernel_rfl
theorem ok193 : FnOk D 193 (W193 F193) := fn_okW [] noX (fun _ => rfl) Tryz.func193 rfl (tabL_nil) (k193 )

/-- laws.toAttrS -/
abbrev T180 : Type 1 := (β : Type) → List V → (List V → Option β) → Option β
def P180 (F193 : T193) : T180 := fun β a k =>
 chk (0 ≤ (a.length : Int) ∧ (a.length : Int) ≤ (a.length : Int) ∧ (a.length : Int) * 32 ≤ 140737488355328 ∧ (a.length : Int) ≤ 140737488355328) <|
 whileK (fun s1 =>
 br (decide ((lI s1 2) < ((lL s1 0).length : Int))) (
 chk (0 ≤ (lI s1 2)) <|
 idx true [.str, .str] (lL s1 0) ((lI s1 2).toNat) fun (e2 : List UInt8 × List UInt8 × Unit) =>
 F193 _ e2.1 e2.2.1 fun t3 t4 =>
 chk (0 ≤ (lI s1 2) ∧ (lI s1 2).toNat < (lL s1 1).length) <|
 storeO (lL s1 1) ((lI s1 2).toNat) 0 [.str t3, .str t4] fun l5 =>
 some (.inl [.l (lL s1 0), .l l5, .i (IntKind.wrap .i64 ((lI s1 2) + 1))])) (
 some (.inr (0, [.l (lL s1 1)])))) [.l a, .l (List.replicate ((a.length : Int).toNat) (.agg [.str [], .str []])), .i 0] fun (r6 : Nat × List Leaf) =>
 k (lL r6.2 0)
def F180 : T180 := P180 F193 
def X180 : Exits := fun i => lookN i [] [(3, [(.exit 0, xk 23 [(3, .own 1000000 2 .flat [])] [])])]
abbrev s180 : List (Bool × List CK) := [(false, [.sl 2 true])]
def G180 (F : T180) (β : Type) (e : (List V × Unit) × Unit) (k : V → Option β) : Option β := F β e.1.1 (fun y1 => k (.own 0 2 .flat y1))
abbrev W180 (F : T180) : WT := wrap s180 (G180 F)
theorem k180 (F193 : T193) (β : Type) (e : argsT s180) (k : V → Option β) : fnK cfg (tabL [(193, W193 F193)]) X180 180 Tryz.f180 β (argsEnc s180 e) k = G180 (P180 F193 ) β e k := by kernel_rfl
theorem ok180 : FnOk D 180 (W180 F180) := fn_okW [(193, W193 F193)] X180 (fun _ => rfl) Tryz.func180 rfl (tabL_cons ok193 tabL_nil) (k180 F193 )

/-- laws.toToken -/
abbrev T136 : Type 1 := (β : Type) → Int → List UInt8 → List V → List UInt8 → (Int → List UInt8 → List V → List UInt8 → Option β) → Option β
def P136 (F180 : T180) : T136 := fun β a_Kind a_Name a_Attrs a_Text k =>
 F180 _ a_Attrs fun l1 =>
 k a_Kind a_Name l1 a_Text
def F136 : T136 := P136 F180 
abbrev s136 : List (Bool × List CK) := [(true, [.int .i64, .str, .sl 2 true, .str])]
def G136 (F : T136) (β : Type) (e : (Int × List UInt8 × List V × List UInt8 × Unit) × Unit) (k : V → Option β) : Option β := F β e.1.1 e.1.2.1 e.1.2.2.1 e.1.2.2.2.1 (fun y1 y2 y3 y4 => k (.agg [.int .i64 y1, .str y2, .own 2 2 .flat y3, .str y4]))
abbrev W136 (F : T136) : WT := wrap s136 (G136 F)
theorem k136 (F180 : T180) (β : Type) (e : argsT s136) (k : V → Option β) : fnK cfg (tabL [(180, W180 F180)]) noX 136 Tryz.f136 β (argsEnc s136 e) k = G136 (P136 F180 ) β e k := by kernel_rfl
theorem ok136 : FnOk D 136 (W136 F136) := fn_okW [(180, W180 F180)] noX (fun _ => rfl) Tryz.func136 rfl (tabL_cons ok180 tabL_nil) (k136 F180 )

/-- laws.toTokenS -/
abbrev T68 : Type 1 := (β : Type) → List V → (List V → Option β) → Option β
def P68 (F136 : T136) : T68 := fun β a k =>
 chk (0 ≤ (a.length : Int) ∧ (a.length : Int) ≤ (a.length : Int) ∧ (a.length : Int) * 64 ≤ 140737488355328 ∧ (a.length : Int) ≤ 140737488355328) <|
 whileK (fun s1 =>
 br (decide ((lI s1 2) < ((lL s1 0).length : Int))) (
 chk (0 ≤ (lI s1 2)) <|
 idx true [.int .i64, .str, .sl 2 true, .str] (lL s1 0) ((lI s1 2).toNat) fun (e2 : Int × List UInt8 × List V × List UInt8 × Unit) =>
 F136 _ e2.1 e2.2.1 e2.2.2.1 e2.2.2.2.1 fun n3 t4 l5 t6 =>
 chk (0 ≤ (lI s1 2) ∧ (lI s1 2).toNat < (lL s1 1).length) <|
 storeO (lL s1 1) ((lI s1 2).toNat) 0 [.int .i64 n3, .str t4, .sl 2 true l5, .str t6] fun l7 =>
 some (.inl [.l (lL s1 0), .l l7, .i (IntKind.wrap .i64 ((lI s1 2) + 1))])) (
 some (.inr (0, [.l (lL s1 1)])))) [.l a, .l (List.replicate ((a.length : Int).toNat) (.agg [.int .i64 0, .str [], .sl 2 true [], .str []])), .i 0] fun (r8 : Nat × List Leaf) =>
 k (lL r8.2 0)
def F68 : T68 := P68 F136 
def X68 : Exits := fun i => lookN i [] [(3, [(.exit 0, xk 23 [(3, .own 1000000 4 .clean [])] [])])]
abbrev s68 : List (Bool × List CK) := [(false, [.sl 4 false])]
def G68 (F : T68) (β : Type) (e : (List V × Unit) × Unit) (k : V → Option β) : Option β := F β e.1.1 (fun y1 => k (.own 0 4 .clean y1))
abbrev W68 (F : T68) : WT := wrap s68 (G68 F)
theorem k68 (F136 : T136) (β : Type) (e : argsT s68) (k : V → Option β) : fnK cfg (tabL [(136, W136 F136)]) X68 68 Tryz.f68 β (argsEnc s68 e) k = G68 (P68 F136 ) β e k := by kernel_rfl
theorem ok68 : FnOk D 68 (W68 F68) := fn_okW [(136, W136 F136)] X68 (fun _ => rfl) Tryz.func68 rfl (tabL_cons ok136 tabL_nil) (k68 F136 )

/-- laws.toNode -/
abbrev T181 : Type 1 := (β : Type) → List UInt8 → List UInt8 → Int → List V → (List UInt8 → List UInt8 → Int → List V → Option β) → Option β
def P181 (F180 : T180) : T181 := fun β a_Name a_Text a_Parent a_Attrs k =>
 F180 _ a_Attrs fun l1 =>
 k a_Name a_Text a_Parent l1
def F181 : T181 := P181 F180 
abbrev s181 : List (Bool × List CK) := [(true, [.str, .str, .int .i64, .sl 2 true])]
def G181 (F : T181) (β : Type) (e : (List UInt8 × List UInt8 × Int × List V × Unit) × Unit) (k : V → Option β) : Option β := F β e.1.1 e.1.2.1 e.1.2.2.1 e.1.2.2.2.1 (fun y1 y2 y3 y4 => k (.agg [.str y1, .str y2, .int .i64 y3, .own 3 2 .flat y4]))
abbrev W181 (F : T181) : WT := wrap s181 (G181 F)
theorem k181 (F180 : T180) (β : Type) (e : argsT s181) (k : V → Option β) : fnK cfg (tabL [(180, W180 F180)]) noX 181 Tryz.f181 β (argsEnc s181 e) k = G181 (P181 F180 ) β e k := by kernel_rfl
theorem ok181 : FnOk D 181 (W181 F181) := fn_okW [(180, W180 F180)] noX (fun _ => rfl) Tryz.func181 rfl (tabL_cons ok180 tabL_nil) (k181 F180 )

/-- laws.toNodeS -/
abbrev T137 : Type 1 := (β : Type) → List V → (List V → Option β) → Option β
def P137 (F181 : T181) : T137 := fun β a k =>
 chk (0 ≤ (a.length : Int) ∧ (a.length : Int) ≤ (a.length : Int) ∧ (a.length : Int) * 64 ≤ 140737488355328 ∧ (a.length : Int) ≤ 140737488355328) <|
 whileK (fun s1 =>
 br (decide ((lI s1 2) < ((lL s1 0).length : Int))) (
 chk (0 ≤ (lI s1 2)) <|
 idx true [.str, .str, .int .i64, .sl 2 true] (lL s1 0) ((lI s1 2).toNat) fun (e2 : List UInt8 × List UInt8 × Int × List V × Unit) =>
 F181 _ e2.1 e2.2.1 e2.2.2.1 e2.2.2.2.1 fun t3 t4 n5 l6 =>
 chk (0 ≤ (lI s1 2) ∧ (lI s1 2).toNat < (lL s1 1).length) <|
 storeO (lL s1 1) ((lI s1 2).toNat) 0 [.str t3, .str t4, .int .i64 n5, .sl 2 true l6] fun l7 =>
 some (.inl [.l (lL s1 0), .l l7, .i (IntKind.wrap .i64 ((lI s1 2) + 1))])) (
 some (.inr (0, [.l (lL s1 1)])))) [.l a, .l (List.replicate ((a.length : Int).toNat) (.agg [.str [], .str [], .int .i64 0, .sl 2 true []])), .i 0] fun (r8 : Nat × List Leaf) =>
 k (lL r8.2 0)
def F137 : T137 := P137 F181 
def X137 : Exits := fun i => lookN i [] [(3, [(.exit 0, xk 23 [(3, .own 1000000 4 .clean [])] [])])]
abbrev s137 : List (Bool × List CK) := [(false, [.sl 4 false])]
def G137 (F : T137) (β : Type) (e : (List V × Unit) × Unit) (k : V → Option β) : Option β := F β e.1.1 (fun y1 => k (.own 0 4 .clean y1))
abbrev W137 (F : T137) : WT := wrap s137 (G137 F)
theorem k137 (F181 : T181) (β : Type) (e : argsT s137) (k : V → Option β) : fnK cfg (tabL [(181, W181 F181)]) X137 137 Tryz.f137 β (argsEnc s137 e) k = G137 (P137 F181 ) β e k := by kernel_rfl
theorem ok137 : FnOk D 137 (W137 F137) := fn_okW [(181, W181 F181)] X137 (fun _ => rfl) Tryz.func137 rfl (tabL_cons ok181 tabL_nil) (k137 F181 )

/-- laws.toIntS -/
abbrev T138 : Type 1 := (β : Type) → List V → (List V → Option β) → Option β
def P138 : T138 := fun β a k =>
 chk (0 ≤ (a.length : Int) ∧ (a.length : Int) ≤ (a.length : Int) ∧ (a.length : Int) * 8 ≤ 140737488355328 ∧ (a.length : Int) ≤ 140737488355328) <|
 whileK (fun s1 =>
 br (decide ((lI s1 2) < ((lL s1 0).length : Int))) (
 chk (0 ≤ (lI s1 2)) <|
 idx false [.int .i64] (lL s1 0) ((lI s1 2).toNat) fun (e2 : Int × Unit) =>
 chk (0 ≤ (lI s1 2) ∧ (lI s1 2).toNat < (lL s1 1).length) <|
 storeO (lL s1 1) ((lI s1 2).toNat) 0 [.int .i64 e2.1] fun l3 =>
 some (.inl [.l (lL s1 0), .l l3, .i (IntKind.wrap .i64 ((lI s1 2) + 1))])) (
 some (.inr (0, [.l (lL s1 1)])))) [.l a, .l (List.replicate ((a.length : Int).toNat) (.int .i64 0)), .i 0] fun (r4 : Nat × List Leaf) =>
 k (lL r4.2 0)
def F138 : T138 := P138 
def X138 : Exits := fun i => lookN i [] [(3, [(.exit 0, xk 22 [(3, .own 1000000 1 .flat [])] [])])]
abbrev s138 : List (Bool × List CK) := [(false, [.sl 1 true])]
def G138 (F : T138) (β : Type) (e : (List V × Unit) × Unit) (k : V → Option β) : Option β := F β e.1.1 (fun y1 => k (.own 0 1 .flat y1))
abbrev W138 (F : T138) : WT := wrap s138 (G138 F)
theorem k138 (β : Type) (e : argsT s138) (k : V → Option β) : fnK cfg (tabL []) X138 138 Tryz.f138 β (argsEnc s138 e) k = G138 (P138 ) β e k := by kernel_rfl
theorem ok138 : FnOk D 138 (W138 F138) := fn_okW [] X138 (fun _ => rfl) Tryz.func138 rfl (tabL_nil) (k138 )

/-- laws.toBuilder -/
abbrev T69 : Type 1 := (β : Type) → List V → List V → (List V → List V → Option β) → Option β
def P69 (F137 : T137) (F138 : T138) : T69 := fun β a_Nodes a_Open k =>
 F137 _ a_Nodes fun l1 =>
 F138 _ a_Open fun l2 =>
 k l1 l2
def F69 : T69 := P69 F137 F138 
abbrev s69 : List (Bool × List CK) := [(true, [.sl 4 false, .sl 1 true])]
def G69 (F : T69) (β : Type) (e : (List V × List V × Unit) × Unit) (k : V → Option β) : Option β := F β e.1.1 e.1.2.1 (fun y1 y2 => k (.agg [.own 0 4 .clean y1, .own 1 1 .flat y2]))
abbrev W69 (F : T69) : WT := wrap s69 (G69 F)
theorem k69 (F137 : T137) (F138 : T138) (β : Type) (e : argsT s69) (k : V → Option β) : fnK cfg (tabL [(137, W137 F137), (138, W138 F138)]) noX 69 Tryz.f69 β (argsEnc s69 e) k = G69 (P69 F137 F138 ) β e k := by kernel_rfl
theorem ok69 : FnOk D 69 (W69 F69) := fn_okW [(137, W137 F137), (138, W138 F138)] noX (fun _ => rfl) Tryz.func69 rfl (tabL_cons ok137 (tabL_cons ok138 tabL_nil)) (k69 F137 F138 )

/-- laws.toSlot -/
abbrev T139 : Type 1 := (β : Type) → Int → List UInt8 → List UInt8 → List UInt8 → Int → Bool → Int → List UInt8 → (Int → List UInt8 → List UInt8 → List UInt8 → Int → Bool → Int → List UInt8 → Option β) → Option β
def P139 (F65 : T65) : T139 := fun β a_Mode a_To_Host a_To_Path a_Digest a_Node a_Done a_Code a_Body k =>
 F65 _ a_To_Host a_To_Path fun t1 t2 =>
 k a_Mode t1 t2 a_Digest a_Node a_Done a_Code a_Body
def F139 : T139 := P139 F65 
abbrev s139 : List (Bool × List CK) := [(true, [.int .i64, .str, .str, .str, .int .i64, .bool, .int .i64, .str])]
def G139 (F : T139) (β : Type) (e : (Int × List UInt8 × List UInt8 × List UInt8 × Int × Bool × Int × List UInt8 × Unit) × Unit) (k : V → Option β) : Option β := let a0_0 := e.1; let a0_1 := a0_0.2; let a0_2 := a0_1.2; let a0_3 := a0_2.2; let a0_4 := a0_3.2; let a0_5 := a0_4.2; let a0_6 := a0_5.2; let a0_7 := a0_6.2; F β a0_0.1 a0_1.1 a0_2.1 a0_3.1 a0_4.1 a0_5.1 a0_6.1 a0_7.1 (fun y1 y2 y3 y4 y5 y6 y7 y8 => k (.agg [.int .i64 y1, .str y2, .str y3, .str y4, .int .i64 y5, .bool y6, .int .i64 y7, .str y8]))
abbrev W139 (F : T139) : WT := wrap s139 (G139 F)
theorem k139 (F65 : T65) (β : Type) (e : argsT s139) (k : V → Option β) : fnK cfg (tabL [(65, W65 F65)]) noX 139 Tryz.f139 β (argsEnc s139 e) k = G139 (P139 F65 ) β e k := by kernel_rfl
theorem ok139 : FnOk D 139 (W139 F139) := fn_okW [(65, W65 F65)] noX (fun _ => rfl) Tryz.func139 rfl (tabL_cons ok65 tabL_nil) (k139 F65 )

/-- laws.toSlotS -/
abbrev T70 : Type 1 := (β : Type) → List V → (List V → Option β) → Option β
def P70 (F139 : T139) : T70 := fun β a k =>
 chk (0 ≤ (a.length : Int) ∧ (a.length : Int) ≤ (a.length : Int) ∧ (a.length : Int) * 96 ≤ 140737488355328 ∧ (a.length : Int) ≤ 140737488355328) <|
 whileK (fun s1 =>
 br (decide ((lI s1 2) < ((lL s1 0).length : Int))) (
 chk (0 ≤ (lI s1 2)) <|
 idx true [.int .i64, .str, .str, .str, .int .i64, .bool, .int .i64, .str] (lL s1 0) ((lI s1 2).toNat) fun (e2 : Int × List UInt8 × List UInt8 × List UInt8 × Int × Bool × Int × List UInt8 × Unit) =>
 F139 _ e2.1 e2.2.1 e2.2.2.1 e2.2.2.2.1 e2.2.2.2.2.1 e2.2.2.2.2.2.1 e2.2.2.2.2.2.2.1 e2.2.2.2.2.2.2.2.1 fun n3 t4 t5 t6 n7 b8 n9 t10 =>
 chk (0 ≤ (lI s1 2) ∧ (lI s1 2).toNat < (lL s1 1).length) <|
 storeO (lL s1 1) ((lI s1 2).toNat) 0 [.int .i64 n3, .str t4, .str t5, .str t6, .int .i64 n7, .bool b8, .int .i64 n9, .str t10] fun l11 =>
 some (.inl [.l (lL s1 0), .l l11, .i (IntKind.wrap .i64 ((lI s1 2) + 1))])) (
 some (.inr (0, [.l (lL s1 1)])))) [.l a, .l (List.replicate ((a.length : Int).toNat) (.agg [.int .i64 0, .str [], .str [], .str [], .int .i64 0, .bool false, .int .i64 0, .str []])), .i 0] fun (r12 : Nat × List Leaf) =>
 k (lL r12.2 0)
def F70 : T70 := P70 F139 
def X70 : Exits := fun i => lookN i [] [(3, [(.exit 0, xk 23 [(3, .own 1000000 8 .flat [])] [])])]
abbrev s70 : List (Bool × List CK) := [(false, [.sl 8 true])]
def G70 (F : T70) (β : Type) (e : (List V × Unit) × Unit) (k : V → Option β) : Option β := F β e.1.1 (fun y1 => k (.own 0 8 .flat y1))
abbrev W70 (F : T70) : WT := wrap s70 (G70 F)
theorem k70 (F139 : T139) (β : Type) (e : argsT s70) (k : V → Option β) : fnK cfg (tabL [(139, W139 F139)]) X70 70 Tryz.f70 β (argsEnc s70 e) k = G70 (P70 F139 ) β e k := by kernel_rfl
theorem ok70 : FnOk D 70 (W70 F70) := fn_okW [(139, W139 F139)] X70 (fun _ => rfl) Tryz.func70 rfl (tabL_cons ok139 tabL_nil) (k70 F139 )

/-- laws.toModule -/
abbrev T140 : Type 1 := (β : Type) → List UInt8 → List UInt8 → Bool → Int → List UInt8 → (List UInt8 → List UInt8 → Bool → Int → List UInt8 → Option β) → Option β
def P140 (F65 : T65) : T140 := fun β a_To_Host a_To_Path a_Done a_Code a_Body k =>
 F65 _ a_To_Host a_To_Path fun t1 t2 =>
 k t1 t2 a_Done a_Code a_Body
def F140 : T140 := P140 F65 
abbrev s140 : List (Bool × List CK) := [(true, [.str, .str, .bool, .int .i64, .str])]
def G140 (F : T140) (β : Type) (e : (List UInt8 × List UInt8 × Bool × Int × List UInt8 × Unit) × Unit) (k : V → Option β) : Option β := let a0_0 := e.1; let a0_1 := a0_0.2; let a0_2 := a0_1.2; let a0_3 := a0_2.2; let a0_4 := a0_3.2; F β a0_0.1 a0_1.1 a0_2.1 a0_3.1 a0_4.1 (fun y1 y2 y3 y4 y5 => k (.agg [.str y1, .str y2, .bool y3, .int .i64 y4, .str y5]))
abbrev W140 (F : T140) : WT := wrap s140 (G140 F)
theorem k140 (F65 : T65) (β : Type) (e : argsT s140) (k : V → Option β) : fnK cfg (tabL [(65, W65 F65)]) noX 140 Tryz.f140 β (argsEnc s140 e) k = G140 (P140 F65 ) β e k := by kernel_rfl
theorem ok140 : FnOk D 140 (W140 F140) := fn_okW [(65, W65 F65)] noX (fun _ => rfl) Tryz.func140 rfl (tabL_cons ok65 tabL_nil) (k140 F65 )

/-- laws.toModuleS -/
abbrev T71 : Type 1 := (β : Type) → List V → (List V → Option β) → Option β
def P71 (F140 : T140) : T71 := fun β a k =>
 chk (0 ≤ (a.length : Int) ∧ (a.length : Int) ≤ (a.length : Int) ∧ (a.length : Int) * 64 ≤ 140737488355328 ∧ (a.length : Int) ≤ 140737488355328) <|
 whileK (fun s1 =>
 br (decide ((lI s1 2) < ((lL s1 0).length : Int))) (
 chk (0 ≤ (lI s1 2)) <|
 idx true [.str, .str, .bool, .int .i64, .str] (lL s1 0) ((lI s1 2).toNat) fun (e2 : List UInt8 × List UInt8 × Bool × Int × List UInt8 × Unit) =>
 F140 _ e2.1 e2.2.1 e2.2.2.1 e2.2.2.2.1 e2.2.2.2.2.1 fun t3 t4 b5 n6 t7 =>
 chk (0 ≤ (lI s1 2) ∧ (lI s1 2).toNat < (lL s1 1).length) <|
 storeO (lL s1 1) ((lI s1 2).toNat) 0 [.str t3, .str t4, .bool b5, .int .i64 n6, .str t7] fun l8 =>
 some (.inl [.l (lL s1 0), .l l8, .i (IntKind.wrap .i64 ((lI s1 2) + 1))])) (
 some (.inr (0, [.l (lL s1 1)])))) [.l a, .l (List.replicate ((a.length : Int).toNat) (.agg [.str [], .str [], .bool false, .int .i64 0, .str []])), .i 0] fun (r9 : Nat × List Leaf) =>
 k (lL r9.2 0)
def F71 : T71 := P71 F140 
def X71 : Exits := fun i => lookN i [] [(3, [(.exit 0, xk 23 [(3, .own 1000000 5 .flat [])] [])])]
abbrev s71 : List (Bool × List CK) := [(false, [.sl 5 true])]
def G71 (F : T71) (β : Type) (e : (List V × Unit) × Unit) (k : V → Option β) : Option β := F β e.1.1 (fun y1 => k (.own 0 5 .flat y1))
abbrev W71 (F : T71) : WT := wrap s71 (G71 F)
theorem k71 (F140 : T140) (β : Type) (e : argsT s71) (k : V → Option β) : fnK cfg (tabL [(140, W140 F140)]) X71 71 Tryz.f71 β (argsEnc s71 e) k = G71 (P71 F140 ) β e k := by kernel_rfl
theorem ok71 : FnOk D 71 (W71 F71) := fn_okW [(140, W140 F140)] X71 (fun _ => rfl) Tryz.func71 rfl (tabL_cons ok140 tabL_nil) (k71 F140 )

/-- laws.toAddrS -/
abbrev T72 : Type 1 := (β : Type) → List V → (List V → Option β) → Option β
def P72 (F65 : T65) : T72 := fun β a k =>
 chk (0 ≤ (a.length : Int) ∧ (a.length : Int) ≤ (a.length : Int) ∧ (a.length : Int) * 32 ≤ 140737488355328 ∧ (a.length : Int) ≤ 140737488355328) <|
 whileK (fun s1 =>
 br (decide ((lI s1 2) < ((lL s1 0).length : Int))) (
 chk (0 ≤ (lI s1 2)) <|
 idx true [.str, .str] (lL s1 0) ((lI s1 2).toNat) fun (e2 : List UInt8 × List UInt8 × Unit) =>
 F65 _ e2.1 e2.2.1 fun t3 t4 =>
 chk (0 ≤ (lI s1 2) ∧ (lI s1 2).toNat < (lL s1 1).length) <|
 storeO (lL s1 1) ((lI s1 2).toNat) 0 [.str t3, .str t4] fun l5 =>
 some (.inl [.l (lL s1 0), .l l5, .i (IntKind.wrap .i64 ((lI s1 2) + 1))])) (
 some (.inr (0, [.l (lL s1 1)])))) [.l a, .l (List.replicate ((a.length : Int).toNat) (.agg [.str [], .str []])), .i 0] fun (r6 : Nat × List Leaf) =>
 k (lL r6.2 0)
def F72 : T72 := P72 F65 
def X72 : Exits := fun i => lookN i [] [(3, [(.exit 0, xk 23 [(3, .own 1000000 2 .flat [])] [])])]
abbrev s72 : List (Bool × List CK) := [(false, [.sl 2 true])]
def G72 (F : T72) (β : Type) (e : (List V × Unit) × Unit) (k : V → Option β) : Option β := F β e.1.1 (fun y1 => k (.own 0 2 .flat y1))
abbrev W72 (F : T72) : WT := wrap s72 (G72 F)
theorem k72 (F65 : T65) (β : Type) (e : argsT s72) (k : V → Option β) : fnK cfg (tabL [(65, W65 F65)]) X72 72 Tryz.f72 β (argsEnc s72 e) k = G72 (P72 F65 ) β e k := by kernel_rfl
theorem ok72 : FnOk D 72 (W72 F72) := fn_okW [(65, W65 F65)] X72 (fun _ => rfl) Tryz.func72 rfl (tabL_cons ok65 tabL_nil) (k72 F65 )

/-- laws.toPage -/
abbrev T20 : Type 1 := (β : Type) → List UInt8 → List UInt8 → Bool → List V → List V → List V → List UInt8 → List UInt8 → List V → Bool → List V → List V → List V → List V → List V → Int → Int → Int → Int → List V → List V → Bool → (List UInt8 → List UInt8 → Bool → List V → List V → List V → List UInt8 → List UInt8 → List V → Bool → List V → List V → List V → List V → List V → Int → Int → Int → Int → List V → List V → Bool → Option β) → Option β
def P20 (F65 : T65) (F66 : T66) (F67 : T67) (F68 : T68) (F69 : T69) (F70 : T70) (F71 : T71) (F72 : T72) (F73 : T73) : T20 := fun β a_Addr_Host a_Addr_Path a_Policy_Set a_Policy_Scripts a_Policy_Styles a_Policy_Images a_Policy_Nonce a_Tok_Rest a_Queue a_Ended a_Builder_Nodes a_Builder_Open a_Slots a_Mods a_Entries a_Block a_Inline a_Deferred a_Entered a_Ran a_Log a_Loaded k =>
 F65 _ a_Addr_Host a_Addr_Path fun t1 t2 =>
 F66 _ a_Policy_Set a_Policy_Scripts a_Policy_Styles a_Policy_Images a_Policy_Nonce fun b3 l4 l5 l6 t7 =>
 F67 _ a_Tok_Rest fun t8 =>
 F68 _ a_Queue fun l9 =>
 F69 _ a_Builder_Nodes a_Builder_Open fun l10 l11 =>
 F70 _ a_Slots fun l12 =>
 F71 _ a_Mods fun l13 =>
 F72 _ a_Entries fun l14 =>
 F72 _ a_Ran fun l15 =>
 F73 _ a_Log fun l16 =>
 k t1 t2 b3 l4 l5 l6 t7 t8 l9 a_Ended l10 l11 l12 l13 l14 a_Block a_Inline a_Deferred a_Entered l15 l16 a_Loaded
def F20 : T20 := P20 F65 F66 F67 F68 F69 F70 F71 F72 F73 
abbrev s20 : List (Bool × List CK) := [(true, [.str, .str, .bool, .sl 1 true, .sl 1 true, .sl 1 true, .str, .str, .sl 4 false, .bool, .sl 4 false, .sl 1 true, .sl 8 true, .sl 5 true, .sl 2 true, .int .i64, .int .i64, .int .i64, .int .i64, .sl 2 true, .sl 1 true, .bool])]
def G20 (F : T20) (β : Type) (e : (List UInt8 × List UInt8 × Bool × List V × List V × List V × List UInt8 × List UInt8 × List V × Bool × List V × List V × List V × List V × List V × Int × Int × Int × Int × List V × List V × Bool × Unit) × Unit) (k : V → Option β) : Option β := let a0_0 := e.1; let a0_1 := a0_0.2; let a0_2 := a0_1.2; let a0_3 := a0_2.2; let a0_4 := a0_3.2; let a0_5 := a0_4.2; let a0_6 := a0_5.2; let a0_7 := a0_6.2; let a0_8 := a0_7.2; let a0_9 := a0_8.2; let a0_10 := a0_9.2; let a0_11 := a0_10.2; let a0_12 := a0_11.2; let a0_13 := a0_12.2; let a0_14 := a0_13.2; let a0_15 := a0_14.2; let a0_16 := a0_15.2; let a0_17 := a0_16.2; let a0_18 := a0_17.2; let a0_19 := a0_18.2; let a0_20 := a0_19.2; let a0_21 := a0_20.2; F β a0_0.1 a0_1.1 a0_2.1 a0_3.1 a0_4.1 a0_5.1 a0_6.1 a0_7.1 a0_8.1 a0_9.1 a0_10.1 a0_11.1 a0_12.1 a0_13.1 a0_14.1 a0_15.1 a0_16.1 a0_17.1 a0_18.1 a0_19.1 a0_20.1 a0_21.1 (fun y1 y2 y3 y4 y5 y6 y7 y8 y9 y10 y11 y12 y13 y14 y15 y16 y17 y18 y19 y20 y21 y22 => k (.agg [.str y1, .str y2, .bool y3, .own 3 1 .flat y4, .own 4 1 .flat y5, .own 5 1 .flat y6, .str y7, .str y8, .own 8 4 .clean y9, .bool y10, .own 10 4 .clean y11, .own 11 1 .flat y12, .own 12 8 .flat y13, .own 13 5 .flat y14, .own 14 2 .flat y15, .int .i64 y16, .int .i64 y17, .int .i64 y18, .int .i64 y19, .own 19 2 .flat y20, .own 20 1 .flat y21, .bool y22]))
abbrev W20 (F : T20) : WT := wrap s20 (G20 F)
theorem k20 (F65 : T65) (F66 : T66) (F67 : T67) (F68 : T68) (F69 : T69) (F70 : T70) (F71 : T71) (F72 : T72) (F73 : T73) (β : Type) (e : argsT s20) (k : V → Option β) : fnK cfg (tabL [(65, W65 F65), (66, W66 F66), (67, W67 F67), (68, W68 F68), (69, W69 F69), (70, W70 F70), (71, W71 F71), (72, W72 F72), (73, W73 F73)]) noX 20 Tryz.f20 β (argsEnc s20 e) k = G20 (P20 F65 F66 F67 F68 F69 F70 F71 F72 F73 ) β e k := by kernel_rfl
theorem ok20 : FnOk D 20 (W20 F20) := fn_okW [(65, W65 F65), (66, W66 F66), (67, W67 F67), (68, W68 F68), (69, W69 F69), (70, W70 F70), (71, W71 F71), (72, W72 F72), (73, W73 F73)] noX (fun _ => rfl) Tryz.func20 rfl (tabL_cons ok65 (tabL_cons ok66 (tabL_cons ok67 (tabL_cons ok68 (tabL_cons ok69 (tabL_cons ok70 (tabL_cons ok71 (tabL_cons ok72 (tabL_cons ok73 tabL_nil))))))))) (k20 F65 F66 F67 F68 F69 F70 F71 F72 F73 )

/-- laws.toVisit -/
abbrev T152 : Type 1 := (β : Type) → List UInt8 → List UInt8 → List UInt8 → List UInt8 → Bool → List V → List V → List V → List UInt8 → List UInt8 → List V → Bool → List V → List V → List V → List V → List V → Int → Int → Int → Int → List V → List V → Bool → Bool → (List UInt8 → List UInt8 → List UInt8 → List UInt8 → Bool → List V → List V → List V → List UInt8 → List UInt8 → List V → Bool → List V → List V → List V → List V → List V → Int → Int → Int → Int → List V → List V → Bool → Bool → Option β) → Option β
def P152 (F65 : T65) (F20 : T20) : T152 := fun β a_Addr_Host a_Addr_Path a_Page_Addr_Host a_Page_Addr_Path a_Page_Policy_Set a_Page_Policy_Scripts a_Page_Policy_Styles a_Page_Policy_Images a_Page_Policy_Nonce a_Page_Tok_Rest a_Page_Queue a_Page_Ended a_Page_Builder_Nodes a_Page_Builder_Open a_Page_Slots a_Page_Mods a_Page_Entries a_Page_Block a_Page_Inline a_Page_Deferred a_Page_Entered a_Page_Ran a_Page_Log a_Page_Loaded a_Kept k =>
 F65 _ a_Addr_Host a_Addr_Path fun t1 t2 =>
 F20 _ a_Page_Addr_Host a_Page_Addr_Path a_Page_Policy_Set a_Page_Policy_Scripts a_Page_Policy_Styles a_Page_Policy_Images a_Page_Policy_Nonce a_Page_Tok_Rest a_Page_Queue a_Page_Ended a_Page_Builder_Nodes a_Page_Builder_Open a_Page_Slots a_Page_Mods a_Page_Entries a_Page_Block a_Page_Inline a_Page_Deferred a_Page_Entered a_Page_Ran a_Page_Log a_Page_Loaded fun t3 t4 b5 l6 l7 l8 t9 t10 l11 b12 l13 l14 l15 l16 l17 n18 n19 n20 n21 l22 l23 b24 =>
 k t1 t2 t3 t4 b5 l6 l7 l8 t9 t10 l11 b12 l13 l14 l15 l16 l17 n18 n19 n20 n21 l22 l23 b24 a_Kept
def F152 : T152 := P152 F65 F20 
abbrev s152 : List (Bool × List CK) := [(true, [.str, .str, .str, .str, .bool, .sl 1 true, .sl 1 true, .sl 1 true, .str, .str, .sl 4 false, .bool, .sl 4 false, .sl 1 true, .sl 8 true, .sl 5 true, .sl 2 true, .int .i64, .int .i64, .int .i64, .int .i64, .sl 2 true, .sl 1 true, .bool, .bool])]
def G152 (F : T152) (β : Type) (e : (List UInt8 × List UInt8 × List UInt8 × List UInt8 × Bool × List V × List V × List V × List UInt8 × List UInt8 × List V × Bool × List V × List V × List V × List V × List V × Int × Int × Int × Int × List V × List V × Bool × Bool × Unit) × Unit) (k : V → Option β) : Option β := let a0_0 := e.1; let a0_1 := a0_0.2; let a0_2 := a0_1.2; let a0_3 := a0_2.2; let a0_4 := a0_3.2; let a0_5 := a0_4.2; let a0_6 := a0_5.2; let a0_7 := a0_6.2; let a0_8 := a0_7.2; let a0_9 := a0_8.2; let a0_10 := a0_9.2; let a0_11 := a0_10.2; let a0_12 := a0_11.2; let a0_13 := a0_12.2; let a0_14 := a0_13.2; let a0_15 := a0_14.2; let a0_16 := a0_15.2; let a0_17 := a0_16.2; let a0_18 := a0_17.2; let a0_19 := a0_18.2; let a0_20 := a0_19.2; let a0_21 := a0_20.2; let a0_22 := a0_21.2; let a0_23 := a0_22.2; let a0_24 := a0_23.2; F β a0_0.1 a0_1.1 a0_2.1 a0_3.1 a0_4.1 a0_5.1 a0_6.1 a0_7.1 a0_8.1 a0_9.1 a0_10.1 a0_11.1 a0_12.1 a0_13.1 a0_14.1 a0_15.1 a0_16.1 a0_17.1 a0_18.1 a0_19.1 a0_20.1 a0_21.1 a0_22.1 a0_23.1 a0_24.1 (fun y1 y2 y3 y4 y5 y6 y7 y8 y9 y10 y11 y12 y13 y14 y15 y16 y17 y18 y19 y20 y21 y22 y23 y24 y25 => k (.agg [.str y1, .str y2, .str y3, .str y4, .bool y5, .own 5 1 .flat y6, .own 6 1 .flat y7, .own 7 1 .flat y8, .str y9, .str y10, .own 10 4 .clean y11, .bool y12, .own 12 4 .clean y13, .own 13 1 .flat y14, .own 14 8 .flat y15, .own 15 5 .flat y16, .own 16 2 .flat y17, .int .i64 y18, .int .i64 y19, .int .i64 y20, .int .i64 y21, .own 21 2 .flat y22, .own 22 1 .flat y23, .bool y24, .bool y25]))
abbrev W152 (F : T152) : WT := wrap s152 (G152 F)
theorem k152 (F65 : T65) (F20 : T20) (β : Type) (e : argsT s152) (k : V → Option β) : fnK cfg (tabL [(65, W65 F65), (20, W20 F20)]) noX 152 Tryz.f152 β (argsEnc s152 e) k = G152 (P152 F65 F20 ) β e k := by kernel_rfl
theorem ok152 : FnOk D 152 (W152 F152) := fn_okW [(65, W65 F65), (20, W20 F20)] noX (fun _ => rfl) Tryz.func152 rfl (tabL_cons ok65 (tabL_cons ok20 tabL_nil)) (k152 F65 F20 )

/-- laws.toVisitS -/
abbrev T91 : Type 1 := (β : Type) → List V → (List V → Option β) → Option β
def P91 (F152 : T152) : T91 := fun β a k =>
 chk (0 ≤ (a.length : Int) ∧ (a.length : Int) ≤ (a.length : Int) ∧ (a.length : Int) * 424 ≤ 140737488355328 ∧ (a.length : Int) ≤ 140737488355328) <|
 whileK (fun s1 =>
 br (decide ((lI s1 2) < ((lL s1 0).length : Int))) (
 chk (0 ≤ (lI s1 2)) <|
 idx true [.str, .str, .str, .str, .bool, .sl 1 true, .sl 1 true, .sl 1 true, .str, .str, .sl 4 false, .bool, .sl 4 false, .sl 1 true, .sl 8 true, .sl 5 true, .sl 2 true, .int .i64, .int .i64, .int .i64, .int .i64, .sl 2 true, .sl 1 true, .bool, .bool] (lL s1 0) ((lI s1 2).toNat) fun (e2 : List UInt8 × List UInt8 × List UInt8 × List UInt8 × Bool × List V × List V × List V × List UInt8 × List UInt8 × List V × Bool × List V × List V × List V × List V × List V × Int × Int × Int × Int × List V × List V × Bool × Bool × Unit) =>
 F152 _ e2.1 e2.2.1 e2.2.2.1 e2.2.2.2.1 e2.2.2.2.2.1 e2.2.2.2.2.2.1 e2.2.2.2.2.2.2.1 e2.2.2.2.2.2.2.2.1 e2.2.2.2.2.2.2.2.2.1 e2.2.2.2.2.2.2.2.2.2.1 e2.2.2.2.2.2.2.2.2.2.2.1 e2.2.2.2.2.2.2.2.2.2.2.2.1 e2.2.2.2.2.2.2.2.2.2.2.2.2.1 e2.2.2.2.2.2.2.2.2.2.2.2.2.2.1 e2.2.2.2.2.2.2.2.2.2.2.2.2.2.2.1 e2.2.2.2.2.2.2.2.2.2.2.2.2.2.2.2.1 e2.2.2.2.2.2.2.2.2.2.2.2.2.2.2.2.2.1 e2.2.2.2.2.2.2.2.2.2.2.2.2.2.2.2.2.2.1 e2.2.2.2.2.2.2.2.2.2.2.2.2.2.2.2.2.2.2.1 e2.2.2.2.2.2.2.2.2.2.2.2.2.2.2.2.2.2.2.2.1 e2.2.2.2.2.2.2.2.2.2.2.2.2.2.2.2.2.2.2.2.2.1 e2.2.2.2.2.2.2.2.2.2.2.2.2.2.2.2.2.2.2.2.2.2.1 e2.2.2.2.2.2.2.2.2.2.2.2.2.2.2.2.2.2.2.2.2.2.2.1 e2.2.2.2.2.2.2.2.2.2.2.2.2.2.2.2.2.2.2.2.2.2.2.2.1 e2.2.2.2.2.2.2.2.2.2.2.2.2.2.2.2.2.2.2.2.2.2.2.2.2.1 fun t3 t4 t5 t6 b7 l8 l9 l10 t11 t12 l13 b14 l15 l16 l17 l18 l19 n20 n21 n22 n23 l24 l25 b26 b27 =>
 chk (0 ≤ (lI s1 2) ∧ (lI s1 2).toNat < (lL s1 1).length) <|
 storeO (lL s1 1) ((lI s1 2).toNat) 0 [.str t3, .str t4, .str t5, .str t6, .bool b7, .sl 1 true l8, .sl 1 true l9, .sl 1 true l10, .str t11, .str t12, .sl 4 false l13, .bool b14, .sl 4 false l15, .sl 1 true l16, .sl 8 true l17, .sl 5 true l18, .sl 2 true l19, .int .i64 n20, .int .i64 n21, .int .i64 n22, .int .i64 n23, .sl 2 true l24, .sl 1 true l25, .bool b26, .bool b27] fun l28 =>
 some (.inl [.l (lL s1 0), .l l28, .i (IntKind.wrap .i64 ((lI s1 2) + 1))])) (
 some (.inr (0, [.l (lL s1 1)])))) [.l a, .l (List.replicate ((a.length : Int).toNat) (.agg [.str [], .str [], .str [], .str [], .bool false, .sl 1 true [], .sl 1 true [], .sl 1 true [], .str [], .str [], .sl 4 false [], .bool false, .sl 4 false [], .sl 1 true [], .sl 8 true [], .sl 5 true [], .sl 2 true [], .int .i64 0, .int .i64 0, .int .i64 0, .int .i64 0, .sl 2 true [], .sl 1 true [], .bool false, .bool false])), .i 0] fun (r29 : Nat × List Leaf) =>
 k (lL r29.2 0)
def F91 : T91 := P91 F152 
def X91 : Exits := fun i => lookN i [] [(3, [(.exit 0, xk 23 [(3, .own 1000000 25 .clean [])] [])])]
abbrev s91 : List (Bool × List CK) := [(false, [.sl 25 false])]
def G91 (F : T91) (β : Type) (e : (List V × Unit) × Unit) (k : V → Option β) : Option β := F β e.1.1 (fun y1 => k (.own 0 25 .clean y1))
abbrev W91 (F : T91) : WT := wrap s91 (G91 F)
theorem k91 (F152 : T152) (β : Type) (e : argsT s91) (k : V → Option β) : fnK cfg (tabL [(152, W152 F152)]) X91 91 Tryz.f91 β (argsEnc s91 e) k = G91 (P91 F152 ) β e k := by kernel_rfl
theorem ok91 : FnOk D 91 (W91 F91) := fn_okW [(152, W152 F152)] X91 (fun _ => rfl) Tryz.func91 rfl (tabL_cons ok152 tabL_nil) (k91 F152 )

/-- laws.toTab -/
abbrev T25 : Type 1 := (β : Type) → List V → Int → (List V → Int → Option β) → Option β
def P25 (F91 : T91) : T25 := fun β a_Visits a_At k =>
 F91 _ a_Visits fun l1 =>
 k l1 a_At
def F25 : T25 := P25 F91 
abbrev s25 : List (Bool × List CK) := [(true, [.sl 25 false, .int .i64])]
def G25 (F : T25) (β : Type) (e : (List V × Int × Unit) × Unit) (k : V → Option β) : Option β := F β e.1.1 e.1.2.1 (fun y1 y2 => k (.agg [.own 0 25 .clean y1, .int .i64 y2]))
abbrev W25 (F : T25) : WT := wrap s25 (G25 F)
theorem k25 (F91 : T91) (β : Type) (e : argsT s25) (k : V → Option β) : fnK cfg (tabL [(91, W91 F91)]) noX 25 Tryz.f25 β (argsEnc s25 e) k = G25 (P25 F91 ) β e k := by kernel_rfl
theorem ok25 : FnOk D 25 (W25 F25) := fn_okW [(91, W91 F91)] noX (fun _ => rfl) Tryz.func25 rfl (tabL_cons ok91 tabL_nil) (k25 F91 )

/-- laws.toKept -/
abbrev T106 : Type 1 := (β : Type) → List UInt8 → List UInt8 → Int → Int → List UInt8 → Int → Bool → List UInt8 → (List UInt8 → List UInt8 → Int → Int → List UInt8 → Int → Bool → List UInt8 → Option β) → Option β
def P106 (F65 : T65) (F166 : T166) : T106 := fun β a_To_Host a_To_Path a_Response_Status a_Response_Kind a_Response_Body a_Response_Age a_Response_Shares a_Response_Policy k =>
 F65 _ a_To_Host a_To_Path fun t1 t2 =>
 F166 _ a_Response_Status a_Response_Kind a_Response_Body a_Response_Age a_Response_Shares a_Response_Policy fun n3 n4 t5 n6 b7 t8 =>
 k t1 t2 n3 n4 t5 n6 b7 t8
def F106 : T106 := P106 F65 F166 
abbrev s106 : List (Bool × List CK) := [(true, [.str, .str, .int .i64, .int .i64, .str, .int .i64, .bool, .str])]
def G106 (F : T106) (β : Type) (e : (List UInt8 × List UInt8 × Int × Int × List UInt8 × Int × Bool × List UInt8 × Unit) × Unit) (k : V → Option β) : Option β := let a0_0 := e.1; let a0_1 := a0_0.2; let a0_2 := a0_1.2; let a0_3 := a0_2.2; let a0_4 := a0_3.2; let a0_5 := a0_4.2; let a0_6 := a0_5.2; let a0_7 := a0_6.2; F β a0_0.1 a0_1.1 a0_2.1 a0_3.1 a0_4.1 a0_5.1 a0_6.1 a0_7.1 (fun y1 y2 y3 y4 y5 y6 y7 y8 => k (.agg [.str y1, .str y2, .int .i64 y3, .int .i64 y4, .str y5, .int .i64 y6, .bool y7, .str y8]))
abbrev W106 (F : T106) : WT := wrap s106 (G106 F)
theorem k106 (F65 : T65) (F166 : T166) (β : Type) (e : argsT s106) (k : V → Option β) : fnK cfg (tabL [(65, W65 F65), (166, W166 F166)]) noX 106 Tryz.f106 β (argsEnc s106 e) k = G106 (P106 F65 F166 ) β e k := by kernel_rfl
theorem ok106 : FnOk D 106 (W106 F106) := fn_okW [(65, W65 F65), (166, W166 F166)] noX (fun _ => rfl) Tryz.func106 rfl (tabL_cons ok65 (tabL_cons ok166 tabL_nil)) (k106 F65 F166 )

/-- laws.toKeptS -/
abbrev T37 : Type 1 := (β : Type) → List V → (List V → Option β) → Option β
def P37 (F106 : T106) : T37 := fun β a k =>
 chk (0 ≤ (a.length : Int) ∧ (a.length : Int) ≤ (a.length : Int) ∧ (a.length : Int) * 96 ≤ 140737488355328 ∧ (a.length : Int) ≤ 140737488355328) <|
 whileK (fun s1 =>
 br (decide ((lI s1 2) < ((lL s1 0).length : Int))) (
 chk (0 ≤ (lI s1 2)) <|
 idx true [.str, .str, .int .i64, .int .i64, .str, .int .i64, .bool, .str] (lL s1 0) ((lI s1 2).toNat) fun (e2 : List UInt8 × List UInt8 × Int × Int × List UInt8 × Int × Bool × List UInt8 × Unit) =>
 F106 _ e2.1 e2.2.1 e2.2.2.1 e2.2.2.2.1 e2.2.2.2.2.1 e2.2.2.2.2.2.1 e2.2.2.2.2.2.2.1 e2.2.2.2.2.2.2.2.1 fun t3 t4 n5 n6 t7 n8 b9 t10 =>
 chk (0 ≤ (lI s1 2) ∧ (lI s1 2).toNat < (lL s1 1).length) <|
 storeO (lL s1 1) ((lI s1 2).toNat) 0 [.str t3, .str t4, .int .i64 n5, .int .i64 n6, .str t7, .int .i64 n8, .bool b9, .str t10] fun l11 =>
 some (.inl [.l (lL s1 0), .l l11, .i (IntKind.wrap .i64 ((lI s1 2) + 1))])) (
 some (.inr (0, [.l (lL s1 1)])))) [.l a, .l (List.replicate ((a.length : Int).toNat) (.agg [.str [], .str [], .int .i64 0, .int .i64 0, .str [], .int .i64 0, .bool false, .str []])), .i 0] fun (r12 : Nat × List Leaf) =>
 k (lL r12.2 0)
def F37 : T37 := P37 F106 
def X37 : Exits := fun i => lookN i [] [(3, [(.exit 0, xk 23 [(3, .own 1000000 8 .flat [])] [])])]
abbrev s37 : List (Bool × List CK) := [(false, [.sl 8 true])]
def G37 (F : T37) (β : Type) (e : (List V × Unit) × Unit) (k : V → Option β) : Option β := F β e.1.1 (fun y1 => k (.own 0 8 .flat y1))
abbrev W37 (F : T37) : WT := wrap s37 (G37 F)
theorem k37 (F106 : T106) (β : Type) (e : argsT s37) (k : V → Option β) : fnK cfg (tabL [(106, W106 F106)]) X37 37 Tryz.f37 β (argsEnc s37 e) k = G37 (P37 F106 ) β e k := by kernel_rfl
theorem ok37 : FnOk D 37 (W37 F37) := fn_okW [(106, W106 F106)] X37 (fun _ => rfl) Tryz.func37 rfl (tabL_cons ok106 tabL_nil) (k37 F106 )

/-- laws.toHidden -/
abbrev T10 : Type 1 := (β : Type) → Bool → List UInt8 → List UInt8 → Bool → List V → List V → List V → List UInt8 → List UInt8 → List V → Bool → List V → List V → List V → List V → List V → Int → Int → Int → Int → List V → List V → Bool → List V → List V → Int → (Bool → List UInt8 → List UInt8 → Bool → List V → List V → List V → List UInt8 → List UInt8 → List V → Bool → List V → List V → List V → List V → List V → Int → Int → Int → Int → List V → List V → Bool → List V → List V → Int → Option β) → Option β
def P10 (F20 : T20) (F37 : T37) (F38 : T38) : T10 := fun β a_Ready a_Page_Addr_Host a_Page_Addr_Path a_Page_Policy_Set a_Page_Policy_Scripts a_Page_Policy_Styles a_Page_Policy_Images a_Page_Policy_Nonce a_Page_Tok_Rest a_Page_Queue a_Page_Ended a_Page_Builder_Nodes a_Page_Builder_Open a_Page_Slots a_Page_Mods a_Page_Entries a_Page_Block a_Page_Inline a_Page_Deferred a_Page_Entered a_Page_Ran a_Page_Log a_Page_Loaded a_Taken a_Servers a_Now k =>
 F20 _ a_Page_Addr_Host a_Page_Addr_Path a_Page_Policy_Set a_Page_Policy_Scripts a_Page_Policy_Styles a_Page_Policy_Images a_Page_Policy_Nonce a_Page_Tok_Rest a_Page_Queue a_Page_Ended a_Page_Builder_Nodes a_Page_Builder_Open a_Page_Slots a_Page_Mods a_Page_Entries a_Page_Block a_Page_Inline a_Page_Deferred a_Page_Entered a_Page_Ran a_Page_Log a_Page_Loaded fun t1 t2 b3 l4 l5 l6 t7 t8 l9 b10 l11 l12 l13 l14 l15 n16 n17 n18 n19 l20 l21 b22 =>
 F37 _ a_Taken fun l23 =>
 F38 _ a_Servers fun l24 =>
 k a_Ready t1 t2 b3 l4 l5 l6 t7 t8 l9 b10 l11 l12 l13 l14 l15 n16 n17 n18 n19 l20 l21 b22 l23 l24 a_Now
def F10 : T10 := P10 F20 F37 F38 
abbrev s10 : List (Bool × List CK) := [(true, [.bool, .str, .str, .bool, .sl 1 true, .sl 1 true, .sl 1 true, .str, .str, .sl 4 false, .bool, .sl 4 false, .sl 1 true, .sl 8 true, .sl 5 true, .sl 2 true, .int .i64, .int .i64, .int .i64, .int .i64, .sl 2 true, .sl 1 true, .bool, .sl 8 true, .sl 2 false, .int .i64])]
def G10 (F : T10) (β : Type) (e : (Bool × List UInt8 × List UInt8 × Bool × List V × List V × List V × List UInt8 × List UInt8 × List V × Bool × List V × List V × List V × List V × List V × Int × Int × Int × Int × List V × List V × Bool × List V × List V × Int × Unit) × Unit) (k : V → Option β) : Option β := let a0_0 := e.1; let a0_1 := a0_0.2; let a0_2 := a0_1.2; let a0_3 := a0_2.2; let a0_4 := a0_3.2; let a0_5 := a0_4.2; let a0_6 := a0_5.2; let a0_7 := a0_6.2; let a0_8 := a0_7.2; let a0_9 := a0_8.2; let a0_10 := a0_9.2; let a0_11 := a0_10.2; let a0_12 := a0_11.2; let a0_13 := a0_12.2; let a0_14 := a0_13.2; let a0_15 := a0_14.2; let a0_16 := a0_15.2; let a0_17 := a0_16.2; let a0_18 := a0_17.2; let a0_19 := a0_18.2; let a0_20 := a0_19.2; let a0_21 := a0_20.2; let a0_22 := a0_21.2; let a0_23 := a0_22.2; let a0_24 := a0_23.2; let a0_25 := a0_24.2; F β a0_0.1 a0_1.1 a0_2.1 a0_3.1 a0_4.1 a0_5.1 a0_6.1 a0_7.1 a0_8.1 a0_9.1 a0_10.1 a0_11.1 a0_12.1 a0_13.1 a0_14.1 a0_15.1 a0_16.1 a0_17.1 a0_18.1 a0_19.1 a0_20.1 a0_21.1 a0_22.1 a0_23.1 a0_24.1 a0_25.1 (fun y1 y2 y3 y4 y5 y6 y7 y8 y9 y10 y11 y12 y13 y14 y15 y16 y17 y18 y19 y20 y21 y22 y23 y24 y25 y26 => k (.agg [.bool y1, .str y2, .str y3, .bool y4, .own 4 1 .flat y5, .own 5 1 .flat y6, .own 6 1 .flat y7, .str y8, .str y9, .own 9 4 .clean y10, .bool y11, .own 11 4 .clean y12, .own 12 1 .flat y13, .own 13 8 .flat y14, .own 14 5 .flat y15, .own 15 2 .flat y16, .int .i64 y17, .int .i64 y18, .int .i64 y19, .int .i64 y20, .own 20 2 .flat y21, .own 21 1 .flat y22, .bool y23, .own 23 8 .flat y24, .own 24 2 .clean y25, .int .i64 y26]))
abbrev W10 (F : T10) : WT := wrap s10 (G10 F)
theorem k10 (F20 : T20) (F37 : T37) (F38 : T38) (β : Type) (e : argsT s10) (k : V → Option β) : fnK cfg (tabL [(20, W20 F20), (37, W37 F37), (38, W38 F38)]) noX 10 Tryz.f10 β (argsEnc s10 e) k = G10 (P10 F20 F37 F38 ) β e k := by kernel_rfl
theorem ok10 : FnOk D 10 (W10 F10) := fn_okW [(20, W20 F20), (37, W37 F37), (38, W38 F38)] noX (fun _ => rfl) Tryz.func10 rfl (tabL_cons ok20 (tabL_cons ok37 (tabL_cons ok38 tabL_nil))) (k10 F20 F37 F38 )

/-- laws.toWorld -/
abbrev T30 : Type 1 := (β : Type) → List V → List V → List V → Int → List V → Int → Bool → List UInt8 → List UInt8 → Bool → List V → List V → List V → List UInt8 → List UInt8 → List V → Bool → List V → List V → List V → List V → List V → Int → Int → Int → Int → List V → List V → Bool → List V → List V → Int → Bool → (List V → List V → List V → Int → List V → Int → Bool → List UInt8 → List UInt8 → Bool → List V → List V → List V → List UInt8 → List UInt8 → List V → Bool → List V → List V → List V → List V → List V → Int → Int → Int → Int → List V → List V → Bool → List V → List V → Int → Bool → Option β) → Option β
def P30 (F15 : T15) (F25 : T25) (F10 : T10) : T30 := fun β a_Net_Servers a_Net_Cache_Entries a_Net_Log a_Net_Now a_Tab_Visits a_Tab_At a_Hidden_Ready a_Hidden_Page_Addr_Host a_Hidden_Page_Addr_Path a_Hidden_Page_Policy_Set a_Hidden_Page_Policy_Scripts a_Hidden_Page_Policy_Styles a_Hidden_Page_Policy_Images a_Hidden_Page_Policy_Nonce a_Hidden_Page_Tok_Rest a_Hidden_Page_Queue a_Hidden_Page_Ended a_Hidden_Page_Builder_Nodes a_Hidden_Page_Builder_Open a_Hidden_Page_Slots a_Hidden_Page_Mods a_Hidden_Page_Entries a_Hidden_Page_Block a_Hidden_Page_Inline a_Hidden_Page_Deferred a_Hidden_Page_Entered a_Hidden_Page_Ran a_Hidden_Page_Log a_Hidden_Page_Loaded a_Hidden_Taken a_Hidden_Servers a_Hidden_Now a_Fast k =>
 F15 _ a_Net_Servers a_Net_Cache_Entries a_Net_Log a_Net_Now fun l1 l2 l3 n4 =>
 F25 _ a_Tab_Visits a_Tab_At fun l5 n6 =>
 F10 _ a_Hidden_Ready a_Hidden_Page_Addr_Host a_Hidden_Page_Addr_Path a_Hidden_Page_Policy_Set a_Hidden_Page_Policy_Scripts a_Hidden_Page_Policy_Styles a_Hidden_Page_Policy_Images a_Hidden_Page_Policy_Nonce a_Hidden_Page_Tok_Rest a_Hidden_Page_Queue a_Hidden_Page_Ended a_Hidden_Page_Builder_Nodes a_Hidden_Page_Builder_Open a_Hidden_Page_Slots a_Hidden_Page_Mods a_Hidden_Page_Entries a_Hidden_Page_Block a_Hidden_Page_Inline a_Hidden_Page_Deferred a_Hidden_Page_Entered a_Hidden_Page_Ran a_Hidden_Page_Log a_Hidden_Page_Loaded a_Hidden_Taken a_Hidden_Servers a_Hidden_Now fun b7 t8 t9 b10 l11 l12 l13 t14 t15 l16 b17 l18 l19 l20 l21 l22 n23 n24 n25 n26 l27 l28 b29 l30 l31 n32 =>
 k l1 l2 l3 n4 l5 n6 b7 t8 t9 b10 l11 l12 l13 t14 t15 l16 b17 l18 l19 l20 l21 l22 n23 n24 n25 n26 l27 l28 b29 l30 l31 n32 a_Fast
def F30 : T30 := P30 F15 F25 F10 
abbrev s30 : List (Bool × List CK) := [(true, [.sl 2 false, .sl 10 true, .sl 4 true, .int .i64, .sl 25 false, .int .i64, .bool, .str, .str, .bool, .sl 1 true, .sl 1 true, .sl 1 true, .str, .str, .sl 4 false, .bool, .sl 4 false, .sl 1 true, .sl 8 true, .sl 5 true, .sl 2 true, .int .i64, .int .i64, .int .i64, .int .i64, .sl 2 true, .sl 1 true, .bool, .sl 8 true, .sl 2 false, .int .i64, .bool])]
def G30 (F : T30) (β : Type) (e : (List V × List V × List V × Int × List V × Int × Bool × List UInt8 × List UInt8 × Bool × List V × List V × List V × List UInt8 × List UInt8 × List V × Bool × List V × List V × List V × List V × List V × Int × Int × Int × Int × List V × List V × Bool × List V × List V × Int × Bool × Unit) × Unit) (k : V → Option β) : Option β := let a0_0 := e.1; let a0_1 := a0_0.2; let a0_2 := a0_1.2; let a0_3 := a0_2.2; let a0_4 := a0_3.2; let a0_5 := a0_4.2; let a0_6 := a0_5.2; let a0_7 := a0_6.2; let a0_8 := a0_7.2; let a0_9 := a0_8.2; let a0_10 := a0_9.2; let a0_11 := a0_10.2; let a0_12 := a0_11.2; let a0_13 := a0_12.2; let a0_14 := a0_13.2; let a0_15 := a0_14.2; let a0_16 := a0_15.2; let a0_17 := a0_16.2; let a0_18 := a0_17.2; let a0_19 := a0_18.2; let a0_20 := a0_19.2; let a0_21 := a0_20.2; let a0_22 := a0_21.2; let a0_23 := a0_22.2; let a0_24 := a0_23.2; let a0_25 := a0_24.2; let a0_26 := a0_25.2; let a0_27 := a0_26.2; let a0_28 := a0_27.2; let a0_29 := a0_28.2; let a0_30 := a0_29.2; let a0_31 := a0_30.2; let a0_32 := a0_31.2; F β a0_0.1 a0_1.1 a0_2.1 a0_3.1 a0_4.1 a0_5.1 a0_6.1 a0_7.1 a0_8.1 a0_9.1 a0_10.1 a0_11.1 a0_12.1 a0_13.1 a0_14.1 a0_15.1 a0_16.1 a0_17.1 a0_18.1 a0_19.1 a0_20.1 a0_21.1 a0_22.1 a0_23.1 a0_24.1 a0_25.1 a0_26.1 a0_27.1 a0_28.1 a0_29.1 a0_30.1 a0_31.1 a0_32.1 (fun y1 y2 y3 y4 y5 y6 y7 y8 y9 y10 y11 y12 y13 y14 y15 y16 y17 y18 y19 y20 y21 y22 y23 y24 y25 y26 y27 y28 y29 y30 y31 y32 y33 => k (.agg [.own 0 2 .clean y1, .own 1 10 .flat y2, .own 2 4 .flat y3, .int .i64 y4, .own 4 25 .clean y5, .int .i64 y6, .bool y7, .str y8, .str y9, .bool y10, .own 10 1 .flat y11, .own 11 1 .flat y12, .own 12 1 .flat y13, .str y14, .str y15, .own 15 4 .clean y16, .bool y17, .own 17 4 .clean y18, .own 18 1 .flat y19, .own 19 8 .flat y20, .own 20 5 .flat y21, .own 21 2 .flat y22, .int .i64 y23, .int .i64 y24, .int .i64 y25, .int .i64 y26, .own 26 2 .flat y27, .own 27 1 .flat y28, .bool y29, .own 29 8 .flat y30, .own 30 2 .clean y31, .int .i64 y32, .bool y33]))
abbrev W30 (F : T30) : WT := wrap s30 (G30 F)
theorem k30 (F15 : T15) (F25 : T25) (F10 : T10) (β : Type) (e : argsT s30) (k : V → Option β) : fnK cfg (tabL [(15, W15 F15), (25, W25 F25), (10, W10 F10)]) noX 30 Tryz.f30 β (argsEnc s30 e) k = G30 (P30 F15 F25 F10 ) β e k := by kernel_rfl
theorem ok30 : FnOk D 30 (W30 F30) := fn_okW [(15, W15 F15), (25, W25 F25), (10, W10 F10)] noX (fun _ => rfl) Tryz.func30 rfl (tabL_cons ok15 (tabL_cons ok25 (tabL_cons ok10 tabL_nil))) (k30 F15 F25 F10 )

/-- spec.EqualServers -/
abbrev T36 : Type 1 := (β : Type) → List V → List V → (Bool → Option β) → Option β
def P36 : T36 := fun β a b k =>
 br ((a.length : Int) != (b.length : Int)) (
 k false) (
 whileK (fun s1 =>
 br (decide ((lI s1 2) < ((lL s1 0).length : Int))) (
 chk (0 ≤ (lI s1 2)) <|
 idx true [.str, .sl 7 true] (lL s1 0) ((lI s1 2).toNat) fun (e2 : List UInt8 × List V × Unit) =>
 chk (0 ≤ (lI s1 2)) <|
 idx true [.str, .sl 7 true] (lL s1 1) ((lI s1 2).toNat) fun (e3 : List UInt8 × List V × Unit) =>
 br (!(e2.1 == e3.1)) (
 some (.inr (0, [.b false]))) (
 chk (0 ≤ (lI s1 2)) <|
 idx true [.str, .sl 7 true] (lL s1 0) ((lI s1 2).toNat) fun (e4 : List UInt8 × List V × Unit) =>
 chk (0 ≤ (lI s1 2)) <|
 idx true [.str, .sl 7 true] (lL s1 1) ((lI s1 2).toNat) fun (e5 : List UInt8 × List V × Unit) =>
 br ((e4.2.1.length : Int) != (e5.2.1.length : Int)) (
 some (.inr (0, [.b false]))) (
 whileK (fun s6 =>
 chk (0 ≤ (lI s6 2)) <|
 idx true [.str, .sl 7 true] (lL s6 0) ((lI s6 2).toNat) fun (e7 : List UInt8 × List V × Unit) =>
 br (decide ((lI s6 3) < (e7.2.1.length : Int))) (
 chk (0 ≤ (lI s6 2)) <|
 idx true [.str, .sl 7 true] (lL s6 0) ((lI s6 2).toNat) fun (e8 : List UInt8 × List V × Unit) =>
 chk (0 ≤ (lI s6 3)) <|
 idx true [.str, .int .i64, .int .i64, .str, .int .i64, .bool, .str] e8.2.1 ((lI s6 3).toNat) fun (e9 : List UInt8 × Int × Int × List UInt8 × Int × Bool × List UInt8 × Unit) =>
 chk (0 ≤ (lI s6 2)) <|
 idx true [.str, .sl 7 true] (lL s6 1) ((lI s6 2).toNat) fun (e10 : List UInt8 × List V × Unit) =>
 chk (0 ≤ (lI s6 3)) <|
 idx true [.str, .int .i64, .int .i64, .str, .int .i64, .bool, .str] e10.2.1 ((lI s6 3).toNat) fun (e11 : List UInt8 × Int × Int × List UInt8 × Int × Bool × List UInt8 × Unit) =>
 br (!((e9.1 == e11.1) && ((e9.2.1 == e11.2.1) && ((e9.2.2.1 == e11.2.2.1) && ((e9.2.2.2.1 == e11.2.2.2.1) && ((e9.2.2.2.2.1 == e11.2.2.2.2.1) && ((e9.2.2.2.2.2.1 == e11.2.2.2.2.2.1) && ((e9.2.2.2.2.2.2.1 == e11.2.2.2.2.2.2.1) && true)))))))) (
 some (.inr (0, [.l (lL s6 0), .l (lL s6 1), .b false, .i (lI s6 2)]))) (
 some (.inl [.l (lL s6 0), .l (lL s6 1), .i (lI s6 2), .i (IntKind.wrap .i64 ((lI s6 3) + 1))]))) (
 some (.inr (1, [.l (lL s6 0), .l (lL s6 1), .i (lI s6 2)])))) [.l (lL s1 0), .l (lL s1 1), .i (lI s1 2), .i 0] fun (r12 : Nat × List Leaf) =>
 if r12.1 = 0 then
 some (.inr (0, [.b (lB r12.2 2)]))
 else
 some (.inl [.l (lL r12.2 0), .l (lL r12.2 1), .i (IntKind.wrap .i64 ((lI r12.2 2) + 1))])))) (
 some (.inr (1, [])))) [.l a, .l b, .i 0] fun (r13 : Nat × List Leaf) =>
 if r13.1 = 0 then
 k (lB r13.2 0)
 else
 k true)
def F36 : T36 := P36 
def X36 : Exits := fun i => lookN i [] [(4, [(.ret, xk 71 [(4, .bool false)] []), (.exit 0, xk 71 [] [])]), (9, [(.ret, xk 71 [(0, .sl 2 false []), (1, .sl 2 false []), (4, .bool false), (5, .int .i64 0)] []), (.exit 2, xk 71 [(0, .sl 2 false []), (1, .sl 2 false []), (5, .int .i64 0)] [])])]
abbrev s36 : List (Bool × List CK) := [(false, [.sl 2 false]), (false, [.sl 2 false])]
def G36 (F : T36) (β : Type) (e : (List V × Unit) × (List V × Unit) × Unit) (k : V → Option β) : Option β := F β e.1.1 e.2.1.1 (fun y1 => k (.bool y1))
abbrev W36 (F : T36) : WT := wrap s36 (G36 F)
theorem k36 (β : Type) (e : argsT s36) (k : V → Option β) : fnK cfg (tabL []) X36 36 Tryz.f36 β (argsEnc s36 e) k = G36 (P36 ) β e k := by kernel_rfl
theorem ok36 : FnOk D 36 (W36 F36) := fn_okW [] X36 (fun _ => rfl) Tryz.func36 rfl (tabL_nil) (k36 )

/-- spec.EqualCaches -/
abbrev T155 : Type 1 := (β : Type) → List V → List V → (Bool → Option β) → Option β
def P155 : T155 := fun β a_Entries b_Entries k =>
 br ((a_Entries.length : Int) != (b_Entries.length : Int)) (
 k false) (
 whileK (fun s1 =>
 br (decide ((lI s1 0) < ((lL s1 1).length : Int))) (
 chk (0 ≤ (lI s1 0)) <|
 idx true [.str, .str, .str, .int .i64, .int .i64, .str, .int .i64, .bool, .str, .int .i64] (lL s1 1) ((lI s1 0).toNat) fun (e2 : List UInt8 × List UInt8 × List UInt8 × Int × Int × List UInt8 × Int × Bool × List UInt8 × Int × Unit) =>
 chk (0 ≤ (lI s1 0)) <|
 idx true [.str, .str, .str, .int .i64, .int .i64, .str, .int .i64, .bool, .str, .int .i64] (lL s1 2) ((lI s1 0).toNat) fun (e3 : List UInt8 × List UInt8 × List UInt8 × Int × Int × List UInt8 × Int × Bool × List UInt8 × Int × Unit) =>
 br (!((e2.1 == e3.1) && ((e2.2.1 == e3.2.1) && ((e2.2.2.1 == e3.2.2.1) && ((e2.2.2.2.1 == e3.2.2.2.1) && ((e2.2.2.2.2.1 == e3.2.2.2.2.1) && ((e2.2.2.2.2.2.1 == e3.2.2.2.2.2.1) && ((e2.2.2.2.2.2.2.1 == e3.2.2.2.2.2.2.1) && ((e2.2.2.2.2.2.2.2.1 == e3.2.2.2.2.2.2.2.1) && ((e2.2.2.2.2.2.2.2.2.1 == e3.2.2.2.2.2.2.2.2.1) && ((e2.2.2.2.2.2.2.2.2.2.1 == e3.2.2.2.2.2.2.2.2.2.1) && true))))))))))) (
 some (.inr (0, [.b false]))) (
 some (.inl [.i (IntKind.wrap .i64 ((lI s1 0) + 1)), .l (lL s1 1), .l (lL s1 2)]))) (
 some (.inr (1, [])))) [.i 0, .l a_Entries, .l b_Entries] fun (r4 : Nat × List Leaf) =>
 if r4.1 = 0 then
 k (lB r4.2 0)
 else
 k true)
def F155 : T155 := P155 
def X155 : Exits := fun i => lookN i [] [(4, [(.ret, xk 31 [(4, .bool false)] []), (.exit 0, xk 31 [] [])])]
abbrev s155 : List (Bool × List CK) := [(true, [.sl 10 true]), (true, [.sl 10 true])]
def G155 (F : T155) (β : Type) (e : (List V × Unit) × (List V × Unit) × Unit) (k : V → Option β) : Option β := F β e.1.1 e.2.1.1 (fun y1 => k (.bool y1))
abbrev W155 (F : T155) : WT := wrap s155 (G155 F)
theorem k155 (β : Type) (e : argsT s155) (k : V → Option β) : fnK cfg (tabL []) X155 155 Tryz.f155 β (argsEnc s155 e) k = G155 (P155 ) β e k := by kernel_rfl
theorem ok155 : FnOk D 155 (W155 F155) := fn_okW [] X155 (fun _ => rfl) Tryz.func155 rfl (tabL_nil) (k155 )

/-- spec.EqualNets -/
abbrev T94 : Type 1 := (β : Type) → List V → List V → List V → Int → List V → List V → List V → Int → (Bool → Option β) → Option β
def P94 (F36 : T36) (F155 : T155) : T94 := fun β a_Servers a_Cache_Entries a_Log a_Now b_Servers b_Cache_Entries b_Log b_Now k =>
 F36 _ a_Servers b_Servers fun b1 =>
 br (!b1) (
 k false) (
 F155 _ a_Cache_Entries b_Cache_Entries fun b2 =>
 br (!b2) (
 k false) (
 br ((a_Log.length : Int) != (b_Log.length : Int)) (
 k false) (
 br (a_Now != b_Now) (
 k false) (
 whileK (fun s3 =>
 br (decide ((lI s3 0) < ((lL s3 3).length : Int))) (
 chk (0 ≤ (lI s3 0)) <|
 idx true [.str, .str, .str, .bool] (lL s3 3) ((lI s3 0).toNat) fun (e4 : List UInt8 × List UInt8 × List UInt8 × Bool × Unit) =>
 chk (0 ≤ (lI s3 0)) <|
 idx true [.str, .str, .str, .bool] (lL s3 7) ((lI s3 0).toNat) fun (e5 : List UInt8 × List UInt8 × List UInt8 × Bool × Unit) =>
 br (!((e4.1 == e5.1) && ((e4.2.1 == e5.2.1) && ((e4.2.2.1 == e5.2.2.1) && ((e4.2.2.2.1 == e5.2.2.2.1) && true))))) (
 some (.inr (0, [.b false]))) (
 some (.inl [.i (IntKind.wrap .i64 ((lI s3 0) + 1)), .l (lL s3 1), .l (lL s3 2), .l (lL s3 3), .i (lI s3 4), .l (lL s3 5), .l (lL s3 6), .l (lL s3 7), .i (lI s3 8)]))) (
 some (.inr (1, [])))) [.i 0, .l a_Servers, .l a_Cache_Entries, .l a_Log, .i a_Now, .l b_Servers, .l b_Cache_Entries, .l b_Log, .i b_Now] fun (r6 : Nat × List Leaf) =>
 if r6.1 = 0 then
 k (lB r6.2 0)
 else
 k true))))
def F94 : T94 := P94 F36 F155 
def X94 : Exits := fun i => lookN i [] [(4, [(.ret, xk 54 [(4, .bool false)] []), (.exit 0, xk 54 [] [])])]
abbrev s94 : List (Bool × List CK) := [(true, [.sl 2 false, .sl 10 true, .sl 4 true, .int .i64]), (true, [.sl 2 false, .sl 10 true, .sl 4 true, .int .i64])]
def G94 (F : T94) (β : Type) (e : (List V × List V × List V × Int × Unit) × (List V × List V × List V × Int × Unit) × Unit) (k : V → Option β) : Option β := F β e.1.1 e.1.2.1 e.1.2.2.1 e.1.2.2.2.1 e.2.1.1 e.2.1.2.1 e.2.1.2.2.1 e.2.1.2.2.2.1 (fun y1 => k (.bool y1))
abbrev W94 (F : T94) : WT := wrap s94 (G94 F)
theorem k94 (F36 : T36) (F155 : T155) (β : Type) (e : argsT s94) (k : V → Option β) : fnK cfg (tabL [(36, W36 F36), (155, W155 F155)]) X94 94 Tryz.f94 β (argsEnc s94 e) k = G94 (P94 F36 F155 ) β e k := by kernel_rfl
theorem ok94 : FnOk D 94 (W94 F94) := fn_okW [(36, W36 F36), (155, W155 F155)] X94 (fun _ => rfl) Tryz.func94 rfl (tabL_cons ok36 (tabL_cons ok155 tabL_nil)) (k94 F36 F155 )

/-- spec.l9Same -/
abbrev T162 : Type 1 := (β : Type) → List V → List V → (Bool → Option β) → Option β
def P162 : T162 := fun β a b k =>
 br ((a.length : Int) != (b.length : Int)) (
 k false) (
 whileK (fun s1 =>
 br (decide ((lI s1 2) < ((lL s1 0).length : Int))) (
 chk (0 ≤ (lI s1 2)) <|
 idx false [.str] (lL s1 0) ((lI s1 2).toNat) fun (e2 : List UInt8 × Unit) =>
 chk (0 ≤ (lI s1 2)) <|
 idx false [.str] (lL s1 1) ((lI s1 2).toNat) fun (e3 : List UInt8 × Unit) =>
 br (!(e2.1 == e3.1)) (
 some (.inr (0, [.b false]))) (
 some (.inl [.l (lL s1 0), .l (lL s1 1), .i (IntKind.wrap .i64 ((lI s1 2) + 1))]))) (
 some (.inr (1, [])))) [.l a, .l b, .i 0] fun (r4 : Nat × List Leaf) =>
 if r4.1 = 0 then
 k (lB r4.2 0)
 else
 k true)
def F162 : T162 := P162 
def X162 : Exits := fun i => lookN i [] [(4, [(.ret, xk 26 [(4, .bool false)] []), (.exit 0, xk 26 [] [])])]
abbrev s162 : List (Bool × List CK) := [(false, [.sl 1 true]), (false, [.sl 1 true])]
def G162 (F : T162) (β : Type) (e : (List V × Unit) × (List V × Unit) × Unit) (k : V → Option β) : Option β := F β e.1.1 e.2.1.1 (fun y1 => k (.bool y1))
abbrev W162 (F : T162) : WT := wrap s162 (G162 F)
theorem k162 (β : Type) (e : argsT s162) (k : V → Option β) : fnK cfg (tabL []) X162 162 Tryz.f162 β (argsEnc s162 e) k = G162 (P162 ) β e k := by kernel_rfl
theorem ok162 : FnOk D 162 (W162 F162) := fn_okW [] X162 (fun _ => rfl) Tryz.func162 rfl (tabL_nil) (k162 )

/-- spec.EqualPolicies -/
abbrev T100 : Type 1 := (β : Type) → Bool → List V → List V → List V → List UInt8 → Bool → List V → List V → List V → List UInt8 → (Bool → Option β) → Option β
def P100 (F162 : T162) : T100 := fun β a_Set a_Scripts a_Styles a_Images a_Nonce b_Set b_Scripts b_Styles b_Images b_Nonce k =>
 br (a_Set == b_Set) (
 F162 _ a_Scripts b_Scripts fun b1 =>
 br b1 (
 F162 _ a_Styles b_Styles fun b2 =>
 br b2 (
 F162 _ a_Images b_Images fun b3 =>
 br b3 (
 k (a_Nonce == b_Nonce)) (
 k false)) (
 k false)) (
 k false)) (
 k false)
def F100 : T100 := P100 F162 
abbrev s100 : List (Bool × List CK) := [(true, [.bool, .sl 1 true, .sl 1 true, .sl 1 true, .str]), (true, [.bool, .sl 1 true, .sl 1 true, .sl 1 true, .str])]
def G100 (F : T100) (β : Type) (e : (Bool × List V × List V × List V × List UInt8 × Unit) × (Bool × List V × List V × List V × List UInt8 × Unit) × Unit) (k : V → Option β) : Option β := let a0_0 := e.1; let a0_1 := a0_0.2; let a0_2 := a0_1.2; let a0_3 := a0_2.2; let a0_4 := a0_3.2; let a1_0 := e.2.1; let a1_1 := a1_0.2; let a1_2 := a1_1.2; let a1_3 := a1_2.2; let a1_4 := a1_3.2; F β a0_0.1 a0_1.1 a0_2.1 a0_3.1 a0_4.1 a1_0.1 a1_1.1 a1_2.1 a1_3.1 a1_4.1 (fun y1 => k (.bool y1))
abbrev W100 (F : T100) : WT := wrap s100 (G100 F)
theorem k100 (F162 : T162) (β : Type) (e : argsT s100) (k : V → Option β) : fnK cfg (tabL [(162, W162 F162)]) noX 100 Tryz.f100 β (argsEnc s100 e) k = G100 (P100 F162 ) β e k := by kernel_rfl
theorem ok100 : FnOk D 100 (W100 F100) := fn_okW [(162, W162 F162)] noX (fun _ => rfl) Tryz.func100 rfl (tabL_cons ok162 tabL_nil) (k100 F162 )

/-- spec.EqualInts -/
abbrev T163 : Type 1 := (β : Type) → List V → List V → (Bool → Option β) → Option β
def P163 : T163 := fun β a b k =>
 br ((a.length : Int) != (b.length : Int)) (
 k false) (
 whileK (fun s1 =>
 br (decide ((lI s1 2) < ((lL s1 0).length : Int))) (
 chk (0 ≤ (lI s1 2)) <|
 idx false [.int .i64] (lL s1 0) ((lI s1 2).toNat) fun (e2 : Int × Unit) =>
 chk (0 ≤ (lI s1 2)) <|
 idx false [.int .i64] (lL s1 1) ((lI s1 2).toNat) fun (e3 : Int × Unit) =>
 br (e2.1 != e3.1) (
 some (.inr (0, [.b false]))) (
 some (.inl [.l (lL s1 0), .l (lL s1 1), .i (IntKind.wrap .i64 ((lI s1 2) + 1))]))) (
 some (.inr (1, [])))) [.l a, .l b, .i 0] fun (r4 : Nat × List Leaf) =>
 if r4.1 = 0 then
 k (lB r4.2 0)
 else
 k true)
def F163 : T163 := P163 
def X163 : Exits := fun i => lookN i [] [(4, [(.ret, xk 26 [(4, .bool false)] []), (.exit 0, xk 26 [] [])])]
abbrev s163 : List (Bool × List CK) := [(false, [.sl 1 true]), (false, [.sl 1 true])]
def G163 (F : T163) (β : Type) (e : (List V × Unit) × (List V × Unit) × Unit) (k : V → Option β) : Option β := F β e.1.1 e.2.1.1 (fun y1 => k (.bool y1))
abbrev W163 (F : T163) : WT := wrap s163 (G163 F)
theorem k163 (β : Type) (e : argsT s163) (k : V → Option β) : fnK cfg (tabL []) X163 163 Tryz.f163 β (argsEnc s163 e) k = G163 (P163 ) β e k := by kernel_rfl
theorem ok163 : FnOk D 163 (W163 F163) := fn_okW [] X163 (fun _ => rfl) Tryz.func163 rfl (tabL_nil) (k163 )

/-- spec.l6Same -/
abbrev T164 : Type 1 := (β : Type) → List UInt8 → List UInt8 → Int → List V → List UInt8 → List UInt8 → Int → List V → (Bool → Option β) → Option β
def P164 : T164 := fun β a_Name a_Text a_Parent a_Attrs b_Name b_Text b_Parent b_Attrs k =>
 br (!(a_Name == b_Name)) (
 k false) (
 br (!(a_Text == b_Text)) (
 k false) (
 br (a_Parent != b_Parent) (
 k false) (
 br ((a_Attrs.length : Int) != (b_Attrs.length : Int)) (
 k false) (
 whileK (fun s1 =>
 br (decide ((lI s1 0) < ((lL s1 4).length : Int))) (
 chk (0 ≤ (lI s1 0)) <|
 idx true [.str, .str] (lL s1 4) ((lI s1 0).toNat) fun (e2 : List UInt8 × List UInt8 × Unit) =>
 chk (0 ≤ (lI s1 0)) <|
 idx true [.str, .str] (lL s1 8) ((lI s1 0).toNat) fun (e3 : List UInt8 × List UInt8 × Unit) =>
 br (!((e2.1 == e3.1) && ((e2.2.1 == e3.2.1) && true))) (
 some (.inr (0, [.b false]))) (
 some (.inl [.i (IntKind.wrap .i64 ((lI s1 0) + 1)), .s (lS s1 1), .s (lS s1 2), .i (lI s1 3), .l (lL s1 4), .s (lS s1 5), .s (lS s1 6), .i (lI s1 7), .l (lL s1 8)]))) (
 some (.inr (1, [])))) [.i 0, .s a_Name, .s a_Text, .i a_Parent, .l a_Attrs, .s b_Name, .s b_Text, .i b_Parent, .l b_Attrs] fun (r4 : Nat × List Leaf) =>
 if r4.1 = 0 then
 k (lB r4.2 0)
 else
 k true))))
def F164 : T164 := P164 
def X164 : Exits := fun i => lookN i [] [(4, [(.ret, xk 52 [(4, .bool false)] []), (.exit 0, xk 52 [] [])])]
abbrev s164 : List (Bool × List CK) := [(true, [.str, .str, .int .i64, .sl 2 true]), (true, [.str, .str, .int .i64, .sl 2 true])]
def G164 (F : T164) (β : Type) (e : (List UInt8 × List UInt8 × Int × List V × Unit) × (List UInt8 × List UInt8 × Int × List V × Unit) × Unit) (k : V → Option β) : Option β := F β e.1.1 e.1.2.1 e.1.2.2.1 e.1.2.2.2.1 e.2.1.1 e.2.1.2.1 e.2.1.2.2.1 e.2.1.2.2.2.1 (fun y1 => k (.bool y1))
abbrev W164 (F : T164) : WT := wrap s164 (G164 F)
theorem k164 (β : Type) (e : argsT s164) (k : V → Option β) : fnK cfg (tabL []) X164 164 Tryz.f164 β (argsEnc s164 e) k = G164 (P164 ) β e k := by kernel_rfl
theorem ok164 : FnOk D 164 (W164 F164) := fn_okW [] X164 (fun _ => rfl) Tryz.func164 rfl (tabL_nil) (k164 )

/-- spec.EqualBuilders -/
abbrev T101 : Type 1 := (β : Type) → List V → List V → List V → List V → (Bool → Option β) → Option β
def P101 (F163 : T163) (F164 : T164) : T101 := fun β a_Nodes a_Open b_Nodes b_Open k =>
 br ((a_Nodes.length : Int) != (b_Nodes.length : Int)) (
 k false) (
 F163 _ a_Open b_Open fun b1 =>
 br (!b1) (
 k false) (
 whileK (fun s2 =>
 br (decide ((lI s2 0) < ((lL s2 1).length : Int))) (
 chk (0 ≤ (lI s2 0)) <|
 idx true [.str, .str, .int .i64, .sl 2 true] (lL s2 1) ((lI s2 0).toNat) fun (e3 : List UInt8 × List UInt8 × Int × List V × Unit) =>
 chk (0 ≤ (lI s2 0)) <|
 idx true [.str, .str, .int .i64, .sl 2 true] (lL s2 3) ((lI s2 0).toNat) fun (e4 : List UInt8 × List UInt8 × Int × List V × Unit) =>
 F164 _ e3.1 e3.2.1 e3.2.2.1 e3.2.2.2.1 e4.1 e4.2.1 e4.2.2.1 e4.2.2.2.1 fun b5 =>
 br (!b5) (
 some (.inr (0, [.b false]))) (
 some (.inl [.i (IntKind.wrap .i64 ((lI s2 0) + 1)), .l (lL s2 1), .l (lL s2 2), .l (lL s2 3), .l (lL s2 4)]))) (
 some (.inr (1, [])))) [.i 0, .l a_Nodes, .l a_Open, .l b_Nodes, .l b_Open] fun (r6 : Nat × List Leaf) =>
 if r6.1 = 0 then
 k (lB r6.2 0)
 else
 k true))
def F101 : T101 := P101 F163 F164 
def X101 : Exits := fun i => lookN i [] [(4, [(.ret, xk 40 [(4, .bool false)] []), (.exit 0, xk 40 [] [])])]
abbrev s101 : List (Bool × List CK) := [(true, [.sl 4 false, .sl 1 true]), (true, [.sl 4 false, .sl 1 true])]
def G101 (F : T101) (β : Type) (e : (List V × List V × Unit) × (List V × List V × Unit) × Unit) (k : V → Option β) : Option β := F β e.1.1 e.1.2.1 e.2.1.1 e.2.1.2.1 (fun y1 => k (.bool y1))
abbrev W101 (F : T101) : WT := wrap s101 (G101 F)
theorem k101 (F163 : T163) (F164 : T164) (β : Type) (e : argsT s101) (k : V → Option β) : fnK cfg (tabL [(163, W163 F163), (164, W164 F164)]) X101 101 Tryz.f101 β (argsEnc s101 e) k = G101 (P101 F163 F164 ) β e k := by kernel_rfl
theorem ok101 : FnOk D 101 (W101 F101) := fn_okW [(163, W163 F163), (164, W164 F164)] X101 (fun _ => rfl) Tryz.func101 rfl (tabL_cons ok163 (tabL_cons ok164 tabL_nil)) (k101 F163 F164 )

/-- spec.FormatToken -/
abbrev T165 : Type 1 := (β : Type) → Int → List UInt8 → List V → List UInt8 → (List UInt8 → Option β) → Option β
def P165 : T165 := fun β t_Kind t_Name t_Attrs t_Text k =>
 br (t_Kind == 1) (
 chk (([60] : List UInt8).length + t_Name.length ≤ 9223372036854775807) <|
 whileK (fun s1 =>
 br (decide ((lI s1 1) < ((lL s1 4).length : Int))) (
 chk ((lS s1 0).length + ([32] : List UInt8).length ≤ 9223372036854775807) <|
 chk (0 ≤ (lI s1 1)) <|
 idx true [.str, .str] (lL s1 4) ((lI s1 1).toNat) fun (e2 : List UInt8 × List UInt8 × Unit) =>
 chk (((lS s1 0) ++ [32]).length + e2.1.length ≤ 9223372036854775807) <|
 chk ((((lS s1 0) ++ [32]) ++ e2.1).length + ([61] : List UInt8).length ≤ 9223372036854775807) <|
 chk (0 ≤ (lI s1 1)) <|
 idx true [.str, .str] (lL s1 4) ((lI s1 1).toNat) fun (e3 : List UInt8 × List UInt8 × Unit) =>
 chk (((((lS s1 0) ++ [32]) ++ e2.1) ++ [61]).length + e3.2.1.length ≤ 9223372036854775807) <|
 some (.inl [.s (((((lS s1 0) ++ [32]) ++ e2.1) ++ [61]) ++ e3.2.1), .i (IntKind.wrap .i64 ((lI s1 1) + 1)), .i (lI s1 2), .s (lS s1 3), .l (lL s1 4), .s (lS s1 5)])) (
 some (.inr (0, [.s (lS s1 0)])))) [.s ([60] ++ t_Name), .i 0, .i t_Kind, .s t_Name, .l t_Attrs, .s t_Text] fun (r4 : Nat × List Leaf) =>
 chk ((lS r4.2 0).length + ([62] : List UInt8).length ≤ 9223372036854775807) <|
 k ((lS r4.2 0) ++ [62])) (
 br (t_Kind == 2) (
 chk (([60, 47] : List UInt8).length + t_Name.length ≤ 9223372036854775807) <|
 chk (([60, 47] ++ t_Name : List UInt8).length + ([62] : List UInt8).length ≤ 9223372036854775807) <|
 k (([60, 47] ++ t_Name) ++ [62])) (
 br (t_Kind == 3) (
 k t_Text) (
 k [])))
def F165 : T165 := P165 
def X165 : Exits := fun i => lookN i [] [(5, [(.exit 1, xk 48 [(3, .str [])] [])])]
abbrev s165 : List (Bool × List CK) := [(true, [.int .i64, .str, .sl 2 true, .str])]
def G165 (F : T165) (β : Type) (e : (Int × List UInt8 × List V × List UInt8 × Unit) × Unit) (k : V → Option β) : Option β := F β e.1.1 e.1.2.1 e.1.2.2.1 e.1.2.2.2.1 (fun y1 => k (.str y1))
abbrev W165 (F : T165) : WT := wrap s165 (G165 F)
theorem k165 (β : Type) (e : argsT s165) (k : V → Option β) : fnK cfg (tabL []) X165 165 Tryz.f165 β (argsEnc s165 e) k = G165 (P165 ) β e k := by kernel_rfl
theorem ok165 : FnOk D 165 (W165 F165) := fn_okW [] X165 (fun _ => rfl) Tryz.func165 rfl (tabL_nil) (k165 )

/-- spec.l15SameTokens -/
abbrev T102 : Type 1 := (β : Type) → List V → List V → (Bool → Option β) → Option β
def P102 (F165 : T165) : T102 := fun β a b k =>
 br ((a.length : Int) != (b.length : Int)) (
 k false) (
 whileK (fun s1 =>
 br (decide ((lI s1 2) < ((lL s1 0).length : Int))) (
 chk (0 ≤ (lI s1 2)) <|
 idx true [.int .i64, .str, .sl 2 true, .str] (lL s1 0) ((lI s1 2).toNat) fun (e2 : Int × List UInt8 × List V × List UInt8 × Unit) =>
 chk (0 ≤ (lI s1 2)) <|
 idx true [.int .i64, .str, .sl 2 true, .str] (lL s1 1) ((lI s1 2).toNat) fun (e3 : Int × List UInt8 × List V × List UInt8 × Unit) =>
 br (e2.1 != e3.1) (
 some (.inr (0, [.b false]))) (
 chk (0 ≤ (lI s1 2)) <|
 idx true [.int .i64, .str, .sl 2 true, .str] (lL s1 0) ((lI s1 2).toNat) fun (e4 : Int × List UInt8 × List V × List UInt8 × Unit) =>
 F165 _ e4.1 e4.2.1 e4.2.2.1 e4.2.2.2.1 fun t5 =>
 chk (0 ≤ (lI s1 2)) <|
 idx true [.int .i64, .str, .sl 2 true, .str] (lL s1 1) ((lI s1 2).toNat) fun (e6 : Int × List UInt8 × List V × List UInt8 × Unit) =>
 F165 _ e6.1 e6.2.1 e6.2.2.1 e6.2.2.2.1 fun t7 =>
 br (!(t5 == t7)) (
 some (.inr (0, [.b false]))) (
 chk (0 ≤ (lI s1 2)) <|
 idx true [.int .i64, .str, .sl 2 true, .str] (lL s1 0) ((lI s1 2).toNat) fun (e8 : Int × List UInt8 × List V × List UInt8 × Unit) =>
 chk (0 ≤ (lI s1 2)) <|
 idx true [.int .i64, .str, .sl 2 true, .str] (lL s1 1) ((lI s1 2).toNat) fun (e9 : Int × List UInt8 × List V × List UInt8 × Unit) =>
 br (!(e8.2.1 == e9.2.1)) (
 some (.inr (0, [.b false]))) (
 chk (0 ≤ (lI s1 2)) <|
 idx true [.int .i64, .str, .sl 2 true, .str] (lL s1 0) ((lI s1 2).toNat) fun (e10 : Int × List UInt8 × List V × List UInt8 × Unit) =>
 chk (0 ≤ (lI s1 2)) <|
 idx true [.int .i64, .str, .sl 2 true, .str] (lL s1 1) ((lI s1 2).toNat) fun (e11 : Int × List UInt8 × List V × List UInt8 × Unit) =>
 br (!(e10.2.2.2.1 == e11.2.2.2.1)) (
 some (.inr (0, [.b false]))) (
 chk (0 ≤ (lI s1 2)) <|
 idx true [.int .i64, .str, .sl 2 true, .str] (lL s1 0) ((lI s1 2).toNat) fun (e12 : Int × List UInt8 × List V × List UInt8 × Unit) =>
 chk (0 ≤ (lI s1 2)) <|
 idx true [.int .i64, .str, .sl 2 true, .str] (lL s1 1) ((lI s1 2).toNat) fun (e13 : Int × List UInt8 × List V × List UInt8 × Unit) =>
 br ((e12.2.2.1.length : Int) != (e13.2.2.1.length : Int)) (
 some (.inr (0, [.b false]))) (
 whileK (fun s14 =>
 chk (0 ≤ (lI s14 2)) <|
 idx true [.int .i64, .str, .sl 2 true, .str] (lL s14 0) ((lI s14 2).toNat) fun (e15 : Int × List UInt8 × List V × List UInt8 × Unit) =>
 br (decide ((lI s14 3) < (e15.2.2.1.length : Int))) (
 chk (0 ≤ (lI s14 2)) <|
 idx true [.int .i64, .str, .sl 2 true, .str] (lL s14 0) ((lI s14 2).toNat) fun (e16 : Int × List UInt8 × List V × List UInt8 × Unit) =>
 chk (0 ≤ (lI s14 3)) <|
 idx true [.str, .str] e16.2.2.1 ((lI s14 3).toNat) fun (e17 : List UInt8 × List UInt8 × Unit) =>
 chk (0 ≤ (lI s14 2)) <|
 idx true [.int .i64, .str, .sl 2 true, .str] (lL s14 1) ((lI s14 2).toNat) fun (e18 : Int × List UInt8 × List V × List UInt8 × Unit) =>
 chk (0 ≤ (lI s14 3)) <|
 idx true [.str, .str] e18.2.2.1 ((lI s14 3).toNat) fun (e19 : List UInt8 × List UInt8 × Unit) =>
 br (!((e17.1 == e19.1) && ((e17.2.1 == e19.2.1) && true))) (
 some (.inr (0, [.l (lL s14 0), .l (lL s14 1), .b false, .i (lI s14 2)]))) (
 some (.inl [.l (lL s14 0), .l (lL s14 1), .i (lI s14 2), .i (IntKind.wrap .i64 ((lI s14 3) + 1))]))) (
 some (.inr (1, [.l (lL s14 0), .l (lL s14 1), .i (lI s14 2)])))) [.l (lL s1 0), .l (lL s1 1), .i (lI s1 2), .i 0] fun (r20 : Nat × List Leaf) =>
 if r20.1 = 0 then
 some (.inr (0, [.b (lB r20.2 2)]))
 else
 some (.inl [.l (lL r20.2 0), .l (lL r20.2 1), .i (IntKind.wrap .i64 ((lI r20.2 2) + 1))]))))))) (
 some (.inr (1, [])))) [.l a, .l b, .i 0] fun (r21 : Nat × List Leaf) =>
 if r21.1 = 0 then
 k (lB r21.2 0)
 else
 k true)
def F102 : T102 := P102 F165 
def X102 : Exits := fun i => lookN i [] [(4, [(.ret, xk 110 [(4, .bool false)] []), (.exit 0, xk 110 [] [])]), (9, [(.ret, xk 110 [(0, .sl 4 false []), (1, .sl 4 false []), (4, .bool false), (5, .int .i64 0)] []), (.exit 2, xk 110 [(0, .sl 4 false []), (1, .sl 4 false []), (5, .int .i64 0)] [])])]
abbrev s102 : List (Bool × List CK) := [(false, [.sl 4 false]), (false, [.sl 4 false])]
def G102 (F : T102) (β : Type) (e : (List V × Unit) × (List V × Unit) × Unit) (k : V → Option β) : Option β := F β e.1.1 e.2.1.1 (fun y1 => k (.bool y1))
abbrev W102 (F : T102) : WT := wrap s102 (G102 F)
theorem k102 (F165 : T165) (β : Type) (e : argsT s102) (k : V → Option β) : fnK cfg (tabL [(165, W165 F165)]) X102 102 Tryz.f102 β (argsEnc s102 e) k = G102 (P102 F165 ) β e k := by kernel_rfl
theorem ok102 : FnOk D 102 (W102 F102) := fn_okW [(165, W165 F165)] X102 (fun _ => rfl) Tryz.func102 rfl (tabL_cons ok165 tabL_nil) (k102 F165 )

/-- spec.l15Lists -/
abbrev T103 : Type 1 := (β : Type) → List UInt8 → List UInt8 → Bool → List V → List V → List V → List UInt8 → List UInt8 → List V → Bool → List V → List V → List V → List V → List V → Int → Int → Int → Int → List V → List V → Bool → List UInt8 → List UInt8 → Bool → List V → List V → List V → List UInt8 → List UInt8 → List V → Bool → List V → List V → List V → List V → List V → Int → Int → Int → Int → List V → List V → Bool → (Bool → Option β) → Option β
def P103 : T103 := fun β a_Addr_Host a_Addr_Path a_Policy_Set a_Policy_Scripts a_Policy_Styles a_Policy_Images a_Policy_Nonce a_Tok_Rest a_Queue a_Ended a_Builder_Nodes a_Builder_Open a_Slots a_Mods a_Entries a_Block a_Inline a_Deferred a_Entered a_Ran a_Log a_Loaded b_Addr_Host b_Addr_Path b_Policy_Set b_Policy_Scripts b_Policy_Styles b_Policy_Images b_Policy_Nonce b_Tok_Rest b_Queue b_Ended b_Builder_Nodes b_Builder_Open b_Slots b_Mods b_Entries b_Block b_Inline b_Deferred b_Entered b_Ran b_Log b_Loaded k =>
 br ((a_Slots.length : Int) != (b_Slots.length : Int)) (
 k false) (
 br ((a_Mods.length : Int) != (b_Mods.length : Int)) (
 k false) (
 whileK (fun s1 =>
 br (decide ((lI s1 0) < ((lL s1 13).length : Int))) (
 chk (0 ≤ (lI s1 0)) <|
 idx true [.int .i64, .str, .str, .str, .int .i64, .bool, .int .i64, .str] (lL s1 13) ((lI s1 0).toNat) fun (e2 : Int × List UInt8 × List UInt8 × List UInt8 × Int × Bool × Int × List UInt8 × Unit) =>
 chk (0 ≤ (lI s1 0)) <|
 idx true [.int .i64, .str, .str, .str, .int .i64, .bool, .int .i64, .str] (lL s1 35) ((lI s1 0).toNat) fun (e3 : Int × List UInt8 × List UInt8 × List UInt8 × Int × Bool × Int × List UInt8 × Unit) =>
 br (!((e2.1 == e3.1) && ((e2.2.1 == e3.2.1) && ((e2.2.2.1 == e3.2.2.1) && ((e2.2.2.2.1 == e3.2.2.2.1) && ((e2.2.2.2.2.1 == e3.2.2.2.2.1) && ((e2.2.2.2.2.2.1 == e3.2.2.2.2.2.1) && ((e2.2.2.2.2.2.2.1 == e3.2.2.2.2.2.2.1) && ((e2.2.2.2.2.2.2.2.1 == e3.2.2.2.2.2.2.2.1) && true))))))))) (
 some (.inr (0, [.b false, .s (lS s1 1), .s (lS s1 2), .b (lB s1 3), .l (lL s1 4), .l (lL s1 5), .l (lL s1 6), .s (lS s1 7), .s (lS s1 8), .l (lL s1 9), .b (lB s1 10), .l (lL s1 11), .l (lL s1 12), .l (lL s1 13), .l (lL s1 14), .l (lL s1 15), .i (lI s1 16), .i (lI s1 17), .i (lI s1 18), .i (lI s1 19), .l (lL s1 20), .l (lL s1 21), .b (lB s1 22), .s (lS s1 23), .s (lS s1 24), .b (lB s1 25), .l (lL s1 26), .l (lL s1 27), .l (lL s1 28), .s (lS s1 29), .s (lS s1 30), .l (lL s1 31), .b (lB s1 32), .l (lL s1 33), .l (lL s1 34), .l (lL s1 35), .l (lL s1 36), .l (lL s1 37), .i (lI s1 38), .i (lI s1 39), .i (lI s1 40), .i (lI s1 41), .l (lL s1 42), .l (lL s1 43), .b (lB s1 44)]))) (
 some (.inl [.i (IntKind.wrap .i64 ((lI s1 0) + 1)), .s (lS s1 1), .s (lS s1 2), .b (lB s1 3), .l (lL s1 4), .l (lL s1 5), .l (lL s1 6), .s (lS s1 7), .s (lS s1 8), .l (lL s1 9), .b (lB s1 10), .l (lL s1 11), .l (lL s1 12), .l (lL s1 13), .l (lL s1 14), .l (lL s1 15), .i (lI s1 16), .i (lI s1 17), .i (lI s1 18), .i (lI s1 19), .l (lL s1 20), .l (lL s1 21), .b (lB s1 22), .s (lS s1 23), .s (lS s1 24), .b (lB s1 25), .l (lL s1 26), .l (lL s1 27), .l (lL s1 28), .s (lS s1 29), .s (lS s1 30), .l (lL s1 31), .b (lB s1 32), .l (lL s1 33), .l (lL s1 34), .l (lL s1 35), .l (lL s1 36), .l (lL s1 37), .i (lI s1 38), .i (lI s1 39), .i (lI s1 40), .i (lI s1 41), .l (lL s1 42), .l (lL s1 43), .b (lB s1 44)]))) (
 some (.inr (1, [.s (lS s1 1), .s (lS s1 2), .b (lB s1 3), .l (lL s1 4), .l (lL s1 5), .l (lL s1 6), .s (lS s1 7), .s (lS s1 8), .l (lL s1 9), .b (lB s1 10), .l (lL s1 11), .l (lL s1 12), .l (lL s1 13), .l (lL s1 14), .l (lL s1 15), .i (lI s1 16), .i (lI s1 17), .i (lI s1 18), .i (lI s1 19), .l (lL s1 20), .l (lL s1 21), .b (lB s1 22), .s (lS s1 23), .s (lS s1 24), .b (lB s1 25), .l (lL s1 26), .l (lL s1 27), .l (lL s1 28), .s (lS s1 29), .s (lS s1 30), .l (lL s1 31), .b (lB s1 32), .l (lL s1 33), .l (lL s1 34), .l (lL s1 35), .l (lL s1 36), .l (lL s1 37), .i (lI s1 38), .i (lI s1 39), .i (lI s1 40), .i (lI s1 41), .l (lL s1 42), .l (lL s1 43), .b (lB s1 44)])))) [.i 0, .s a_Addr_Host, .s a_Addr_Path, .b a_Policy_Set, .l a_Policy_Scripts, .l a_Policy_Styles, .l a_Policy_Images, .s a_Policy_Nonce, .s a_Tok_Rest, .l a_Queue, .b a_Ended, .l a_Builder_Nodes, .l a_Builder_Open, .l a_Slots, .l a_Mods, .l a_Entries, .i a_Block, .i a_Inline, .i a_Deferred, .i a_Entered, .l a_Ran, .l a_Log, .b a_Loaded, .s b_Addr_Host, .s b_Addr_Path, .b b_Policy_Set, .l b_Policy_Scripts, .l b_Policy_Styles, .l b_Policy_Images, .s b_Policy_Nonce, .s b_Tok_Rest, .l b_Queue, .b b_Ended, .l b_Builder_Nodes, .l b_Builder_Open, .l b_Slots, .l b_Mods, .l b_Entries, .i b_Block, .i b_Inline, .i b_Deferred, .i b_Entered, .l b_Ran, .l b_Log, .b b_Loaded] fun (r4 : Nat × List Leaf) =>
 if r4.1 = 0 then
 k (lB r4.2 0)
 else
 whileK (fun s5 =>
 br (decide ((lI s5 0) < ((lL s5 14).length : Int))) (
 chk (0 ≤ (lI s5 0)) <|
 idx true [.str, .str, .bool, .int .i64, .str] (lL s5 14) ((lI s5 0).toNat) fun (e6 : List UInt8 × List UInt8 × Bool × Int × List UInt8 × Unit) =>
 chk (0 ≤ (lI s5 0)) <|
 idx true [.str, .str, .bool, .int .i64, .str] (lL s5 36) ((lI s5 0).toNat) fun (e7 : List UInt8 × List UInt8 × Bool × Int × List UInt8 × Unit) =>
 br (!((e6.1 == e7.1) && ((e6.2.1 == e7.2.1) && ((e6.2.2.1 == e7.2.2.1) && ((e6.2.2.2.1 == e7.2.2.2.1) && ((e6.2.2.2.2.1 == e7.2.2.2.2.1) && true)))))) (
 some (.inr (0, [.b false]))) (
 some (.inl [.i (IntKind.wrap .i64 ((lI s5 0) + 1)), .s (lS s5 1), .s (lS s5 2), .b (lB s5 3), .l (lL s5 4), .l (lL s5 5), .l (lL s5 6), .s (lS s5 7), .s (lS s5 8), .l (lL s5 9), .b (lB s5 10), .l (lL s5 11), .l (lL s5 12), .l (lL s5 13), .l (lL s5 14), .l (lL s5 15), .i (lI s5 16), .i (lI s5 17), .i (lI s5 18), .i (lI s5 19), .l (lL s5 20), .l (lL s5 21), .b (lB s5 22), .s (lS s5 23), .s (lS s5 24), .b (lB s5 25), .l (lL s5 26), .l (lL s5 27), .l (lL s5 28), .s (lS s5 29), .s (lS s5 30), .l (lL s5 31), .b (lB s5 32), .l (lL s5 33), .l (lL s5 34), .l (lL s5 35), .l (lL s5 36), .l (lL s5 37), .i (lI s5 38), .i (lI s5 39), .i (lI s5 40), .i (lI s5 41), .l (lL s5 42), .l (lL s5 43), .b (lB s5 44)]))) (
 some (.inr (1, [])))) [.i 0, .s (lS r4.2 0), .s (lS r4.2 1), .b (lB r4.2 2), .l (lL r4.2 3), .l (lL r4.2 4), .l (lL r4.2 5), .s (lS r4.2 6), .s (lS r4.2 7), .l (lL r4.2 8), .b (lB r4.2 9), .l (lL r4.2 10), .l (lL r4.2 11), .l (lL r4.2 12), .l (lL r4.2 13), .l (lL r4.2 14), .i (lI r4.2 15), .i (lI r4.2 16), .i (lI r4.2 17), .i (lI r4.2 18), .l (lL r4.2 19), .l (lL r4.2 20), .b (lB r4.2 21), .s (lS r4.2 22), .s (lS r4.2 23), .b (lB r4.2 24), .l (lL r4.2 25), .l (lL r4.2 26), .l (lL r4.2 27), .s (lS r4.2 28), .s (lS r4.2 29), .l (lL r4.2 30), .b (lB r4.2 31), .l (lL r4.2 32), .l (lL r4.2 33), .l (lL r4.2 34), .l (lL r4.2 35), .l (lL r4.2 36), .i (lI r4.2 37), .i (lI r4.2 38), .i (lI r4.2 39), .i (lI r4.2 40), .l (lL r4.2 41), .l (lL r4.2 42), .b (lB r4.2 43)] fun (r8 : Nat × List Leaf) =>
 if r8.1 = 0 then
 k (lB r8.2 0)
 else
 k true))
def F103 : T103 := P103 
def X103 : Exits := fun i => lookN i [] [(4, [(.ret, xk 59 [(2, .ptr 2 0), (3, .ptr 3 0), (4, .bool false)] [(2, .agg [.str [], .str [], .bool false, .sl 1 true [], .sl 1 true [], .sl 1 true [], .str [], .str [], .sl 4 false [], .bool false, .sl 4 false [], .sl 1 true [], .sl 8 true [], .sl 5 true [], .sl 2 true [], .int .i64 0, .int .i64 0, .int .i64 0, .int .i64 0, .sl 2 true [], .sl 1 true [], .bool false]), (3, .agg [.str [], .str [], .bool false, .sl 1 true [], .sl 1 true [], .sl 1 true [], .str [], .str [], .sl 4 false [], .bool false, .sl 4 false [], .sl 1 true [], .sl 8 true [], .sl 5 true [], .sl 2 true [], .int .i64 0, .int .i64 0, .int .i64 0, .int .i64 0, .sl 2 true [], .sl 1 true [], .bool false])]), (.exit 0, xk 59 [(2, .ptr 2 0), (3, .ptr 3 0)] [(2, .agg [.str [], .str [], .bool false, .sl 1 true [], .sl 1 true [], .sl 1 true [], .str [], .str [], .sl 4 false [], .bool false, .sl 4 false [], .sl 1 true [], .sl 8 true [], .sl 5 true [], .sl 2 true [], .int .i64 0, .int .i64 0, .int .i64 0, .int .i64 0, .sl 2 true [], .sl 1 true [], .bool false]), (3, .agg [.str [], .str [], .bool false, .sl 1 true [], .sl 1 true [], .sl 1 true [], .str [], .str [], .sl 4 false [], .bool false, .sl 4 false [], .sl 1 true [], .sl 8 true [], .sl 5 true [], .sl 2 true [], .int .i64 0, .int .i64 0, .int .i64 0, .int .i64 0, .sl 2 true [], .sl 1 true [], .bool false])])]), (9, [(.ret, xk 59 [(4, .bool false)] []), (.exit 2, xk 59 [] [])])]
abbrev s103 : List (Bool × List CK) := [(true, [.str, .str, .bool, .sl 1 true, .sl 1 true, .sl 1 true, .str, .str, .sl 4 false, .bool, .sl 4 false, .sl 1 true, .sl 8 true, .sl 5 true, .sl 2 true, .int .i64, .int .i64, .int .i64, .int .i64, .sl 2 true, .sl 1 true, .bool]), (true, [.str, .str, .bool, .sl 1 true, .sl 1 true, .sl 1 true, .str, .str, .sl 4 false, .bool, .sl 4 false, .sl 1 true, .sl 8 true, .sl 5 true, .sl 2 true, .int .i64, .int .i64, .int .i64, .int .i64, .sl 2 true, .sl 1 true, .bool])]
def G103 (F : T103) (β : Type) (e : (List UInt8 × List UInt8 × Bool × List V × List V × List V × List UInt8 × List UInt8 × List V × Bool × List V × List V × List V × List V × List V × Int × Int × Int × Int × List V × List V × Bool × Unit) × (List UInt8 × List UInt8 × Bool × List V × List V × List V × List UInt8 × List UInt8 × List V × Bool × List V × List V × List V × List V × List V × Int × Int × Int × Int × List V × List V × Bool × Unit) × Unit) (k : V → Option β) : Option β := let a0_0 := e.1; let a0_1 := a0_0.2; let a0_2 := a0_1.2; let a0_3 := a0_2.2; let a0_4 := a0_3.2; let a0_5 := a0_4.2; let a0_6 := a0_5.2; let a0_7 := a0_6.2; let a0_8 := a0_7.2; let a0_9 := a0_8.2; let a0_10 := a0_9.2; let a0_11 := a0_10.2; let a0_12 := a0_11.2; let a0_13 := a0_12.2; let a0_14 := a0_13.2; let a0_15 := a0_14.2; let a0_16 := a0_15.2; let a0_17 := a0_16.2; let a0_18 := a0_17.2; let a0_19 := a0_18.2; let a0_20 := a0_19.2; let a0_21 := a0_20.2; let a1_0 := e.2.1; let a1_1 := a1_0.2; let a1_2 := a1_1.2; let a1_3 := a1_2.2; let a1_4 := a1_3.2; let a1_5 := a1_4.2; let a1_6 := a1_5.2; let a1_7 := a1_6.2; let a1_8 := a1_7.2; let a1_9 := a1_8.2; let a1_10 := a1_9.2; let a1_11 := a1_10.2; let a1_12 := a1_11.2; let a1_13 := a1_12.2; let a1_14 := a1_13.2; let a1_15 := a1_14.2; let a1_16 := a1_15.2; let a1_17 := a1_16.2; let a1_18 := a1_17.2; let a1_19 := a1_18.2; let a1_20 := a1_19.2; let a1_21 := a1_20.2; F β a0_0.1 a0_1.1 a0_2.1 a0_3.1 a0_4.1 a0_5.1 a0_6.1 a0_7.1 a0_8.1 a0_9.1 a0_10.1 a0_11.1 a0_12.1 a0_13.1 a0_14.1 a0_15.1 a0_16.1 a0_17.1 a0_18.1 a0_19.1 a0_20.1 a0_21.1 a1_0.1 a1_1.1 a1_2.1 a1_3.1 a1_4.1 a1_5.1 a1_6.1 a1_7.1 a1_8.1 a1_9.1 a1_10.1 a1_11.1 a1_12.1 a1_13.1 a1_14.1 a1_15.1 a1_16.1 a1_17.1 a1_18.1 a1_19.1 a1_20.1 a1_21.1 (fun y1 => k (.bool y1))
abbrev W103 (F : T103) : WT := wrap s103 (G103 F)
theorem k103 (β : Type) (e : argsT s103) (k : V → Option β) : fnK cfg (tabL []) X103 103 Tryz.f103 β (argsEnc s103 e) k = G103 (P103 ) β e k := by kernel_rfl
theorem ok103 : FnOk D 103 (W103 F103) := fn_okW [] X103 (fun _ => rfl) Tryz.func103 rfl (tabL_nil) (k103 )

/-- spec.l15Addrs -/
abbrev T104 : Type 1 := (β : Type) → List V → List V → (Bool → Option β) → Option β
def P104 : T104 := fun β a b k =>
 br ((a.length : Int) != (b.length : Int)) (
 k false) (
 whileK (fun s1 =>
 br (decide ((lI s1 2) < ((lL s1 0).length : Int))) (
 chk (0 ≤ (lI s1 2)) <|
 idx true [.str, .str] (lL s1 0) ((lI s1 2).toNat) fun (e2 : List UInt8 × List UInt8 × Unit) =>
 chk (0 ≤ (lI s1 2)) <|
 idx true [.str, .str] (lL s1 1) ((lI s1 2).toNat) fun (e3 : List UInt8 × List UInt8 × Unit) =>
 br (!((e2.1 == e3.1) && ((e2.2.1 == e3.2.1) && true))) (
 some (.inr (0, [.b false]))) (
 some (.inl [.l (lL s1 0), .l (lL s1 1), .i (IntKind.wrap .i64 ((lI s1 2) + 1))]))) (
 some (.inr (1, [])))) [.l a, .l b, .i 0] fun (r4 : Nat × List Leaf) =>
 if r4.1 = 0 then
 k (lB r4.2 0)
 else
 k true)
def F104 : T104 := P104 
def X104 : Exits := fun i => lookN i [] [(4, [(.ret, xk 26 [(4, .bool false)] []), (.exit 0, xk 26 [] [])])]
abbrev s104 : List (Bool × List CK) := [(false, [.sl 2 true]), (false, [.sl 2 true])]
def G104 (F : T104) (β : Type) (e : (List V × Unit) × (List V × Unit) × Unit) (k : V → Option β) : Option β := F β e.1.1 e.2.1.1 (fun y1 => k (.bool y1))
abbrev W104 (F : T104) : WT := wrap s104 (G104 F)
theorem k104 (β : Type) (e : argsT s104) (k : V → Option β) : fnK cfg (tabL []) X104 104 Tryz.f104 β (argsEnc s104 e) k = G104 (P104 ) β e k := by kernel_rfl
theorem ok104 : FnOk D 104 (W104 F104) := fn_okW [] X104 (fun _ => rfl) Tryz.func104 rfl (tabL_nil) (k104 )

/-- spec.l15Texts -/
abbrev T105 : Type 1 := (β : Type) → List V → List V → (Bool → Option β) → Option β
def P105 (F162 : T162) : T105 := fun β a b k =>
 F162 _ a b fun b1 =>
 k b1
def F105 : T105 := P105 F162 
abbrev s105 : List (Bool × List CK) := [(false, [.sl 1 true]), (false, [.sl 1 true])]
def G105 (F : T105) (β : Type) (e : (List V × Unit) × (List V × Unit) × Unit) (k : V → Option β) : Option β := F β e.1.1 e.2.1.1 (fun y1 => k (.bool y1))
abbrev W105 (F : T105) : WT := wrap s105 (G105 F)
theorem k105 (F162 : T162) (β : Type) (e : argsT s105) (k : V → Option β) : fnK cfg (tabL [(162, W162 F162)]) noX 105 Tryz.f105 β (argsEnc s105 e) k = G105 (P105 F162 ) β e k := by kernel_rfl
theorem ok105 : FnOk D 105 (W105 F105) := fn_okW [(162, W162 F162)] noX (fun _ => rfl) Tryz.func105 rfl (tabL_cons ok162 tabL_nil) (k105 F162 )

/-- spec.EqualPages -/
abbrev T35 : Type 1 := (β : Type) → List UInt8 → List UInt8 → Bool → List V → List V → List V → List UInt8 → List UInt8 → List V → Bool → List V → List V → List V → List V → List V → Int → Int → Int → Int → List V → List V → Bool → List UInt8 → List UInt8 → Bool → List V → List V → List V → List UInt8 → List UInt8 → List V → Bool → List V → List V → List V → List V → List V → Int → Int → Int → Int → List V → List V → Bool → (Bool → Option β) → Option β
def P35 (F100 : T100) (F101 : T101) (F102 : T102) (F103 : T103) (F104 : T104) (F105 : T105) : T35 := fun β a_Addr_Host a_Addr_Path a_Policy_Set a_Policy_Scripts a_Policy_Styles a_Policy_Images a_Policy_Nonce a_Tok_Rest a_Queue a_Ended a_Builder_Nodes a_Builder_Open a_Slots a_Mods a_Entries a_Block a_Inline a_Deferred a_Entered a_Ran a_Log a_Loaded b_Addr_Host b_Addr_Path b_Policy_Set b_Policy_Scripts b_Policy_Styles b_Policy_Images b_Policy_Nonce b_Tok_Rest b_Queue b_Ended b_Builder_Nodes b_Builder_Open b_Slots b_Mods b_Entries b_Block b_Inline b_Deferred b_Entered b_Ran b_Log b_Loaded k =>
 br (!((a_Addr_Host == b_Addr_Host) && ((a_Addr_Path == b_Addr_Path) && true))) (
 k false) (
 br (!((a_Tok_Rest == b_Tok_Rest) && true)) (
 k false) (
 br (!(a_Ended == b_Ended)) (
 k false) (
 br (a_Block != b_Block) (
 k false) (
 br (a_Inline != b_Inline) (
 k false) (
 br (a_Deferred != b_Deferred) (
 k false) (
 br (a_Entered != b_Entered) (
 k false) (
 br (!(a_Loaded == b_Loaded)) (
 k false) (
 F100 _ a_Policy_Set a_Policy_Scripts a_Policy_Styles a_Policy_Images a_Policy_Nonce b_Policy_Set b_Policy_Scripts b_Policy_Styles b_Policy_Images b_Policy_Nonce fun b1 =>
 br b1 (
 F101 _ a_Builder_Nodes a_Builder_Open b_Builder_Nodes b_Builder_Open fun b2 =>
 br b2 (
 F102 _ a_Queue b_Queue fun b3 =>
 br b3 (
 F103 _ a_Addr_Host a_Addr_Path a_Policy_Set a_Policy_Scripts a_Policy_Styles a_Policy_Images a_Policy_Nonce a_Tok_Rest a_Queue a_Ended a_Builder_Nodes a_Builder_Open a_Slots a_Mods a_Entries a_Block a_Inline a_Deferred a_Entered a_Ran a_Log a_Loaded b_Addr_Host b_Addr_Path b_Policy_Set b_Policy_Scripts b_Policy_Styles b_Policy_Images b_Policy_Nonce b_Tok_Rest b_Queue b_Ended b_Builder_Nodes b_Builder_Open b_Slots b_Mods b_Entries b_Block b_Inline b_Deferred b_Entered b_Ran b_Log b_Loaded fun b4 =>
 br b4 (
 F104 _ a_Entries b_Entries fun b5 =>
 br b5 (
 F104 _ a_Ran b_Ran fun b6 =>
 br b6 (
 F105 _ a_Log b_Log fun b7 =>
 k b7) (
 k false)) (
 k false)) (
 k false)) (
 k false)) (
 k false)) (
 k false)))))))))
def F35 : T35 := P35 F100 F101 F102 F103 F104 F105 
abbrev s35 : List (Bool × List CK) := [(true, [.str, .str, .bool, .sl 1 true, .sl 1 true, .sl 1 true, .str, .str, .sl 4 false, .bool, .sl 4 false, .sl 1 true, .sl 8 true, .sl 5 true, .sl 2 true, .int .i64, .int .i64, .int .i64, .int .i64, .sl 2 true, .sl 1 true, .bool]), (true, [.str, .str, .bool, .sl 1 true, .sl 1 true, .sl 1 true, .str, .str, .sl 4 false, .bool, .sl 4 false, .sl 1 true, .sl 8 true, .sl 5 true, .sl 2 true, .int .i64, .int .i64, .int .i64, .int .i64, .sl 2 true, .sl 1 true, .bool])]
def G35 (F : T35) (β : Type) (e : (List UInt8 × List UInt8 × Bool × List V × List V × List V × List UInt8 × List UInt8 × List V × Bool × List V × List V × List V × List V × List V × Int × Int × Int × Int × List V × List V × Bool × Unit) × (List UInt8 × List UInt8 × Bool × List V × List V × List V × List UInt8 × List UInt8 × List V × Bool × List V × List V × List V × List V × List V × Int × Int × Int × Int × List V × List V × Bool × Unit) × Unit) (k : V → Option β) : Option β := let a0_0 := e.1; let a0_1 := a0_0.2; let a0_2 := a0_1.2; let a0_3 := a0_2.2; let a0_4 := a0_3.2; let a0_5 := a0_4.2; let a0_6 := a0_5.2; let a0_7 := a0_6.2; let a0_8 := a0_7.2; let a0_9 := a0_8.2; let a0_10 := a0_9.2; let a0_11 := a0_10.2; let a0_12 := a0_11.2; let a0_13 := a0_12.2; let a0_14 := a0_13.2; let a0_15 := a0_14.2; let a0_16 := a0_15.2; let a0_17 := a0_16.2; let a0_18 := a0_17.2; let a0_19 := a0_18.2; let a0_20 := a0_19.2; let a0_21 := a0_20.2; let a1_0 := e.2.1; let a1_1 := a1_0.2; let a1_2 := a1_1.2; let a1_3 := a1_2.2; let a1_4 := a1_3.2; let a1_5 := a1_4.2; let a1_6 := a1_5.2; let a1_7 := a1_6.2; let a1_8 := a1_7.2; let a1_9 := a1_8.2; let a1_10 := a1_9.2; let a1_11 := a1_10.2; let a1_12 := a1_11.2; let a1_13 := a1_12.2; let a1_14 := a1_13.2; let a1_15 := a1_14.2; let a1_16 := a1_15.2; let a1_17 := a1_16.2; let a1_18 := a1_17.2; let a1_19 := a1_18.2; let a1_20 := a1_19.2; let a1_21 := a1_20.2; F β a0_0.1 a0_1.1 a0_2.1 a0_3.1 a0_4.1 a0_5.1 a0_6.1 a0_7.1 a0_8.1 a0_9.1 a0_10.1 a0_11.1 a0_12.1 a0_13.1 a0_14.1 a0_15.1 a0_16.1 a0_17.1 a0_18.1 a0_19.1 a0_20.1 a0_21.1 a1_0.1 a1_1.1 a1_2.1 a1_3.1 a1_4.1 a1_5.1 a1_6.1 a1_7.1 a1_8.1 a1_9.1 a1_10.1 a1_11.1 a1_12.1 a1_13.1 a1_14.1 a1_15.1 a1_16.1 a1_17.1 a1_18.1 a1_19.1 a1_20.1 a1_21.1 (fun y1 => k (.bool y1))
abbrev W35 (F : T35) : WT := wrap s35 (G35 F)
theorem k35 (F100 : T100) (F101 : T101) (F102 : T102) (F103 : T103) (F104 : T104) (F105 : T105) (β : Type) (e : argsT s35) (k : V → Option β) : fnK cfg (tabL [(100, W100 F100), (101, W101 F101), (102, W102 F102), (103, W103 F103), (104, W104 F104), (105, W105 F105)]) noX 35 Tryz.f35 β (argsEnc s35 e) k = G35 (P35 F100 F101 F102 F103 F104 F105 ) β e k := by kernel_rfl
theorem ok35 : FnOk D 35 (W35 F35) := fn_okW [(100, W100 F100), (101, W101 F101), (102, W102 F102), (103, W103 F103), (104, W104 F104), (105, W105 F105)] noX (fun _ => rfl) Tryz.func35 rfl (tabL_cons ok100 (tabL_cons ok101 (tabL_cons ok102 (tabL_cons ok103 (tabL_cons ok104 (tabL_cons ok105 tabL_nil)))))) (k35 F100 F101 F102 F103 F104 F105 )

/-- spec.EqualTabs -/
abbrev T95 : Type 1 := (β : Type) → List V → Int → List V → Int → (Bool → Option β) → Option β
def P95 (F35 : T35) : T95 := fun β a_Visits a_At b_Visits b_At k =>
 br (a_At != b_At) (
 k false) (
 br ((a_Visits.length : Int) != (b_Visits.length : Int)) (
 k false) (
 whileK (fun s1 =>
 br (decide ((lI s1 0) < ((lL s1 1).length : Int))) (
 chk (0 ≤ (lI s1 0)) <|
 idx true [.str, .str, .str, .str, .bool, .sl 1 true, .sl 1 true, .sl 1 true, .str, .str, .sl 4 false, .bool, .sl 4 false, .sl 1 true, .sl 8 true, .sl 5 true, .sl 2 true, .int .i64, .int .i64, .int .i64, .int .i64, .sl 2 true, .sl 1 true, .bool, .bool] (lL s1 1) ((lI s1 0).toNat) fun (e2 : List UInt8 × List UInt8 × List UInt8 × List UInt8 × Bool × List V × List V × List V × List UInt8 × List UInt8 × List V × Bool × List V × List V × List V × List V × List V × Int × Int × Int × Int × List V × List V × Bool × Bool × Unit) =>
 chk (0 ≤ (lI s1 0)) <|
 idx true [.str, .str, .str, .str, .bool, .sl 1 true, .sl 1 true, .sl 1 true, .str, .str, .sl 4 false, .bool, .sl 4 false, .sl 1 true, .sl 8 true, .sl 5 true, .sl 2 true, .int .i64, .int .i64, .int .i64, .int .i64, .sl 2 true, .sl 1 true, .bool, .bool] (lL s1 3) ((lI s1 0).toNat) fun (e3 : List UInt8 × List UInt8 × List UInt8 × List UInt8 × Bool × List V × List V × List V × List UInt8 × List UInt8 × List V × Bool × List V × List V × List V × List V × List V × Int × Int × Int × Int × List V × List V × Bool × Bool × Unit) =>
 br (!((e2.1 == e3.1) && ((e2.2.1 == e3.2.1) && true))) (
 some (.inr (0, [.b false]))) (
 chk (0 ≤ (lI s1 0)) <|
 idx true [.str, .str, .str, .str, .bool, .sl 1 true, .sl 1 true, .sl 1 true, .str, .str, .sl 4 false, .bool, .sl 4 false, .sl 1 true, .sl 8 true, .sl 5 true, .sl 2 true, .int .i64, .int .i64, .int .i64, .int .i64, .sl 2 true, .sl 1 true, .bool, .bool] (lL s1 1) ((lI s1 0).toNat) fun (e4 : List UInt8 × List UInt8 × List UInt8 × List UInt8 × Bool × List V × List V × List V × List UInt8 × List UInt8 × List V × Bool × List V × List V × List V × List V × List V × Int × Int × Int × Int × List V × List V × Bool × Bool × Unit) =>
 chk (0 ≤ (lI s1 0)) <|
 idx true [.str, .str, .str, .str, .bool, .sl 1 true, .sl 1 true, .sl 1 true, .str, .str, .sl 4 false, .bool, .sl 4 false, .sl 1 true, .sl 8 true, .sl 5 true, .sl 2 true, .int .i64, .int .i64, .int .i64, .int .i64, .sl 2 true, .sl 1 true, .bool, .bool] (lL s1 3) ((lI s1 0).toNat) fun (e5 : List UInt8 × List UInt8 × List UInt8 × List UInt8 × Bool × List V × List V × List V × List UInt8 × List UInt8 × List V × Bool × List V × List V × List V × List V × List V × Int × Int × Int × Int × List V × List V × Bool × Bool × Unit) =>
 br (!(e4.2.2.2.2.2.2.2.2.2.2.2.2.2.2.2.2.2.2.2.2.2.2.2.2.1 == e5.2.2.2.2.2.2.2.2.2.2.2.2.2.2.2.2.2.2.2.2.2.2.2.2.1)) (
 some (.inr (0, [.b false]))) (
 chk (0 ≤ (lI s1 0)) <|
 idx true [.str, .str, .str, .str, .bool, .sl 1 true, .sl 1 true, .sl 1 true, .str, .str, .sl 4 false, .bool, .sl 4 false, .sl 1 true, .sl 8 true, .sl 5 true, .sl 2 true, .int .i64, .int .i64, .int .i64, .int .i64, .sl 2 true, .sl 1 true, .bool, .bool] (lL s1 1) ((lI s1 0).toNat) fun (e6 : List UInt8 × List UInt8 × List UInt8 × List UInt8 × Bool × List V × List V × List V × List UInt8 × List UInt8 × List V × Bool × List V × List V × List V × List V × List V × Int × Int × Int × Int × List V × List V × Bool × Bool × Unit) =>
 chk (0 ≤ (lI s1 0)) <|
 idx true [.str, .str, .str, .str, .bool, .sl 1 true, .sl 1 true, .sl 1 true, .str, .str, .sl 4 false, .bool, .sl 4 false, .sl 1 true, .sl 8 true, .sl 5 true, .sl 2 true, .int .i64, .int .i64, .int .i64, .int .i64, .sl 2 true, .sl 1 true, .bool, .bool] (lL s1 3) ((lI s1 0).toNat) fun (e7 : List UInt8 × List UInt8 × List UInt8 × List UInt8 × Bool × List V × List V × List V × List UInt8 × List UInt8 × List V × Bool × List V × List V × List V × List V × List V × Int × Int × Int × Int × List V × List V × Bool × Bool × Unit) =>
 F35 _ e6.2.2.1 e6.2.2.2.1 e6.2.2.2.2.1 e6.2.2.2.2.2.1 e6.2.2.2.2.2.2.1 e6.2.2.2.2.2.2.2.1 e6.2.2.2.2.2.2.2.2.1 e6.2.2.2.2.2.2.2.2.2.1 e6.2.2.2.2.2.2.2.2.2.2.1 e6.2.2.2.2.2.2.2.2.2.2.2.1 e6.2.2.2.2.2.2.2.2.2.2.2.2.1 e6.2.2.2.2.2.2.2.2.2.2.2.2.2.1 e6.2.2.2.2.2.2.2.2.2.2.2.2.2.2.1 e6.2.2.2.2.2.2.2.2.2.2.2.2.2.2.2.1 e6.2.2.2.2.2.2.2.2.2.2.2.2.2.2.2.2.1 e6.2.2.2.2.2.2.2.2.2.2.2.2.2.2.2.2.2.1 e6.2.2.2.2.2.2.2.2.2.2.2.2.2.2.2.2.2.2.1 e6.2.2.2.2.2.2.2.2.2.2.2.2.2.2.2.2.2.2.2.1 e6.2.2.2.2.2.2.2.2.2.2.2.2.2.2.2.2.2.2.2.2.1 e6.2.2.2.2.2.2.2.2.2.2.2.2.2.2.2.2.2.2.2.2.2.1 e6.2.2.2.2.2.2.2.2.2.2.2.2.2.2.2.2.2.2.2.2.2.2.1 e6.2.2.2.2.2.2.2.2.2.2.2.2.2.2.2.2.2.2.2.2.2.2.2.1 e7.2.2.1 e7.2.2.2.1 e7.2.2.2.2.1 e7.2.2.2.2.2.1 e7.2.2.2.2.2.2.1 e7.2.2.2.2.2.2.2.1 e7.2.2.2.2.2.2.2.2.1 e7.2.2.2.2.2.2.2.2.2.1 e7.2.2.2.2.2.2.2.2.2.2.1 e7.2.2.2.2.2.2.2.2.2.2.2.1 e7.2.2.2.2.2.2.2.2.2.2.2.2.1 e7.2.2.2.2.2.2.2.2.2.2.2.2.2.1 e7.2.2.2.2.2.2.2.2.2.2.2.2.2.2.1 e7.2.2.2.2.2.2.2.2.2.2.2.2.2.2.2.1 e7.2.2.2.2.2.2.2.2.2.2.2.2.2.2.2.2.1 e7.2.2.2.2.2.2.2.2.2.2.2.2.2.2.2.2.2.1 e7.2.2.2.2.2.2.2.2.2.2.2.2.2.2.2.2.2.2.1 e7.2.2.2.2.2.2.2.2.2.2.2.2.2.2.2.2.2.2.2.1 e7.2.2.2.2.2.2.2.2.2.2.2.2.2.2.2.2.2.2.2.2.1 e7.2.2.2.2.2.2.2.2.2.2.2.2.2.2.2.2.2.2.2.2.2.1 e7.2.2.2.2.2.2.2.2.2.2.2.2.2.2.2.2.2.2.2.2.2.2.1 e7.2.2.2.2.2.2.2.2.2.2.2.2.2.2.2.2.2.2.2.2.2.2.2.1 fun b8 =>
 br (!b8) (
 some (.inr (0, [.b false]))) (
 some (.inl [.i (IntKind.wrap .i64 ((lI s1 0) + 1)), .l (lL s1 1), .i (lI s1 2), .l (lL s1 3), .i (lI s1 4)]))))) (
 some (.inr (1, [])))) [.i 0, .l a_Visits, .i a_At, .l b_Visits, .i b_At] fun (r9 : Nat × List Leaf) =>
 if r9.1 = 0 then
 k (lB r9.2 0)
 else
 k true))
def F95 : T95 := P95 F35 
def X95 : Exits := fun i => lookN i [] [(4, [(.ret, xk 71 [(4, .bool false)] []), (.exit 0, xk 71 [] [])])]
abbrev s95 : List (Bool × List CK) := [(true, [.sl 25 false, .int .i64]), (true, [.sl 25 false, .int .i64])]
def G95 (F : T95) (β : Type) (e : (List V × Int × Unit) × (List V × Int × Unit) × Unit) (k : V → Option β) : Option β := F β e.1.1 e.1.2.1 e.2.1.1 e.2.1.2.1 (fun y1 => k (.bool y1))
abbrev W95 (F : T95) : WT := wrap s95 (G95 F)
theorem k95 (F35 : T35) (β : Type) (e : argsT s95) (k : V → Option β) : fnK cfg (tabL [(35, W35 F35)]) X95 95 Tryz.f95 β (argsEnc s95 e) k = G95 (P95 F35 ) β e k := by kernel_rfl
theorem ok95 : FnOk D 95 (W95 F95) := fn_okW [(35, W35 F35)] X95 (fun _ => rfl) Tryz.func95 rfl (tabL_cons ok35 tabL_nil) (k95 F35 )

/-- spec.EqualHidden -/
abbrev T9 : Type 1 := (β : Type) → Bool → List UInt8 → List UInt8 → Bool → List V → List V → List V → List UInt8 → List UInt8 → List V → Bool → List V → List V → List V → List V → List V → Int → Int → Int → Int → List V → List V → Bool → List V → List V → Int → Bool → List UInt8 → List UInt8 → Bool → List V → List V → List V → List UInt8 → List UInt8 → List V → Bool → List V → List V → List V → List V → List V → Int → Int → Int → Int → List V → List V → Bool → List V → List V → Int → (Bool → Option β) → Option β
def P9 (F35 : T35) (F36 : T36) : T9 := fun β a_Ready a_Page_Addr_Host a_Page_Addr_Path a_Page_Policy_Set a_Page_Policy_Scripts a_Page_Policy_Styles a_Page_Policy_Images a_Page_Policy_Nonce a_Page_Tok_Rest a_Page_Queue a_Page_Ended a_Page_Builder_Nodes a_Page_Builder_Open a_Page_Slots a_Page_Mods a_Page_Entries a_Page_Block a_Page_Inline a_Page_Deferred a_Page_Entered a_Page_Ran a_Page_Log a_Page_Loaded a_Taken a_Servers a_Now b_Ready b_Page_Addr_Host b_Page_Addr_Path b_Page_Policy_Set b_Page_Policy_Scripts b_Page_Policy_Styles b_Page_Policy_Images b_Page_Policy_Nonce b_Page_Tok_Rest b_Page_Queue b_Page_Ended b_Page_Builder_Nodes b_Page_Builder_Open b_Page_Slots b_Page_Mods b_Page_Entries b_Page_Block b_Page_Inline b_Page_Deferred b_Page_Entered b_Page_Ran b_Page_Log b_Page_Loaded b_Taken b_Servers b_Now k =>
 br (!(a_Ready == b_Ready)) (
 k false) (
 F35 _ a_Page_Addr_Host a_Page_Addr_Path a_Page_Policy_Set a_Page_Policy_Scripts a_Page_Policy_Styles a_Page_Policy_Images a_Page_Policy_Nonce a_Page_Tok_Rest a_Page_Queue a_Page_Ended a_Page_Builder_Nodes a_Page_Builder_Open a_Page_Slots a_Page_Mods a_Page_Entries a_Page_Block a_Page_Inline a_Page_Deferred a_Page_Entered a_Page_Ran a_Page_Log a_Page_Loaded b_Page_Addr_Host b_Page_Addr_Path b_Page_Policy_Set b_Page_Policy_Scripts b_Page_Policy_Styles b_Page_Policy_Images b_Page_Policy_Nonce b_Page_Tok_Rest b_Page_Queue b_Page_Ended b_Page_Builder_Nodes b_Page_Builder_Open b_Page_Slots b_Page_Mods b_Page_Entries b_Page_Block b_Page_Inline b_Page_Deferred b_Page_Entered b_Page_Ran b_Page_Log b_Page_Loaded fun b1 =>
 br (!b1) (
 k false) (
 br ((a_Taken.length : Int) != (b_Taken.length : Int)) (
 k false) (
 F36 _ a_Servers b_Servers fun b2 =>
 br (!b2) (
 k false) (
 br (a_Now != b_Now) (
 k false) (
 whileK (fun s3 =>
 br (decide ((lI s3 0) < ((lL s3 24).length : Int))) (
 chk (0 ≤ (lI s3 0)) <|
 idx true [.str, .str, .int .i64, .int .i64, .str, .int .i64, .bool, .str] (lL s3 24) ((lI s3 0).toNat) fun (e4 : List UInt8 × List UInt8 × Int × Int × List UInt8 × Int × Bool × List UInt8 × Unit) =>
 chk (0 ≤ (lI s3 0)) <|
 idx true [.str, .str, .int .i64, .int .i64, .str, .int .i64, .bool, .str] (lL s3 50) ((lI s3 0).toNat) fun (e5 : List UInt8 × List UInt8 × Int × Int × List UInt8 × Int × Bool × List UInt8 × Unit) =>
 br (!((e4.1 == e5.1) && ((e4.2.1 == e5.2.1) && ((e4.2.2.1 == e5.2.2.1) && ((e4.2.2.2.1 == e5.2.2.2.1) && ((e4.2.2.2.2.1 == e5.2.2.2.2.1) && ((e4.2.2.2.2.2.1 == e5.2.2.2.2.2.1) && ((e4.2.2.2.2.2.2.1 == e5.2.2.2.2.2.2.1) && ((e4.2.2.2.2.2.2.2.1 == e5.2.2.2.2.2.2.2.1) && true))))))))) (
 some (.inr (0, [.b false]))) (
 some (.inl [.i (IntKind.wrap .i64 ((lI s3 0) + 1)), .b (lB s3 1), .s (lS s3 2), .s (lS s3 3), .b (lB s3 4), .l (lL s3 5), .l (lL s3 6), .l (lL s3 7), .s (lS s3 8), .s (lS s3 9), .l (lL s3 10), .b (lB s3 11), .l (lL s3 12), .l (lL s3 13), .l (lL s3 14), .l (lL s3 15), .l (lL s3 16), .i (lI s3 17), .i (lI s3 18), .i (lI s3 19), .i (lI s3 20), .l (lL s3 21), .l (lL s3 22), .b (lB s3 23), .l (lL s3 24), .l (lL s3 25), .i (lI s3 26), .b (lB s3 27), .s (lS s3 28), .s (lS s3 29), .b (lB s3 30), .l (lL s3 31), .l (lL s3 32), .l (lL s3 33), .s (lS s3 34), .s (lS s3 35), .l (lL s3 36), .b (lB s3 37), .l (lL s3 38), .l (lL s3 39), .l (lL s3 40), .l (lL s3 41), .l (lL s3 42), .i (lI s3 43), .i (lI s3 44), .i (lI s3 45), .i (lI s3 46), .l (lL s3 47), .l (lL s3 48), .b (lB s3 49), .l (lL s3 50), .l (lL s3 51), .i (lI s3 52)]))) (
 some (.inr (1, [])))) [.i 0, .b a_Ready, .s a_Page_Addr_Host, .s a_Page_Addr_Path, .b a_Page_Policy_Set, .l a_Page_Policy_Scripts, .l a_Page_Policy_Styles, .l a_Page_Policy_Images, .s a_Page_Policy_Nonce, .s a_Page_Tok_Rest, .l a_Page_Queue, .b a_Page_Ended, .l a_Page_Builder_Nodes, .l a_Page_Builder_Open, .l a_Page_Slots, .l a_Page_Mods, .l a_Page_Entries, .i a_Page_Block, .i a_Page_Inline, .i a_Page_Deferred, .i a_Page_Entered, .l a_Page_Ran, .l a_Page_Log, .b a_Page_Loaded, .l a_Taken, .l a_Servers, .i a_Now, .b b_Ready, .s b_Page_Addr_Host, .s b_Page_Addr_Path, .b b_Page_Policy_Set, .l b_Page_Policy_Scripts, .l b_Page_Policy_Styles, .l b_Page_Policy_Images, .s b_Page_Policy_Nonce, .s b_Page_Tok_Rest, .l b_Page_Queue, .b b_Page_Ended, .l b_Page_Builder_Nodes, .l b_Page_Builder_Open, .l b_Page_Slots, .l b_Page_Mods, .l b_Page_Entries, .i b_Page_Block, .i b_Page_Inline, .i b_Page_Deferred, .i b_Page_Entered, .l b_Page_Ran, .l b_Page_Log, .b b_Page_Loaded, .l b_Taken, .l b_Servers, .i b_Now] fun (r6 : Nat × List Leaf) =>
 if r6.1 = 0 then
 k (lB r6.2 0)
 else
 k true)))))
def F9 : T9 := P9 F35 F36 
def X9 : Exits := fun i => lookN i [] [(4, [(.ret, xk 61 [(4, .bool false)] []), (.exit 0, xk 61 [] [])])]
abbrev s9 : List (Bool × List CK) := [(true, [.bool, .str, .str, .bool, .sl 1 true, .sl 1 true, .sl 1 true, .str, .str, .sl 4 false, .bool, .sl 4 false, .sl 1 true, .sl 8 true, .sl 5 true, .sl 2 true, .int .i64, .int .i64, .int .i64, .int .i64, .sl 2 true, .sl 1 true, .bool, .sl 8 true, .sl 2 false, .int .i64]), (true, [.bool, .str, .str, .bool, .sl 1 true, .sl 1 true, .sl 1 true, .str, .str, .sl 4 false, .bool, .sl 4 false, .sl 1 true, .sl 8 true, .sl 5 true, .sl 2 true, .int .i64, .int .i64, .int .i64, .int .i64, .sl 2 true, .sl 1 true, .bool, .sl 8 true, .sl 2 false, .int .i64])]
def G9 (F : T9) (β : Type) (e : (Bool × List UInt8 × List UInt8 × Bool × List V × List V × List V × List UInt8 × List UInt8 × List V × Bool × List V × List V × List V × List V × List V × Int × Int × Int × Int × List V × List V × Bool × List V × List V × Int × Unit) × (Bool × List UInt8 × List UInt8 × Bool × List V × List V × List V × List UInt8 × List UInt8 × List V × Bool × List V × List V × List V × List V × List V × Int × Int × Int × Int × List V × List V × Bool × List V × List V × Int × Unit) × Unit) (k : V → Option β) : Option β := let a0_0 := e.1; let a0_1 := a0_0.2; let a0_2 := a0_1.2; let a0_3 := a0_2.2; let a0_4 := a0_3.2; let a0_5 := a0_4.2; let a0_6 := a0_5.2; let a0_7 := a0_6.2; let a0_8 := a0_7.2; let a0_9 := a0_8.2; let a0_10 := a0_9.2; let a0_11 := a0_10.2; let a0_12 := a0_11.2; let a0_13 := a0_12.2; let a0_14 := a0_13.2; let a0_15 := a0_14.2; let a0_16 := a0_15.2; let a0_17 := a0_16.2; let a0_18 := a0_17.2; let a0_19 := a0_18.2; let a0_20 := a0_19.2; let a0_21 := a0_20.2; let a0_22 := a0_21.2; let a0_23 := a0_22.2; let a0_24 := a0_23.2; let a0_25 := a0_24.2; let a1_0 := e.2.1; let a1_1 := a1_0.2; let a1_2 := a1_1.2; let a1_3 := a1_2.2; let a1_4 := a1_3.2; let a1_5 := a1_4.2; let a1_6 := a1_5.2; let a1_7 := a1_6.2; let a1_8 := a1_7.2; let a1_9 := a1_8.2; let a1_10 := a1_9.2; let a1_11 := a1_10.2; let a1_12 := a1_11.2; let a1_13 := a1_12.2; let a1_14 := a1_13.2; let a1_15 := a1_14.2; let a1_16 := a1_15.2; let a1_17 := a1_16.2; let a1_18 := a1_17.2; let a1_19 := a1_18.2; let a1_20 := a1_19.2; let a1_21 := a1_20.2; let a1_22 := a1_21.2; let a1_23 := a1_22.2; let a1_24 := a1_23.2; let a1_25 := a1_24.2; F β a0_0.1 a0_1.1 a0_2.1 a0_3.1 a0_4.1 a0_5.1 a0_6.1 a0_7.1 a0_8.1 a0_9.1 a0_10.1 a0_11.1 a0_12.1 a0_13.1 a0_14.1 a0_15.1 a0_16.1 a0_17.1 a0_18.1 a0_19.1 a0_20.1 a0_21.1 a0_22.1 a0_23.1 a0_24.1 a0_25.1 a1_0.1 a1_1.1 a1_2.1 a1_3.1 a1_4.1 a1_5.1 a1_6.1 a1_7.1 a1_8.1 a1_9.1 a1_10.1 a1_11.1 a1_12.1 a1_13.1 a1_14.1 a1_15.1 a1_16.1 a1_17.1 a1_18.1 a1_19.1 a1_20.1 a1_21.1 a1_22.1 a1_23.1 a1_24.1 a1_25.1 (fun y1 => k (.bool y1))
abbrev W9 (F : T9) : WT := wrap s9 (G9 F)
theorem k9 (F35 : T35) (F36 : T36) (β : Type) (e : argsT s9) (k : V → Option β) : fnK cfg (tabL [(35, W35 F35), (36, W36 F36)]) X9 9 Tryz.f9 β (argsEnc s9 e) k = G9 (P9 F35 F36 ) β e k := by kernel_rfl
theorem ok9 : FnOk D 9 (W9 F9) := fn_okW [(35, W35 F35), (36, W36 F36)] X9 (fun _ => rfl) Tryz.func9 rfl (tabL_cons ok35 (tabL_cons ok36 tabL_nil)) (k9 F35 F36 )

/-- spec.EqualWorlds -/
abbrev T29 : Type 1 := (β : Type) → List V → List V → List V → Int → List V → Int → Bool → List UInt8 → List UInt8 → Bool → List V → List V → List V → List UInt8 → List UInt8 → List V → Bool → List V → List V → List V → List V → List V → Int → Int → Int → Int → List V → List V → Bool → List V → List V → Int → Bool → List V → List V → List V → Int → List V → Int → Bool → List UInt8 → List UInt8 → Bool → List V → List V → List V → List UInt8 → List UInt8 → List V → Bool → List V → List V → List V → List V → List V → Int → Int → Int → Int → List V → List V → Bool → List V → List V → Int → Bool → (Bool → Option β) → Option β
def P29 (F94 : T94) (F95 : T95) (F9 : T9) : T29 := fun β a_Net_Servers a_Net_Cache_Entries a_Net_Log a_Net_Now a_Tab_Visits a_Tab_At a_Hidden_Ready a_Hidden_Page_Addr_Host a_Hidden_Page_Addr_Path a_Hidden_Page_Policy_Set a_Hidden_Page_Policy_Scripts a_Hidden_Page_Policy_Styles a_Hidden_Page_Policy_Images a_Hidden_Page_Policy_Nonce a_Hidden_Page_Tok_Rest a_Hidden_Page_Queue a_Hidden_Page_Ended a_Hidden_Page_Builder_Nodes a_Hidden_Page_Builder_Open a_Hidden_Page_Slots a_Hidden_Page_Mods a_Hidden_Page_Entries a_Hidden_Page_Block a_Hidden_Page_Inline a_Hidden_Page_Deferred a_Hidden_Page_Entered a_Hidden_Page_Ran a_Hidden_Page_Log a_Hidden_Page_Loaded a_Hidden_Taken a_Hidden_Servers a_Hidden_Now a_Fast b_Net_Servers b_Net_Cache_Entries b_Net_Log b_Net_Now b_Tab_Visits b_Tab_At b_Hidden_Ready b_Hidden_Page_Addr_Host b_Hidden_Page_Addr_Path b_Hidden_Page_Policy_Set b_Hidden_Page_Policy_Scripts b_Hidden_Page_Policy_Styles b_Hidden_Page_Policy_Images b_Hidden_Page_Policy_Nonce b_Hidden_Page_Tok_Rest b_Hidden_Page_Queue b_Hidden_Page_Ended b_Hidden_Page_Builder_Nodes b_Hidden_Page_Builder_Open b_Hidden_Page_Slots b_Hidden_Page_Mods b_Hidden_Page_Entries b_Hidden_Page_Block b_Hidden_Page_Inline b_Hidden_Page_Deferred b_Hidden_Page_Entered b_Hidden_Page_Ran b_Hidden_Page_Log b_Hidden_Page_Loaded b_Hidden_Taken b_Hidden_Servers b_Hidden_Now b_Fast k =>
 F94 _ a_Net_Servers a_Net_Cache_Entries a_Net_Log a_Net_Now b_Net_Servers b_Net_Cache_Entries b_Net_Log b_Net_Now fun b1 =>
 br b1 (
 F95 _ a_Tab_Visits a_Tab_At b_Tab_Visits b_Tab_At fun b2 =>
 br b2 (
 F9 _ a_Hidden_Ready a_Hidden_Page_Addr_Host a_Hidden_Page_Addr_Path a_Hidden_Page_Policy_Set a_Hidden_Page_Policy_Scripts a_Hidden_Page_Policy_Styles a_Hidden_Page_Policy_Images a_Hidden_Page_Policy_Nonce a_Hidden_Page_Tok_Rest a_Hidden_Page_Queue a_Hidden_Page_Ended a_Hidden_Page_Builder_Nodes a_Hidden_Page_Builder_Open a_Hidden_Page_Slots a_Hidden_Page_Mods a_Hidden_Page_Entries a_Hidden_Page_Block a_Hidden_Page_Inline a_Hidden_Page_Deferred a_Hidden_Page_Entered a_Hidden_Page_Ran a_Hidden_Page_Log a_Hidden_Page_Loaded a_Hidden_Taken a_Hidden_Servers a_Hidden_Now b_Hidden_Ready b_Hidden_Page_Addr_Host b_Hidden_Page_Addr_Path b_Hidden_Page_Policy_Set b_Hidden_Page_Policy_Scripts b_Hidden_Page_Policy_Styles b_Hidden_Page_Policy_Images b_Hidden_Page_Policy_Nonce b_Hidden_Page_Tok_Rest b_Hidden_Page_Queue b_Hidden_Page_Ended b_Hidden_Page_Builder_Nodes b_Hidden_Page_Builder_Open b_Hidden_Page_Slots b_Hidden_Page_Mods b_Hidden_Page_Entries b_Hidden_Page_Block b_Hidden_Page_Inline b_Hidden_Page_Deferred b_Hidden_Page_Entered b_Hidden_Page_Ran b_Hidden_Page_Log b_Hidden_Page_Loaded b_Hidden_Taken b_Hidden_Servers b_Hidden_Now fun b3 =>
 br b3 (
 k (a_Fast == b_Fast)) (
 k false)) (
 k false)) (
 k false)
def F29 : T29 := P29 F94 F95 F9 
abbrev s29 : List (Bool × List CK) := [(true, [.sl 2 false, .sl 10 true, .sl 4 true, .int .i64, .sl 25 false, .int .i64, .bool, .str, .str, .bool, .sl 1 true, .sl 1 true, .sl 1 true, .str, .str, .sl 4 false, .bool, .sl 4 false, .sl 1 true, .sl 8 true, .sl 5 true, .sl 2 true, .int .i64, .int .i64, .int .i64, .int .i64, .sl 2 true, .sl 1 true, .bool, .sl 8 true, .sl 2 false, .int .i64, .bool]), (true, [.sl 2 false, .sl 10 true, .sl 4 true, .int .i64, .sl 25 false, .int .i64, .bool, .str, .str, .bool, .sl 1 true, .sl 1 true, .sl 1 true, .str, .str, .sl 4 false, .bool, .sl 4 false, .sl 1 true, .sl 8 true, .sl 5 true, .sl 2 true, .int .i64, .int .i64, .int .i64, .int .i64, .sl 2 true, .sl 1 true, .bool, .sl 8 true, .sl 2 false, .int .i64, .bool])]
def G29 (F : T29) (β : Type) (e : (List V × List V × List V × Int × List V × Int × Bool × List UInt8 × List UInt8 × Bool × List V × List V × List V × List UInt8 × List UInt8 × List V × Bool × List V × List V × List V × List V × List V × Int × Int × Int × Int × List V × List V × Bool × List V × List V × Int × Bool × Unit) × (List V × List V × List V × Int × List V × Int × Bool × List UInt8 × List UInt8 × Bool × List V × List V × List V × List UInt8 × List UInt8 × List V × Bool × List V × List V × List V × List V × List V × Int × Int × Int × Int × List V × List V × Bool × List V × List V × Int × Bool × Unit) × Unit) (k : V → Option β) : Option β := let a0_0 := e.1; let a0_1 := a0_0.2; let a0_2 := a0_1.2; let a0_3 := a0_2.2; let a0_4 := a0_3.2; let a0_5 := a0_4.2; let a0_6 := a0_5.2; let a0_7 := a0_6.2; let a0_8 := a0_7.2; let a0_9 := a0_8.2; let a0_10 := a0_9.2; let a0_11 := a0_10.2; let a0_12 := a0_11.2; let a0_13 := a0_12.2; let a0_14 := a0_13.2; let a0_15 := a0_14.2; let a0_16 := a0_15.2; let a0_17 := a0_16.2; let a0_18 := a0_17.2; let a0_19 := a0_18.2; let a0_20 := a0_19.2; let a0_21 := a0_20.2; let a0_22 := a0_21.2; let a0_23 := a0_22.2; let a0_24 := a0_23.2; let a0_25 := a0_24.2; let a0_26 := a0_25.2; let a0_27 := a0_26.2; let a0_28 := a0_27.2; let a0_29 := a0_28.2; let a0_30 := a0_29.2; let a0_31 := a0_30.2; let a0_32 := a0_31.2; let a1_0 := e.2.1; let a1_1 := a1_0.2; let a1_2 := a1_1.2; let a1_3 := a1_2.2; let a1_4 := a1_3.2; let a1_5 := a1_4.2; let a1_6 := a1_5.2; let a1_7 := a1_6.2; let a1_8 := a1_7.2; let a1_9 := a1_8.2; let a1_10 := a1_9.2; let a1_11 := a1_10.2; let a1_12 := a1_11.2; let a1_13 := a1_12.2; let a1_14 := a1_13.2; let a1_15 := a1_14.2; let a1_16 := a1_15.2; let a1_17 := a1_16.2; let a1_18 := a1_17.2; let a1_19 := a1_18.2; let a1_20 := a1_19.2; let a1_21 := a1_20.2; let a1_22 := a1_21.2; let a1_23 := a1_22.2; let a1_24 := a1_23.2; let a1_25 := a1_24.2; let a1_26 := a1_25.2; let a1_27 := a1_26.2; let a1_28 := a1_27.2; let a1_29 := a1_28.2; let a1_30 := a1_29.2; let a1_31 := a1_30.2; let a1_32 := a1_31.2; F β a0_0.1 a0_1.1 a0_2.1 a0_3.1 a0_4.1 a0_5.1 a0_6.1 a0_7.1 a0_8.1 a0_9.1 a0_10.1 a0_11.1 a0_12.1 a0_13.1 a0_14.1 a0_15.1 a0_16.1 a0_17.1 a0_18.1 a0_19.1 a0_20.1 a0_21.1 a0_22.1 a0_23.1 a0_24.1 a0_25.1 a0_26.1 a0_27.1 a0_28.1 a0_29.1 a0_30.1 a0_31.1 a0_32.1 a1_0.1 a1_1.1 a1_2.1 a1_3.1 a1_4.1 a1_5.1 a1_6.1 a1_7.1 a1_8.1 a1_9.1 a1_10.1 a1_11.1 a1_12.1 a1_13.1 a1_14.1 a1_15.1 a1_16.1 a1_17.1 a1_18.1 a1_19.1 a1_20.1 a1_21.1 a1_22.1 a1_23.1 a1_24.1 a1_25.1 a1_26.1 a1_27.1 a1_28.1 a1_29.1 a1_30.1 a1_31.1 a1_32.1 (fun y1 => k (.bool y1))
abbrev W29 (F : T29) : WT := wrap s29 (G29 F)
theorem k29 (F94 : T94) (F95 : T95) (F9 : T9) (β : Type) (e : argsT s29) (k : V → Option β) : fnK cfg (tabL [(94, W94 F94), (95, W95 F95), (9, W9 F9)]) noX 29 Tryz.f29 β (argsEnc s29 e) k = G29 (P29 F94 F95 F9 ) β e k := by kernel_rfl
theorem ok29 : FnOk D 29 (W29 F29) := fn_okW [(94, W94 F94), (95, W95 F95), (9, W9 F9)] noX (fun _ => rfl) Tryz.func29 rfl (tabL_cons ok94 (tabL_cons ok95 (tabL_cons ok9 tabL_nil))) (k29 F94 F95 F9 )

/-- slices.Equal[[]impl.File,impl.File] -/
abbrev T118 : Type 1 := (β : Type) → List V → List V → (Bool → Option β) → Option β
def P118 : T118 := fun β s1 s2 k =>
 br ((s1.length : Int) != (s2.length : Int)) (
 k false) (
 whileK (fun s3 =>
 br (decide ((lI s3 3) < (lI s3 2))) (
 chk (0 ≤ (lI s3 3)) <|
 idx true [.str, .int .i64, .int .i64, .str, .int .i64, .bool, .str] (lL s3 0) ((lI s3 3).toNat) fun (e4 : List UInt8 × Int × Int × List UInt8 × Int × Bool × List UInt8 × Unit) =>
 chk (0 ≤ (lI s3 3)) <|
 idx true [.str, .int .i64, .int .i64, .str, .int .i64, .bool, .str] (lL s3 1) ((lI s3 3).toNat) fun (e5 : List UInt8 × Int × Int × List UInt8 × Int × Bool × List UInt8 × Unit) =>
 br (!((e4.1 == e5.1) && ((e4.2.1 == e5.2.1) && ((e4.2.2.1 == e5.2.2.1) && ((e4.2.2.2.1 == e5.2.2.2.1) && ((e4.2.2.2.2.1 == e5.2.2.2.2.1) && ((e4.2.2.2.2.2.1 == e5.2.2.2.2.2.1) && ((e4.2.2.2.2.2.2.1 == e5.2.2.2.2.2.2.1) && true)))))))) (
 some (.inr (0, [.b false]))) (
 some (.inl [.l (lL s3 0), .l (lL s3 1), .i (lI s3 2), .i (IntKind.wrap .i64 ((lI s3 3) + 1))]))) (
 some (.inr (1, [])))) [.l s1, .l s2, .i (s1.length : Int), .i 0] fun (r6 : Nat × List Leaf) =>
 if r6.1 = 0 then
 k (lB r6.2 0)
 else
 k true)
def F118 : T118 := P118 
def X118 : Exits := fun i => lookN i [] [(4, [(.ret, xk 26 [(4, .bool false)] []), (.exit 0, xk 26 [] [])])]
abbrev s118 : List (Bool × List CK) := [(false, [.sl 7 true]), (false, [.sl 7 true])]
def G118 (F : T118) (β : Type) (e : (List V × Unit) × (List V × Unit) × Unit) (k : V → Option β) : Option β := F β e.1.1 e.2.1.1 (fun y1 => k (.bool y1))
abbrev W118 (F : T118) : WT := wrap s118 (G118 F)
theorem k118 (β : Type) (e : argsT s118) (k : V → Option β) : fnK cfg (tabL []) X118 118 Tryz.f118 β (argsEnc s118 e) k = G118 (P118 ) β e k := by kernel_rfl
theorem ok118 : FnOk D 118 (W118 F118) := fn_okW [] X118 (fun _ => rfl) Tryz.func118 rfl (tabL_nil) (k118 )

/-- impl.EqualServers$1 -/
abbrev T117 : Type 1 := (β : Type) → List UInt8 → List V → List UInt8 → List V → (Bool → Option β) → Option β
def P117 (F118 : T118) : T117 := fun β x_Host x_Files y_Host y_Files k =>
 br (x_Host == y_Host) (
 F118 _ x_Files y_Files fun b1 =>
 k b1) (
 k false)
def F117 : T117 := P117 F118 
abbrev s117 : List (Bool × List CK) := [(true, [.str, .sl 7 true]), (true, [.str, .sl 7 true])]
def G117 (F : T117) (β : Type) (e : (List UInt8 × List V × Unit) × (List UInt8 × List V × Unit) × Unit) (k : V → Option β) : Option β := F β e.1.1 e.1.2.1 e.2.1.1 e.2.1.2.1 (fun y1 => k (.bool y1))
abbrev W117 (F : T117) : WT := wrap s117 (G117 F)
theorem k117 (F118 : T118) (β : Type) (e : argsT s117) (k : V → Option β) : fnK cfg (tabL [(118, W118 F118)]) noX 117 Tryz.f117 β (argsEnc s117 e) k = G117 (P117 F118 ) β e k := by kernel_rfl
theorem ok117 : FnOk D 117 (W117 F117) := fn_okW [(118, W118 F118)] noX (fun _ => rfl) Tryz.func117 rfl (tabL_cons ok118 tabL_nil) (k117 F118 )

/-- slices.EqualFunc[[]impl.Server,[]impl.Server,impl.Server,impl.Server] -/
abbrev T116c117 : Type 1 := (β : Type) → List V → List V → (Bool → Option β) → Option β
def P116c117 (F117 : T117) : T116c117 := fun β s1 s2 k =>
 br ((s1.length : Int) != (s2.length : Int)) (
 k false) (
 whileK (fun s3 =>
 br (decide ((lI s3 3) < (lI s3 2))) (
 chk (0 ≤ (lI s3 3)) <|
 idx true [.str, .sl 7 true] (lL s3 1) ((lI s3 3).toNat) fun (e4 : List UInt8 × List V × Unit) =>
 chk (0 ≤ (lI s3 3)) <|
 idx true [.str, .sl 7 true] (lL s3 0) ((lI s3 3).toNat) fun (e5 : List UInt8 × List V × Unit) =>
 F117 _ e4.1 e4.2.1 e5.1 e5.2.1 fun b6 =>
 br (!b6) (
 some (.inr (0, [.b false]))) (
 some (.inl [.l (lL s3 0), .l (lL s3 1), .i (lI s3 2), .i (IntKind.wrap .i64 ((lI s3 3) + 1))]))) (
 some (.inr (1, [])))) [.l s2, .l s1, .i (s1.length : Int), .i 0] fun (r7 : Nat × List Leaf) =>
 if r7.1 = 0 then
 k (lB r7.2 0)
 else
 k true)
def F116c117 : T116c117 := P116c117 F117 
def X116c117 : Exits := fun i => lookN i [] [(4, [(.ret, xk 32 [(6, .bool false)] []), (.exit 0, xk 32 [] [])])]
def W116c117 (F : T116c117) : (β : Type) → List V → (V → Option β) → Option β := fun β args k => match args with
 | [.sl 2 false s1, .sl 2 false s2, .clo 117 []] => F β s1 s2 (fun y1 => k (.bool y1))
 | _ => none
theorem k116c117 (F117 : T117) {β : Type} (s1 : List V) (s2 : List V) (k : V → Option β) : fnK cfg (tabL [(117, W117 F117)]) X116c117 116 Tryz.f116 β [.sl 2 false s1, .sl 2 false s2, .clo 117 []] k = P116c117 F117 β s1 s2 (fun y1 => k (.bool y1)) := by kernel_rfl
theorem ok116c117 : FnOk D 116 (W116c117 F116c117) := fn_ok (l := [(117, W117 F117)]) (X := X116c117) (fun _ => rfl) Tryz.func116 rfl (tabL_cons ok117 tabL_nil) (fun β args k r h => by
 unfold W116c117 at h
 split at h
 · rw [← h]; exact k116c117 F117 _ _ k
 · cases h)

/-- impl.EqualServers -/
abbrev T41 : Type 1 := (β : Type) → List V → List V → (Bool → Option β) → Option β
def P41 (F116c117 : T116c117) : T41 := fun β a b k =>
 F116c117 _ a b fun b1 =>
 k b1
def F41 : T41 := P41 F116c117 
abbrev s41 : List (Bool × List CK) := [(false, [.sl 2 false]), (false, [.sl 2 false])]
def G41 (F : T41) (β : Type) (e : (List V × Unit) × (List V × Unit) × Unit) (k : V → Option β) : Option β := F β e.1.1 e.2.1.1 (fun y1 => k (.bool y1))
abbrev W41 (F : T41) : WT := wrap s41 (G41 F)
theorem k41 (F116c117 : T116c117) (β : Type) (e : argsT s41) (k : V → Option β) : fnK cfg (tabL [(116, W116c117 F116c117)]) noX 41 Tryz.f41 β (argsEnc s41 e) k = G41 (P41 F116c117 ) β e k := by kernel_rfl
theorem ok41 : FnOk D 41 (W41 F41) := fn_okW [(116, W116c117 F116c117)] noX (fun _ => rfl) Tryz.func41 rfl (tabL_cons ok116c117 tabL_nil) (k41 F116c117 )

/-- slices.Equal[[]impl.Entry,impl.Entry] -/
abbrev T188 : Type 1 := (β : Type) → List V → List V → (Bool → Option β) → Option β
def P188 : T188 := fun β s1 s2 k =>
 br ((s1.length : Int) != (s2.length : Int)) (
 k false) (
 whileK (fun s3 =>
 br (decide ((lI s3 3) < (lI s3 2))) (
 chk (0 ≤ (lI s3 3)) <|
 idx true [.str, .str, .str, .int .i64, .int .i64, .str, .int .i64, .bool, .str, .int .i64] (lL s3 0) ((lI s3 3).toNat) fun (e4 : List UInt8 × List UInt8 × List UInt8 × Int × Int × List UInt8 × Int × Bool × List UInt8 × Int × Unit) =>
 chk (0 ≤ (lI s3 3)) <|
 idx true [.str, .str, .str, .int .i64, .int .i64, .str, .int .i64, .bool, .str, .int .i64] (lL s3 1) ((lI s3 3).toNat) fun (e5 : List UInt8 × List UInt8 × List UInt8 × Int × Int × List UInt8 × Int × Bool × List UInt8 × Int × Unit) =>
 br (!((e4.1 == e5.1) && ((e4.2.1 == e5.2.1) && ((e4.2.2.1 == e5.2.2.1) && ((e4.2.2.2.1 == e5.2.2.2.1) && ((e4.2.2.2.2.1 == e5.2.2.2.2.1) && ((e4.2.2.2.2.2.1 == e5.2.2.2.2.2.1) && ((e4.2.2.2.2.2.2.1 == e5.2.2.2.2.2.2.1) && ((e4.2.2.2.2.2.2.2.1 == e5.2.2.2.2.2.2.2.1) && ((e4.2.2.2.2.2.2.2.2.1 == e5.2.2.2.2.2.2.2.2.1) && ((e4.2.2.2.2.2.2.2.2.2.1 == e5.2.2.2.2.2.2.2.2.2.1) && true))))))))))) (
 some (.inr (0, [.b false]))) (
 some (.inl [.l (lL s3 0), .l (lL s3 1), .i (lI s3 2), .i (IntKind.wrap .i64 ((lI s3 3) + 1))]))) (
 some (.inr (1, [])))) [.l s1, .l s2, .i (s1.length : Int), .i 0] fun (r6 : Nat × List Leaf) =>
 if r6.1 = 0 then
 k (lB r6.2 0)
 else
 k true)
def F188 : T188 := P188 
def X188 : Exits := fun i => lookN i [] [(4, [(.ret, xk 26 [(4, .bool false)] []), (.exit 0, xk 26 [] [])])]
abbrev s188 : List (Bool × List CK) := [(false, [.sl 10 true]), (false, [.sl 10 true])]
def G188 (F : T188) (β : Type) (e : (List V × Unit) × (List V × Unit) × Unit) (k : V → Option β) : Option β := F β e.1.1 e.2.1.1 (fun y1 => k (.bool y1))
abbrev W188 (F : T188) : WT := wrap s188 (G188 F)
theorem k188 (β : Type) (e : argsT s188) (k : V → Option β) : fnK cfg (tabL []) X188 188 Tryz.f188 β (argsEnc s188 e) k = G188 (P188 ) β e k := by kernel_rfl
theorem ok188 : FnOk D 188 (W188 F188) := fn_okW [] X188 (fun _ => rfl) Tryz.func188 rfl (tabL_nil) (k188 )

/-- impl.EqualCaches -/
abbrev T156 : Type 1 := (β : Type) → List V → List V → (Bool → Option β) → Option β
def P156 (F188 : T188) : T156 := fun β a_Entries b_Entries k =>
 F188 _ a_Entries b_Entries fun b1 =>
 k b1
def F156 : T156 := P156 F188 
abbrev s156 : List (Bool × List CK) := [(true, [.sl 10 true]), (true, [.sl 10 true])]
def G156 (F : T156) (β : Type) (e : (List V × Unit) × (List V × Unit) × Unit) (k : V → Option β) : Option β := F β e.1.1 e.2.1.1 (fun y1 => k (.bool y1))
abbrev W156 (F : T156) : WT := wrap s156 (G156 F)
theorem k156 (F188 : T188) (β : Type) (e : argsT s156) (k : V → Option β) : fnK cfg (tabL [(188, W188 F188)]) noX 156 Tryz.f156 β (argsEnc s156 e) k = G156 (P156 F188 ) β e k := by kernel_rfl
theorem ok156 : FnOk D 156 (W156 F156) := fn_okW [(188, W188 F188)] noX (fun _ => rfl) Tryz.func156 rfl (tabL_cons ok188 tabL_nil) (k156 F188 )

/-- slices.Equal[[]impl.Sent,impl.Sent] -/
abbrev T157 : Type 1 := (β : Type) → List V → List V → (Bool → Option β) → Option β
def P157 : T157 := fun β s1 s2 k =>
 br ((s1.length : Int) != (s2.length : Int)) (
 k false) (
 whileK (fun s3 =>
 br (decide ((lI s3 3) < (lI s3 2))) (
 chk (0 ≤ (lI s3 3)) <|
 idx true [.str, .str, .str, .bool] (lL s3 0) ((lI s3 3).toNat) fun (e4 : List UInt8 × List UInt8 × List UInt8 × Bool × Unit) =>
 chk (0 ≤ (lI s3 3)) <|
 idx true [.str, .str, .str, .bool] (lL s3 1) ((lI s3 3).toNat) fun (e5 : List UInt8 × List UInt8 × List UInt8 × Bool × Unit) =>
 br (!((e4.1 == e5.1) && ((e4.2.1 == e5.2.1) && ((e4.2.2.1 == e5.2.2.1) && ((e4.2.2.2.1 == e5.2.2.2.1) && true))))) (
 some (.inr (0, [.b false]))) (
 some (.inl [.l (lL s3 0), .l (lL s3 1), .i (lI s3 2), .i (IntKind.wrap .i64 ((lI s3 3) + 1))]))) (
 some (.inr (1, [])))) [.l s1, .l s2, .i (s1.length : Int), .i 0] fun (r6 : Nat × List Leaf) =>
 if r6.1 = 0 then
 k (lB r6.2 0)
 else
 k true)
def F157 : T157 := P157 
def X157 : Exits := fun i => lookN i [] [(4, [(.ret, xk 26 [(4, .bool false)] []), (.exit 0, xk 26 [] [])])]
abbrev s157 : List (Bool × List CK) := [(false, [.sl 4 true]), (false, [.sl 4 true])]
def G157 (F : T157) (β : Type) (e : (List V × Unit) × (List V × Unit) × Unit) (k : V → Option β) : Option β := F β e.1.1 e.2.1.1 (fun y1 => k (.bool y1))
abbrev W157 (F : T157) : WT := wrap s157 (G157 F)
theorem k157 (β : Type) (e : argsT s157) (k : V → Option β) : fnK cfg (tabL []) X157 157 Tryz.f157 β (argsEnc s157 e) k = G157 (P157 ) β e k := by kernel_rfl
theorem ok157 : FnOk D 157 (W157 F157) := fn_okW [] X157 (fun _ => rfl) Tryz.func157 rfl (tabL_nil) (k157 )

/-- impl.EqualNets -/
abbrev T96 : Type 1 := (β : Type) → List V → List V → List V → Int → List V → List V → List V → Int → (Bool → Option β) → Option β
def P96 (F41 : T41) (F156 : T156) (F157 : T157) : T96 := fun β a_Servers a_Cache_Entries a_Log a_Now b_Servers b_Cache_Entries b_Log b_Now k =>
 F41 _ a_Servers b_Servers fun b1 =>
 br b1 (
 F156 _ a_Cache_Entries b_Cache_Entries fun b2 =>
 br b2 (
 F157 _ a_Log b_Log fun b3 =>
 br b3 (
 k (a_Now == b_Now)) (
 k false)) (
 k false)) (
 k false)
def F96 : T96 := P96 F41 F156 F157 
abbrev s96 : List (Bool × List CK) := [(true, [.sl 2 false, .sl 10 true, .sl 4 true, .int .i64]), (true, [.sl 2 false, .sl 10 true, .sl 4 true, .int .i64])]
def G96 (F : T96) (β : Type) (e : (List V × List V × List V × Int × Unit) × (List V × List V × List V × Int × Unit) × Unit) (k : V → Option β) : Option β := F β e.1.1 e.1.2.1 e.1.2.2.1 e.1.2.2.2.1 e.2.1.1 e.2.1.2.1 e.2.1.2.2.1 e.2.1.2.2.2.1 (fun y1 => k (.bool y1))
abbrev W96 (F : T96) : WT := wrap s96 (G96 F)
theorem k96 (F41 : T41) (F156 : T156) (F157 : T157) (β : Type) (e : argsT s96) (k : V → Option β) : fnK cfg (tabL [(41, W41 F41), (156, W156 F156), (157, W157 F157)]) noX 96 Tryz.f96 β (argsEnc s96 e) k = G96 (P96 F41 F156 F157 ) β e k := by kernel_rfl
theorem ok96 : FnOk D 96 (W96 F96) := fn_okW [(41, W41 F41), (156, W156 F156), (157, W157 F157)] noX (fun _ => rfl) Tryz.func96 rfl (tabL_cons ok41 (tabL_cons ok156 (tabL_cons ok157 tabL_nil))) (k96 F41 F156 F157 )

/-- slices.Equal[[]string,string] -/
abbrev T115 : Type 1 := (β : Type) → List V → List V → (Bool → Option β) → Option β
def P115 : T115 := fun β s1 s2 k =>
 br ((s1.length : Int) != (s2.length : Int)) (
 k false) (
 whileK (fun s3 =>
 br (decide ((lI s3 3) < (lI s3 2))) (
 chk (0 ≤ (lI s3 3)) <|
 idx false [.str] (lL s3 0) ((lI s3 3).toNat) fun (e4 : List UInt8 × Unit) =>
 chk (0 ≤ (lI s3 3)) <|
 idx false [.str] (lL s3 1) ((lI s3 3).toNat) fun (e5 : List UInt8 × Unit) =>
 br (!(e4.1 == e5.1)) (
 some (.inr (0, [.b false]))) (
 some (.inl [.l (lL s3 0), .l (lL s3 1), .i (lI s3 2), .i (IntKind.wrap .i64 ((lI s3 3) + 1))]))) (
 some (.inr (1, [])))) [.l s1, .l s2, .i (s1.length : Int), .i 0] fun (r6 : Nat × List Leaf) =>
 if r6.1 = 0 then
 k (lB r6.2 0)
 else
 k true)
def F115 : T115 := P115 
def X115 : Exits := fun i => lookN i [] [(4, [(.ret, xk 26 [(4, .bool false)] []), (.exit 0, xk 26 [] [])])]
abbrev s115 : List (Bool × List CK) := [(false, [.sl 1 true]), (false, [.sl 1 true])]
def G115 (F : T115) (β : Type) (e : (List V × Unit) × (List V × Unit) × Unit) (k : V → Option β) : Option β := F β e.1.1 e.2.1.1 (fun y1 => k (.bool y1))
abbrev W115 (F : T115) : WT := wrap s115 (G115 F)
theorem k115 (β : Type) (e : argsT s115) (k : V → Option β) : fnK cfg (tabL []) X115 115 Tryz.f115 β (argsEnc s115 e) k = G115 (P115 ) β e k := by kernel_rfl
theorem ok115 : FnOk D 115 (W115 F115) := fn_okW [] X115 (fun _ => rfl) Tryz.func115 rfl (tabL_nil) (k115 )

/-- impl.EqualPolicies -/
abbrev T108 : Type 1 := (β : Type) → Bool → List V → List V → List V → List UInt8 → Bool → List V → List V → List V → List UInt8 → (Bool → Option β) → Option β
def P108 (F115 : T115) : T108 := fun β a_Set a_Scripts a_Styles a_Images a_Nonce b_Set b_Scripts b_Styles b_Images b_Nonce k =>
 br (a_Set == b_Set) (
 F115 _ a_Scripts b_Scripts fun b1 =>
 br b1 (
 F115 _ a_Styles b_Styles fun b2 =>
 br b2 (
 F115 _ a_Images b_Images fun b3 =>
 br b3 (
 k (a_Nonce == b_Nonce)) (
 k false)) (
 k false)) (
 k false)) (
 k false)
def F108 : T108 := P108 F115 
abbrev s108 : List (Bool × List CK) := [(true, [.bool, .sl 1 true, .sl 1 true, .sl 1 true, .str]), (true, [.bool, .sl 1 true, .sl 1 true, .sl 1 true, .str])]
def G108 (F : T108) (β : Type) (e : (Bool × List V × List V × List V × List UInt8 × Unit) × (Bool × List V × List V × List V × List UInt8 × Unit) × Unit) (k : V → Option β) : Option β := let a0_0 := e.1; let a0_1 := a0_0.2; let a0_2 := a0_1.2; let a0_3 := a0_2.2; let a0_4 := a0_3.2; let a1_0 := e.2.1; let a1_1 := a1_0.2; let a1_2 := a1_1.2; let a1_3 := a1_2.2; let a1_4 := a1_3.2; F β a0_0.1 a0_1.1 a0_2.1 a0_3.1 a0_4.1 a1_0.1 a1_1.1 a1_2.1 a1_3.1 a1_4.1 (fun y1 => k (.bool y1))
abbrev W108 (F : T108) : WT := wrap s108 (G108 F)
theorem k108 (F115 : T115) (β : Type) (e : argsT s108) (k : V → Option β) : fnK cfg (tabL [(115, W115 F115)]) noX 108 Tryz.f108 β (argsEnc s108 e) k = G108 (P108 F115 ) β e k := by kernel_rfl
theorem ok108 : FnOk D 108 (W108 F108) := fn_okW [(115, W115 F115)] noX (fun _ => rfl) Tryz.func108 rfl (tabL_cons ok115 tabL_nil) (k108 F115 )

/-- slices.Equal[[]impl.Attr,impl.Attr] -/
abbrev T168 : Type 1 := (β : Type) → List V → List V → (Bool → Option β) → Option β
def P168 : T168 := fun β s1 s2 k =>
 br ((s1.length : Int) != (s2.length : Int)) (
 k false) (
 whileK (fun s3 =>
 br (decide ((lI s3 3) < (lI s3 2))) (
 chk (0 ≤ (lI s3 3)) <|
 idx true [.str, .str] (lL s3 0) ((lI s3 3).toNat) fun (e4 : List UInt8 × List UInt8 × Unit) =>
 chk (0 ≤ (lI s3 3)) <|
 idx true [.str, .str] (lL s3 1) ((lI s3 3).toNat) fun (e5 : List UInt8 × List UInt8 × Unit) =>
 br (!((e4.1 == e5.1) && ((e4.2.1 == e5.2.1) && true))) (
 some (.inr (0, [.b false]))) (
 some (.inl [.l (lL s3 0), .l (lL s3 1), .i (lI s3 2), .i (IntKind.wrap .i64 ((lI s3 3) + 1))]))) (
 some (.inr (1, [])))) [.l s1, .l s2, .i (s1.length : Int), .i 0] fun (r6 : Nat × List Leaf) =>
 if r6.1 = 0 then
 k (lB r6.2 0)
 else
 k true)
def F168 : T168 := P168 
def X168 : Exits := fun i => lookN i [] [(4, [(.ret, xk 26 [(4, .bool false)] []), (.exit 0, xk 26 [] [])])]
abbrev s168 : List (Bool × List CK) := [(false, [.sl 2 true]), (false, [.sl 2 true])]
def G168 (F : T168) (β : Type) (e : (List V × Unit) × (List V × Unit) × Unit) (k : V → Option β) : Option β := F β e.1.1 e.2.1.1 (fun y1 => k (.bool y1))
abbrev W168 (F : T168) : WT := wrap s168 (G168 F)
theorem k168 (β : Type) (e : argsT s168) (k : V → Option β) : fnK cfg (tabL []) X168 168 Tryz.f168 β (argsEnc s168 e) k = G168 (P168 ) β e k := by kernel_rfl
theorem ok168 : FnOk D 168 (W168 F168) := fn_okW [] X168 (fun _ => rfl) Tryz.func168 rfl (tabL_nil) (k168 )

/-- impl.equalTokens -/
abbrev T110 : Type 1 := (β : Type) → Int → List UInt8 → List V → List UInt8 → Int → List UInt8 → List V → List UInt8 → (Bool → Option β) → Option β
def P110 (F168 : T168) : T110 := fun β a_Kind a_Name a_Attrs a_Text b_Kind b_Name b_Attrs b_Text k =>
 br (a_Kind == b_Kind) (
 br (a_Name == b_Name) (
 F168 _ a_Attrs b_Attrs fun b1 =>
 br b1 (
 k (a_Text == b_Text)) (
 k false)) (
 k false)) (
 k false)
def F110 : T110 := P110 F168 
abbrev s110 : List (Bool × List CK) := [(true, [.int .i64, .str, .sl 2 true, .str]), (true, [.int .i64, .str, .sl 2 true, .str])]
def G110 (F : T110) (β : Type) (e : (Int × List UInt8 × List V × List UInt8 × Unit) × (Int × List UInt8 × List V × List UInt8 × Unit) × Unit) (k : V → Option β) : Option β := F β e.1.1 e.1.2.1 e.1.2.2.1 e.1.2.2.2.1 e.2.1.1 e.2.1.2.1 e.2.1.2.2.1 e.2.1.2.2.2.1 (fun y1 => k (.bool y1))
abbrev W110 (F : T110) : WT := wrap s110 (G110 F)
theorem k110 (F168 : T168) (β : Type) (e : argsT s110) (k : V → Option β) : fnK cfg (tabL [(168, W168 F168)]) noX 110 Tryz.f110 β (argsEnc s110 e) k = G110 (P110 F168 ) β e k := by kernel_rfl
theorem ok110 : FnOk D 110 (W110 F110) := fn_okW [(168, W168 F168)] noX (fun _ => rfl) Tryz.func110 rfl (tabL_cons ok168 tabL_nil) (k110 F168 )

/-- slices.EqualFunc[[]impl.Token,[]impl.Token,impl.Token,impl.Token] -/
abbrev T109c110 : Type 1 := (β : Type) → List V → List V → (Bool → Option β) → Option β
def P109c110 (F110 : T110) : T109c110 := fun β s1 s2 k =>
 br ((s1.length : Int) != (s2.length : Int)) (
 k false) (
 whileK (fun s3 =>
 br (decide ((lI s3 3) < (lI s3 2))) (
 chk (0 ≤ (lI s3 3)) <|
 idx true [.int .i64, .str, .sl 2 true, .str] (lL s3 1) ((lI s3 3).toNat) fun (e4 : Int × List UInt8 × List V × List UInt8 × Unit) =>
 chk (0 ≤ (lI s3 3)) <|
 idx true [.int .i64, .str, .sl 2 true, .str] (lL s3 0) ((lI s3 3).toNat) fun (e5 : Int × List UInt8 × List V × List UInt8 × Unit) =>
 F110 _ e4.1 e4.2.1 e4.2.2.1 e4.2.2.2.1 e5.1 e5.2.1 e5.2.2.1 e5.2.2.2.1 fun b6 =>
 br (!b6) (
 some (.inr (0, [.b false]))) (
 some (.inl [.l (lL s3 0), .l (lL s3 1), .i (lI s3 2), .i (IntKind.wrap .i64 ((lI s3 3) + 1))]))) (
 some (.inr (1, [])))) [.l s2, .l s1, .i (s1.length : Int), .i 0] fun (r7 : Nat × List Leaf) =>
 if r7.1 = 0 then
 k (lB r7.2 0)
 else
 k true)
def F109c110 : T109c110 := P109c110 F110 
def X109c110 : Exits := fun i => lookN i [] [(4, [(.ret, xk 32 [(6, .bool false)] []), (.exit 0, xk 32 [] [])])]
def W109c110 (F : T109c110) : (β : Type) → List V → (V → Option β) → Option β := fun β args k => match args with
 | [.sl 4 false s1, .sl 4 false s2, .clo 110 []] => F β s1 s2 (fun y1 => k (.bool y1))
 | _ => none
theorem k109c110 (F110 : T110) {β : Type} (s1 : List V) (s2 : List V) (k : V → Option β) : fnK cfg (tabL [(110, W110 F110)]) X109c110 109 Tryz.f109 β [.sl 4 false s1, .sl 4 false s2, .clo 110 []] k = P109c110 F110 β s1 s2 (fun y1 => k (.bool y1)) := by kernel_rfl
theorem ok109c110 : FnOk D 109 (W109c110 F109c110) := fn_ok (l := [(110, W110 F110)]) (X := X109c110) (fun _ => rfl) Tryz.func109 rfl (tabL_cons ok110 tabL_nil) (fun β args k r h => by
 unfold W109c110 at h
 split at h
 · rw [← h]; exact k109c110 F110 _ _ k
 · cases h)

/-- impl.equalNodes -/
abbrev T170 : Type 1 := (β : Type) → List UInt8 → List UInt8 → Int → List V → List UInt8 → List UInt8 → Int → List V → (Bool → Option β) → Option β
def P170 (F168 : T168) : T170 := fun β a_Name a_Text a_Parent a_Attrs b_Name b_Text b_Parent b_Attrs k =>
 br (a_Name == b_Name) (
 br (a_Text == b_Text) (
 br (a_Parent == b_Parent) (
 F168 _ a_Attrs b_Attrs fun b1 =>
 k b1) (
 k false)) (
 k false)) (
 k false)
def F170 : T170 := P170 F168 
abbrev s170 : List (Bool × List CK) := [(true, [.str, .str, .int .i64, .sl 2 true]), (true, [.str, .str, .int .i64, .sl 2 true])]
def G170 (F : T170) (β : Type) (e : (List UInt8 × List UInt8 × Int × List V × Unit) × (List UInt8 × List UInt8 × Int × List V × Unit) × Unit) (k : V → Option β) : Option β := F β e.1.1 e.1.2.1 e.1.2.2.1 e.1.2.2.2.1 e.2.1.1 e.2.1.2.1 e.2.1.2.2.1 e.2.1.2.2.2.1 (fun y1 => k (.bool y1))
abbrev W170 (F : T170) : WT := wrap s170 (G170 F)
theorem k170 (F168 : T168) (β : Type) (e : argsT s170) (k : V → Option β) : fnK cfg (tabL [(168, W168 F168)]) noX 170 Tryz.f170 β (argsEnc s170 e) k = G170 (P170 F168 ) β e k := by kernel_rfl
theorem ok170 : FnOk D 170 (W170 F170) := fn_okW [(168, W168 F168)] noX (fun _ => rfl) Tryz.func170 rfl (tabL_cons ok168 tabL_nil) (k170 F168 )

/-- slices.EqualFunc[[]impl.Node,[]impl.Node,impl.Node,impl.Node] -/
abbrev T169c170 : Type 1 := (β : Type) → List V → List V → (Bool → Option β) → Option β
def P169c170 (F170 : T170) : T169c170 := fun β s1 s2 k =>
 br ((s1.length : Int) != (s2.length : Int)) (
 k false) (
 whileK (fun s3 =>
 br (decide ((lI s3 3) < (lI s3 2))) (
 chk (0 ≤ (lI s3 3)) <|
 idx true [.str, .str, .int .i64, .sl 2 true] (lL s3 1) ((lI s3 3).toNat) fun (e4 : List UInt8 × List UInt8 × Int × List V × Unit) =>
 chk (0 ≤ (lI s3 3)) <|
 idx true [.str, .str, .int .i64, .sl 2 true] (lL s3 0) ((lI s3 3).toNat) fun (e5 : List UInt8 × List UInt8 × Int × List V × Unit) =>
 F170 _ e4.1 e4.2.1 e4.2.2.1 e4.2.2.2.1 e5.1 e5.2.1 e5.2.2.1 e5.2.2.2.1 fun b6 =>
 br (!b6) (
 some (.inr (0, [.b false]))) (
 some (.inl [.l (lL s3 0), .l (lL s3 1), .i (lI s3 2), .i (IntKind.wrap .i64 ((lI s3 3) + 1))]))) (
 some (.inr (1, [])))) [.l s2, .l s1, .i (s1.length : Int), .i 0] fun (r7 : Nat × List Leaf) =>
 if r7.1 = 0 then
 k (lB r7.2 0)
 else
 k true)
def F169c170 : T169c170 := P169c170 F170 
def X169c170 : Exits := fun i => lookN i [] [(4, [(.ret, xk 32 [(6, .bool false)] []), (.exit 0, xk 32 [] [])])]
def W169c170 (F : T169c170) : (β : Type) → List V → (V → Option β) → Option β := fun β args k => match args with
 | [.sl 4 false s1, .sl 4 false s2, .clo 170 []] => F β s1 s2 (fun y1 => k (.bool y1))
 | _ => none
theorem k169c170 (F170 : T170) {β : Type} (s1 : List V) (s2 : List V) (k : V → Option β) : fnK cfg (tabL [(170, W170 F170)]) X169c170 169 Tryz.f169 β [.sl 4 false s1, .sl 4 false s2, .clo 170 []] k = P169c170 F170 β s1 s2 (fun y1 => k (.bool y1)) := by kernel_rfl
theorem ok169c170 : FnOk D 169 (W169c170 F169c170) := fn_ok (l := [(170, W170 F170)]) (X := X169c170) (fun _ => rfl) Tryz.func169 rfl (tabL_cons ok170 tabL_nil) (fun β args k r h => by
 unfold W169c170 at h
 split at h
 · rw [← h]; exact k169c170 F170 _ _ k
 · cases h)

/-- slices.Equal[[]int,int] -/
abbrev T171 : Type 1 := (β : Type) → List V → List V → (Bool → Option β) → Option β
def P171 : T171 := fun β s1 s2 k =>
 br ((s1.length : Int) != (s2.length : Int)) (
 k false) (
 whileK (fun s3 =>
 br (decide ((lI s3 3) < (lI s3 2))) (
 chk (0 ≤ (lI s3 3)) <|
 idx false [.int .i64] (lL s3 0) ((lI s3 3).toNat) fun (e4 : Int × Unit) =>
 chk (0 ≤ (lI s3 3)) <|
 idx false [.int .i64] (lL s3 1) ((lI s3 3).toNat) fun (e5 : Int × Unit) =>
 br (e4.1 != e5.1) (
 some (.inr (0, [.b false]))) (
 some (.inl [.l (lL s3 0), .l (lL s3 1), .i (lI s3 2), .i (IntKind.wrap .i64 ((lI s3 3) + 1))]))) (
 some (.inr (1, [])))) [.l s1, .l s2, .i (s1.length : Int), .i 0] fun (r6 : Nat × List Leaf) =>
 if r6.1 = 0 then
 k (lB r6.2 0)
 else
 k true)
def F171 : T171 := P171 
def X171 : Exits := fun i => lookN i [] [(4, [(.ret, xk 26 [(4, .bool false)] []), (.exit 0, xk 26 [] [])])]
abbrev s171 : List (Bool × List CK) := [(false, [.sl 1 true]), (false, [.sl 1 true])]
def G171 (F : T171) (β : Type) (e : (List V × Unit) × (List V × Unit) × Unit) (k : V → Option β) : Option β := F β e.1.1 e.2.1.1 (fun y1 => k (.bool y1))
abbrev W171 (F : T171) : WT := wrap s171 (G171 F)
theorem k171 (β : Type) (e : argsT s171) (k : V → Option β) : fnK cfg (tabL []) X171 171 Tryz.f171 β (argsEnc s171 e) k = G171 (P171 ) β e k := by kernel_rfl
theorem ok171 : FnOk D 171 (W171 F171) := fn_okW [] X171 (fun _ => rfl) Tryz.func171 rfl (tabL_nil) (k171 )

/-- impl.EqualBuilders -/
abbrev T111 : Type 1 := (β : Type) → List V → List V → List V → List V → (Bool → Option β) → Option β
def P111 (F169c170 : T169c170) (F171 : T171) : T111 := fun β a_Nodes a_Open b_Nodes b_Open k =>
 F169c170 _ a_Nodes b_Nodes fun b1 =>
 br b1 (
 F171 _ a_Open b_Open fun b2 =>
 k b2) (
 k false)
def F111 : T111 := P111 F169c170 F171 
abbrev s111 : List (Bool × List CK) := [(true, [.sl 4 false, .sl 1 true]), (true, [.sl 4 false, .sl 1 true])]
def G111 (F : T111) (β : Type) (e : (List V × List V × Unit) × (List V × List V × Unit) × Unit) (k : V → Option β) : Option β := F β e.1.1 e.1.2.1 e.2.1.1 e.2.1.2.1 (fun y1 => k (.bool y1))
abbrev W111 (F : T111) : WT := wrap s111 (G111 F)
theorem k111 (F169c170 : T169c170) (F171 : T171) (β : Type) (e : argsT s111) (k : V → Option β) : fnK cfg (tabL [(169, W169c170 F169c170), (171, W171 F171)]) noX 111 Tryz.f111 β (argsEnc s111 e) k = G111 (P111 F169c170 F171 ) β e k := by kernel_rfl
theorem ok111 : FnOk D 111 (W111 F111) := fn_okW [(169, W169c170 F169c170), (171, W171 F171)] noX (fun _ => rfl) Tryz.func111 rfl (tabL_cons ok169c170 (tabL_cons ok171 tabL_nil)) (k111 F169c170 F171 )

/-- slices.Equal[[]impl.Slot,impl.Slot] -/
abbrev T112 : Type 1 := (β : Type) → List V → List V → (Bool → Option β) → Option β
def P112 : T112 := fun β s1 s2 k =>
 br ((s1.length : Int) != (s2.length : Int)) (
 k false) (
 whileK (fun s3 =>
 br (decide ((lI s3 3) < (lI s3 2))) (
 chk (0 ≤ (lI s3 3)) <|
 idx true [.int .i64, .str, .str, .str, .int .i64, .bool, .int .i64, .str] (lL s3 0) ((lI s3 3).toNat) fun (e4 : Int × List UInt8 × List UInt8 × List UInt8 × Int × Bool × Int × List UInt8 × Unit) =>
 chk (0 ≤ (lI s3 3)) <|
 idx true [.int .i64, .str, .str, .str, .int .i64, .bool, .int .i64, .str] (lL s3 1) ((lI s3 3).toNat) fun (e5 : Int × List UInt8 × List UInt8 × List UInt8 × Int × Bool × Int × List UInt8 × Unit) =>
 br (!((e4.1 == e5.1) && ((e4.2.1 == e5.2.1) && ((e4.2.2.1 == e5.2.2.1) && ((e4.2.2.2.1 == e5.2.2.2.1) && ((e4.2.2.2.2.1 == e5.2.2.2.2.1) && ((e4.2.2.2.2.2.1 == e5.2.2.2.2.2.1) && ((e4.2.2.2.2.2.2.1 == e5.2.2.2.2.2.2.1) && ((e4.2.2.2.2.2.2.2.1 == e5.2.2.2.2.2.2.2.1) && true))))))))) (
 some (.inr (0, [.b false]))) (
 some (.inl [.l (lL s3 0), .l (lL s3 1), .i (lI s3 2), .i (IntKind.wrap .i64 ((lI s3 3) + 1))]))) (
 some (.inr (1, [])))) [.l s1, .l s2, .i (s1.length : Int), .i 0] fun (r6 : Nat × List Leaf) =>
 if r6.1 = 0 then
 k (lB r6.2 0)
 else
 k true)
def F112 : T112 := P112 
def X112 : Exits := fun i => lookN i [] [(4, [(.ret, xk 26 [(4, .bool false)] []), (.exit 0, xk 26 [] [])])]
abbrev s112 : List (Bool × List CK) := [(false, [.sl 8 true]), (false, [.sl 8 true])]
def G112 (F : T112) (β : Type) (e : (List V × Unit) × (List V × Unit) × Unit) (k : V → Option β) : Option β := F β e.1.1 e.2.1.1 (fun y1 => k (.bool y1))
abbrev W112 (F : T112) : WT := wrap s112 (G112 F)
theorem k112 (β : Type) (e : argsT s112) (k : V → Option β) : fnK cfg (tabL []) X112 112 Tryz.f112 β (argsEnc s112 e) k = G112 (P112 ) β e k := by kernel_rfl
theorem ok112 : FnOk D 112 (W112 F112) := fn_okW [] X112 (fun _ => rfl) Tryz.func112 rfl (tabL_nil) (k112 )

/-- slices.Equal[[]impl.Module,impl.Module] -/
abbrev T113 : Type 1 := (β : Type) → List V → List V → (Bool → Option β) → Option β
def P113 : T113 := fun β s1 s2 k =>
 br ((s1.length : Int) != (s2.length : Int)) (
 k false) (
 whileK (fun s3 =>
 br (decide ((lI s3 3) < (lI s3 2))) (
 chk (0 ≤ (lI s3 3)) <|
 idx true [.str, .str, .bool, .int .i64, .str] (lL s3 0) ((lI s3 3).toNat) fun (e4 : List UInt8 × List UInt8 × Bool × Int × List UInt8 × Unit) =>
 chk (0 ≤ (lI s3 3)) <|
 idx true [.str, .str, .bool, .int .i64, .str] (lL s3 1) ((lI s3 3).toNat) fun (e5 : List UInt8 × List UInt8 × Bool × Int × List UInt8 × Unit) =>
 br (!((e4.1 == e5.1) && ((e4.2.1 == e5.2.1) && ((e4.2.2.1 == e5.2.2.1) && ((e4.2.2.2.1 == e5.2.2.2.1) && ((e4.2.2.2.2.1 == e5.2.2.2.2.1) && true)))))) (
 some (.inr (0, [.b false]))) (
 some (.inl [.l (lL s3 0), .l (lL s3 1), .i (lI s3 2), .i (IntKind.wrap .i64 ((lI s3 3) + 1))]))) (
 some (.inr (1, [])))) [.l s1, .l s2, .i (s1.length : Int), .i 0] fun (r6 : Nat × List Leaf) =>
 if r6.1 = 0 then
 k (lB r6.2 0)
 else
 k true)
def F113 : T113 := P113 
def X113 : Exits := fun i => lookN i [] [(4, [(.ret, xk 26 [(4, .bool false)] []), (.exit 0, xk 26 [] [])])]
abbrev s113 : List (Bool × List CK) := [(false, [.sl 5 true]), (false, [.sl 5 true])]
def G113 (F : T113) (β : Type) (e : (List V × Unit) × (List V × Unit) × Unit) (k : V → Option β) : Option β := F β e.1.1 e.2.1.1 (fun y1 => k (.bool y1))
abbrev W113 (F : T113) : WT := wrap s113 (G113 F)
theorem k113 (β : Type) (e : argsT s113) (k : V → Option β) : fnK cfg (tabL []) X113 113 Tryz.f113 β (argsEnc s113 e) k = G113 (P113 ) β e k := by kernel_rfl
theorem ok113 : FnOk D 113 (W113 F113) := fn_okW [] X113 (fun _ => rfl) Tryz.func113 rfl (tabL_nil) (k113 )

/-- slices.Equal[[]impl.Addr,impl.Addr] -/
abbrev T114 : Type 1 := (β : Type) → List V → List V → (Bool → Option β) → Option β
def P114 : T114 := fun β s1 s2 k =>
 br ((s1.length : Int) != (s2.length : Int)) (
 k false) (
 whileK (fun s3 =>
 br (decide ((lI s3 3) < (lI s3 2))) (
 chk (0 ≤ (lI s3 3)) <|
 idx true [.str, .str] (lL s3 0) ((lI s3 3).toNat) fun (e4 : List UInt8 × List UInt8 × Unit) =>
 chk (0 ≤ (lI s3 3)) <|
 idx true [.str, .str] (lL s3 1) ((lI s3 3).toNat) fun (e5 : List UInt8 × List UInt8 × Unit) =>
 br (!((e4.1 == e5.1) && ((e4.2.1 == e5.2.1) && true))) (
 some (.inr (0, [.b false]))) (
 some (.inl [.l (lL s3 0), .l (lL s3 1), .i (lI s3 2), .i (IntKind.wrap .i64 ((lI s3 3) + 1))]))) (
 some (.inr (1, [])))) [.l s1, .l s2, .i (s1.length : Int), .i 0] fun (r6 : Nat × List Leaf) =>
 if r6.1 = 0 then
 k (lB r6.2 0)
 else
 k true)
def F114 : T114 := P114 
def X114 : Exits := fun i => lookN i [] [(4, [(.ret, xk 26 [(4, .bool false)] []), (.exit 0, xk 26 [] [])])]
abbrev s114 : List (Bool × List CK) := [(false, [.sl 2 true]), (false, [.sl 2 true])]
def G114 (F : T114) (β : Type) (e : (List V × Unit) × (List V × Unit) × Unit) (k : V → Option β) : Option β := F β e.1.1 e.2.1.1 (fun y1 => k (.bool y1))
abbrev W114 (F : T114) : WT := wrap s114 (G114 F)
theorem k114 (β : Type) (e : argsT s114) (k : V → Option β) : fnK cfg (tabL []) X114 114 Tryz.f114 β (argsEnc s114 e) k = G114 (P114 ) β e k := by kernel_rfl
theorem ok114 : FnOk D 114 (W114 F114) := fn_okW [] X114 (fun _ => rfl) Tryz.func114 rfl (tabL_nil) (k114 )

/-- impl.EqualPages -/
abbrev T39 : Type 1 := (β : Type) → List UInt8 → List UInt8 → Bool → List V → List V → List V → List UInt8 → List UInt8 → List V → Bool → List V → List V → List V → List V → List V → Int → Int → Int → Int → List V → List V → Bool → List UInt8 → List UInt8 → Bool → List V → List V → List V → List UInt8 → List UInt8 → List V → Bool → List V → List V → List V → List V → List V → Int → Int → Int → Int → List V → List V → Bool → (Bool → Option β) → Option β
def P39 (F108 : T108) (F109c110 : T109c110) (F111 : T111) (F112 : T112) (F113 : T113) (F114 : T114) (F115 : T115) : T39 := fun β a_Addr_Host a_Addr_Path a_Policy_Set a_Policy_Scripts a_Policy_Styles a_Policy_Images a_Policy_Nonce a_Tok_Rest a_Queue a_Ended a_Builder_Nodes a_Builder_Open a_Slots a_Mods a_Entries a_Block a_Inline a_Deferred a_Entered a_Ran a_Log a_Loaded b_Addr_Host b_Addr_Path b_Policy_Set b_Policy_Scripts b_Policy_Styles b_Policy_Images b_Policy_Nonce b_Tok_Rest b_Queue b_Ended b_Builder_Nodes b_Builder_Open b_Slots b_Mods b_Entries b_Block b_Inline b_Deferred b_Entered b_Ran b_Log b_Loaded k =>
 br ((a_Addr_Host == b_Addr_Host) && ((a_Addr_Path == b_Addr_Path) && true)) (
 F108 _ a_Policy_Set a_Policy_Scripts a_Policy_Styles a_Policy_Images a_Policy_Nonce b_Policy_Set b_Policy_Scripts b_Policy_Styles b_Policy_Images b_Policy_Nonce fun b1 =>
 br b1 (
 br ((a_Tok_Rest == b_Tok_Rest) && true) (
 F109c110 _ a_Queue b_Queue fun b2 =>
 br b2 (
 br (a_Ended == b_Ended) (
 F111 _ a_Builder_Nodes a_Builder_Open b_Builder_Nodes b_Builder_Open fun b3 =>
 br b3 (
 F112 _ a_Slots b_Slots fun b4 =>
 br b4 (
 F113 _ a_Mods b_Mods fun b5 =>
 br b5 (
 F114 _ a_Entries b_Entries fun b6 =>
 br b6 (
 br (a_Block == b_Block) (
 br (a_Inline == b_Inline) (
 br (a_Deferred == b_Deferred) (
 br (a_Entered == b_Entered) (
 F114 _ a_Ran b_Ran fun b7 =>
 br b7 (
 F115 _ a_Log b_Log fun b8 =>
 br b8 (
 k (a_Loaded == b_Loaded)) (
 k false)) (
 k false)) (
 k false)) (
 k false)) (
 k false)) (
 k false)) (
 k false)) (
 k false)) (
 k false)) (
 k false)) (
 k false)) (
 k false)) (
 k false)) (
 k false)) (
 k false)
def F39 : T39 := P39 F108 F109c110 F111 F112 F113 F114 F115 
abbrev s39 : List (Bool × List CK) := [(true, [.str, .str, .bool, .sl 1 true, .sl 1 true, .sl 1 true, .str, .str, .sl 4 false, .bool, .sl 4 false, .sl 1 true, .sl 8 true, .sl 5 true, .sl 2 true, .int .i64, .int .i64, .int .i64, .int .i64, .sl 2 true, .sl 1 true, .bool]), (true, [.str, .str, .bool, .sl 1 true, .sl 1 true, .sl 1 true, .str, .str, .sl 4 false, .bool, .sl 4 false, .sl 1 true, .sl 8 true, .sl 5 true, .sl 2 true, .int .i64, .int .i64, .int .i64, .int .i64, .sl 2 true, .sl 1 true, .bool])]
def G39 (F : T39) (β : Type) (e : (List UInt8 × List UInt8 × Bool × List V × List V × List V × List UInt8 × List UInt8 × List V × Bool × List V × List V × List V × List V × List V × Int × Int × Int × Int × List V × List V × Bool × Unit) × (List UInt8 × List UInt8 × Bool × List V × List V × List V × List UInt8 × List UInt8 × List V × Bool × List V × List V × List V × List V × List V × Int × Int × Int × Int × List V × List V × Bool × Unit) × Unit) (k : V → Option β) : Option β := let a0_0 := e.1; let a0_1 := a0_0.2; let a0_2 := a0_1.2; let a0_3 := a0_2.2; let a0_4 := a0_3.2; let a0_5 := a0_4.2; let a0_6 := a0_5.2; let a0_7 := a0_6.2; let a0_8 := a0_7.2; let a0_9 := a0_8.2; let a0_10 := a0_9.2; let a0_11 := a0_10.2; let a0_12 := a0_11.2; let a0_13 := a0_12.2; let a0_14 := a0_13.2; let a0_15 := a0_14.2; let a0_16 := a0_15.2; let a0_17 := a0_16.2; let a0_18 := a0_17.2; let a0_19 := a0_18.2; let a0_20 := a0_19.2; let a0_21 := a0_20.2; let a1_0 := e.2.1; let a1_1 := a1_0.2; let a1_2 := a1_1.2; let a1_3 := a1_2.2; let a1_4 := a1_3.2; let a1_5 := a1_4.2; let a1_6 := a1_5.2; let a1_7 := a1_6.2; let a1_8 := a1_7.2; let a1_9 := a1_8.2; let a1_10 := a1_9.2; let a1_11 := a1_10.2; let a1_12 := a1_11.2; let a1_13 := a1_12.2; let a1_14 := a1_13.2; let a1_15 := a1_14.2; let a1_16 := a1_15.2; let a1_17 := a1_16.2; let a1_18 := a1_17.2; let a1_19 := a1_18.2; let a1_20 := a1_19.2; let a1_21 := a1_20.2; F β a0_0.1 a0_1.1 a0_2.1 a0_3.1 a0_4.1 a0_5.1 a0_6.1 a0_7.1 a0_8.1 a0_9.1 a0_10.1 a0_11.1 a0_12.1 a0_13.1 a0_14.1 a0_15.1 a0_16.1 a0_17.1 a0_18.1 a0_19.1 a0_20.1 a0_21.1 a1_0.1 a1_1.1 a1_2.1 a1_3.1 a1_4.1 a1_5.1 a1_6.1 a1_7.1 a1_8.1 a1_9.1 a1_10.1 a1_11.1 a1_12.1 a1_13.1 a1_14.1 a1_15.1 a1_16.1 a1_17.1 a1_18.1 a1_19.1 a1_20.1 a1_21.1 (fun y1 => k (.bool y1))
abbrev W39 (F : T39) : WT := wrap s39 (G39 F)
theorem k39 (F108 : T108) (F109c110 : T109c110) (F111 : T111) (F112 : T112) (F113 : T113) (F114 : T114) (F115 : T115) (β : Type) (e : argsT s39) (k : V → Option β) : fnK cfg (tabL [(108, W108 F108), (109, W109c110 F109c110), (111, W111 F111), (112, W112 F112), (113, W113 F113), (114, W114 F114), (115, W115 F115)]) noX 39 Tryz.f39 β (argsEnc s39 e) k = G39 (P39 F108 F109c110 F111 F112 F113 F114 F115 ) β e k := by kernel_rfl
theorem ok39 : FnOk D 39 (W39 F39) := fn_okW [(108, W108 F108), (109, W109c110 F109c110), (111, W111 F111), (112, W112 F112), (113, W113 F113), (114, W114 F114), (115, W115 F115)] noX (fun _ => rfl) Tryz.func39 rfl (tabL_cons ok108 (tabL_cons ok109c110 (tabL_cons ok111 (tabL_cons ok112 (tabL_cons ok113 (tabL_cons ok114 (tabL_cons ok115 tabL_nil))))))) (k39 F108 F109c110 F111 F112 F113 F114 F115 )

/-- impl.equalVisits -/
abbrev T159 : Type 1 := (β : Type) → List UInt8 → List UInt8 → List UInt8 → List UInt8 → Bool → List V → List V → List V → List UInt8 → List UInt8 → List V → Bool → List V → List V → List V → List V → List V → Int → Int → Int → Int → List V → List V → Bool → Bool → List UInt8 → List UInt8 → List UInt8 → List UInt8 → Bool → List V → List V → List V → List UInt8 → List UInt8 → List V → Bool → List V → List V → List V → List V → List V → Int → Int → Int → Int → List V → List V → Bool → Bool → (Bool → Option β) → Option β
def P159 (F39 : T39) : T159 := fun β a_Addr_Host a_Addr_Path a_Page_Addr_Host a_Page_Addr_Path a_Page_Policy_Set a_Page_Policy_Scripts a_Page_Policy_Styles a_Page_Policy_Images a_Page_Policy_Nonce a_Page_Tok_Rest a_Page_Queue a_Page_Ended a_Page_Builder_Nodes a_Page_Builder_Open a_Page_Slots a_Page_Mods a_Page_Entries a_Page_Block a_Page_Inline a_Page_Deferred a_Page_Entered a_Page_Ran a_Page_Log a_Page_Loaded a_Kept b_Addr_Host b_Addr_Path b_Page_Addr_Host b_Page_Addr_Path b_Page_Policy_Set b_Page_Policy_Scripts b_Page_Policy_Styles b_Page_Policy_Images b_Page_Policy_Nonce b_Page_Tok_Rest b_Page_Queue b_Page_Ended b_Page_Builder_Nodes b_Page_Builder_Open b_Page_Slots b_Page_Mods b_Page_Entries b_Page_Block b_Page_Inline b_Page_Deferred b_Page_Entered b_Page_Ran b_Page_Log b_Page_Loaded b_Kept k =>
 br ((a_Addr_Host == b_Addr_Host) && ((a_Addr_Path == b_Addr_Path) && true)) (
 br (a_Kept == b_Kept) (
 F39 _ a_Page_Addr_Host a_Page_Addr_Path a_Page_Policy_Set a_Page_Policy_Scripts a_Page_Policy_Styles a_Page_Policy_Images a_Page_Policy_Nonce a_Page_Tok_Rest a_Page_Queue a_Page_Ended a_Page_Builder_Nodes a_Page_Builder_Open a_Page_Slots a_Page_Mods a_Page_Entries a_Page_Block a_Page_Inline a_Page_Deferred a_Page_Entered a_Page_Ran a_Page_Log a_Page_Loaded b_Page_Addr_Host b_Page_Addr_Path b_Page_Policy_Set b_Page_Policy_Scripts b_Page_Policy_Styles b_Page_Policy_Images b_Page_Policy_Nonce b_Page_Tok_Rest b_Page_Queue b_Page_Ended b_Page_Builder_Nodes b_Page_Builder_Open b_Page_Slots b_Page_Mods b_Page_Entries b_Page_Block b_Page_Inline b_Page_Deferred b_Page_Entered b_Page_Ran b_Page_Log b_Page_Loaded fun b1 =>
 k b1) (
 k false)) (
 k false)
def F159 : T159 := P159 F39 
abbrev s159 : List (Bool × List CK) := [(true, [.str, .str, .str, .str, .bool, .sl 1 true, .sl 1 true, .sl 1 true, .str, .str, .sl 4 false, .bool, .sl 4 false, .sl 1 true, .sl 8 true, .sl 5 true, .sl 2 true, .int .i64, .int .i64, .int .i64, .int .i64, .sl 2 true, .sl 1 true, .bool, .bool]), (true, [.str, .str, .str, .str, .bool, .sl 1 true, .sl 1 true, .sl 1 true, .str, .str, .sl 4 false, .bool, .sl 4 false, .sl 1 true, .sl 8 true, .sl 5 true, .sl 2 true, .int .i64, .int .i64, .int .i64, .int .i64, .sl 2 true, .sl 1 true, .bool, .bool])]
def G159 (F : T159) (β : Type) (e : (List UInt8 × List UInt8 × List UInt8 × List UInt8 × Bool × List V × List V × List V × List UInt8 × List UInt8 × List V × Bool × List V × List V × List V × List V × List V × Int × Int × Int × Int × List V × List V × Bool × Bool × Unit) × (List UInt8 × List UInt8 × List UInt8 × List UInt8 × Bool × List V × List V × List V × List UInt8 × List UInt8 × List V × Bool × List V × List V × List V × List V × List V × Int × Int × Int × Int × List V × List V × Bool × Bool × Unit) × Unit) (k : V → Option β) : Option β := let a0_0 := e.1; let a0_1 := a0_0.2; let a0_2 := a0_1.2; let a0_3 := a0_2.2; let a0_4 := a0_3.2; let a0_5 := a0_4.2; let a0_6 := a0_5.2; let a0_7 := a0_6.2; let a0_8 := a0_7.2; let a0_9 := a0_8.2; let a0_10 := a0_9.2; let a0_11 := a0_10.2; let a0_12 := a0_11.2; let a0_13 := a0_12.2; let a0_14 := a0_13.2; let a0_15 := a0_14.2; let a0_16 := a0_15.2; let a0_17 := a0_16.2; let a0_18 := a0_17.2; let a0_19 := a0_18.2; let a0_20 := a0_19.2; let a0_21 := a0_20.2; let a0_22 := a0_21.2; let a0_23 := a0_22.2; let a0_24 := a0_23.2; let a1_0 := e.2.1; let a1_1 := a1_0.2; let a1_2 := a1_1.2; let a1_3 := a1_2.2; let a1_4 := a1_3.2; let a1_5 := a1_4.2; let a1_6 := a1_5.2; let a1_7 := a1_6.2; let a1_8 := a1_7.2; let a1_9 := a1_8.2; let a1_10 := a1_9.2; let a1_11 := a1_10.2; let a1_12 := a1_11.2; let a1_13 := a1_12.2; let a1_14 := a1_13.2; let a1_15 := a1_14.2; let a1_16 := a1_15.2; let a1_17 := a1_16.2; let a1_18 := a1_17.2; let a1_19 := a1_18.2; let a1_20 := a1_19.2; let a1_21 := a1_20.2; let a1_22 := a1_21.2; let a1_23 := a1_22.2; let a1_24 := a1_23.2; F β a0_0.1 a0_1.1 a0_2.1 a0_3.1 a0_4.1 a0_5.1 a0_6.1 a0_7.1 a0_8.1 a0_9.1 a0_10.1 a0_11.1 a0_12.1 a0_13.1 a0_14.1 a0_15.1 a0_16.1 a0_17.1 a0_18.1 a0_19.1 a0_20.1 a0_21.1 a0_22.1 a0_23.1 a0_24.1 a1_0.1 a1_1.1 a1_2.1 a1_3.1 a1_4.1 a1_5.1 a1_6.1 a1_7.1 a1_8.1 a1_9.1 a1_10.1 a1_11.1 a1_12.1 a1_13.1 a1_14.1 a1_15.1 a1_16.1 a1_17.1 a1_18.1 a1_19.1 a1_20.1 a1_21.1 a1_22.1 a1_23.1 a1_24.1 (fun y1 => k (.bool y1))
abbrev W159 (F : T159) : WT := wrap s159 (G159 F)
theorem k159 (F39 : T39) (β : Type) (e : argsT s159) (k : V → Option β) : fnK cfg (tabL [(39, W39 F39)]) noX 159 Tryz.f159 β (argsEnc s159 e) k = G159 (P159 F39 ) β e k := by kernel_rfl
theorem ok159 : FnOk D 159 (W159 F159) := fn_okW [(39, W39 F39)] noX (fun _ => rfl) Tryz.func159 rfl (tabL_cons ok39 tabL_nil) (k159 F39 )

/-- slices.EqualFunc[[]impl.Visit,[]impl.Visit,impl.Visit,impl.Visit] -/
abbrev T158c159 : Type 1 := (β : Type) → List V → List V → (Bool → Option β) → Option β
def P158c159 (F159 : T159) : T158c159 := fun β s1 s2 k =>
 br ((s1.length : Int) != (s2.length : Int)) (
 k false) (
 whileK (fun s3 =>
 br (decide ((lI s3 3) < (lI s3 2))) (
 chk (0 ≤ (lI s3 3)) <|
 idx true [.str, .str, .str, .str, .bool, .sl 1 true, .sl 1 true, .sl 1 true, .str, .str, .sl 4 false, .bool, .sl 4 false, .sl 1 true, .sl 8 true, .sl 5 true, .sl 2 true, .int .i64, .int .i64, .int .i64, .int .i64, .sl 2 true, .sl 1 true, .bool, .bool] (lL s3 1) ((lI s3 3).toNat) fun (e4 : List UInt8 × List UInt8 × List UInt8 × List UInt8 × Bool × List V × List V × List V × List UInt8 × List UInt8 × List V × Bool × List V × List V × List V × List V × List V × Int × Int × Int × Int × List V × List V × Bool × Bool × Unit) =>
 chk (0 ≤ (lI s3 3)) <|
 idx true [.str, .str, .str, .str, .bool, .sl 1 true, .sl 1 true, .sl 1 true, .str, .str, .sl 4 false, .bool, .sl 4 false, .sl 1 true, .sl 8 true, .sl 5 true, .sl 2 true, .int .i64, .int .i64, .int .i64, .int .i64, .sl 2 true, .sl 1 true, .bool, .bool] (lL s3 0) ((lI s3 3).toNat) fun (e5 : List UInt8 × List UInt8 × List UInt8 × List UInt8 × Bool × List V × List V × List V × List UInt8 × List UInt8 × List V × Bool × List V × List V × List V × List V × List V × Int × Int × Int × Int × List V × List V × Bool × Bool × Unit) =>
 F159 _ e4.1 e4.2.1 e4.2.2.1 e4.2.2.2.1 e4.2.2.2.2.1 e4.2.2.2.2.2.1 e4.2.2.2.2.2.2.1 e4.2.2.2.2.2.2.2.1 e4.2.2.2.2.2.2.2.2.1 e4.2.2.2.2.2.2.2.2.2.1 e4.2.2.2.2.2.2.2.2.2.2.1 e4.2.2.2.2.2.2.2.2.2.2.2.1 e4.2.2.2.2.2.2.2.2.2.2.2.2.1 e4.2.2.2.2.2.2.2.2.2.2.2.2.2.1 e4.2.2.2.2.2.2.2.2.2.2.2.2.2.2.1 e4.2.2.2.2.2.2.2.2.2.2.2.2.2.2.2.1 e4.2.2.2.2.2.2.2.2.2.2.2.2.2.2.2.2.1 e4.2.2.2.2.2.2.2.2.2.2.2.2.2.2.2.2.2.1 e4.2.2.2.2.2.2.2.2.2.2.2.2.2.2.2.2.2.2.1 e4.2.2.2.2.2.2.2.2.2.2.2.2.2.2.2.2.2.2.2.1 e4.2.2.2.2.2.2.2.2.2.2.2.2.2.2.2.2.2.2.2.2.1 e4.2.2.2.2.2.2.2.2.2.2.2.2.2.2.2.2.2.2.2.2.2.1 e4.2.2.2.2.2.2.2.2.2.2.2.2.2.2.2.2.2.2.2.2.2.2.1 e4.2.2.2.2.2.2.2.2.2.2.2.2.2.2.2.2.2.2.2.2.2.2.2.1 e4.2.2.2.2.2.2.2.2.2.2.2.2.2.2.2.2.2.2.2.2.2.2.2.2.1 e5.1 e5.2.1 e5.2.2.1 e5.2.2.2.1 e5.2.2.2.2.1 e5.2.2.2.2.2.1 e5.2.2.2.2.2.2.1 e5.2.2.2.2.2.2.2.1 e5.2.2.2.2.2.2.2.2.1 e5.2.2.2.2.2.2.2.2.2.1 e5.2.2.2.2.2.2.2.2.2.2.1 e5.2.2.2.2.2.2.2.2.2.2.2.1 e5.2.2.2.2.2.2.2.2.2.2.2.2.1 e5.2.2.2.2.2.2.2.2.2.2.2.2.2.1 e5.2.2.2.2.2.2.2.2.2.2.2.2.2.2.1 e5.2.2.2.2.2.2.2.2.2.2.2.2.2.2.2.1 e5.2.2.2.2.2.2.2.2.2.2.2.2.2.2.2.2.1 e5.2.2.2.2.2.2.2.2.2.2.2.2.2.2.2.2.2.1 e5.2.2.2.2.2.2.2.2.2.2.2.2.2.2.2.2.2.2.1 e5.2.2.2.2.2.2.2.2.2.2.2.2.2.2.2.2.2.2.2.1 e5.2.2.2.2.2.2.2.2.2.2.2.2.2.2.2.2.2.2.2.2.1 e5.2.2.2.2.2.2.2.2.2.2.2.2.2.2.2.2.2.2.2.2.2.1 e5.2.2.2.2.2.2.2.2.2.2.2.2.2.2.2.2.2.2.2.2.2.2.1 e5.2.2.2.2.2.2.2.2.2.2.2.2.2.2.2.2.2.2.2.2.2.2.2.1 e5.2.2.2.2.2.2.2.2.2.2.2.2.2.2.2.2.2.2.2.2.2.2.2.2.1 fun b6 =>
 br (!b6) (
 some (.inr (0, [.b false]))) (
 some (.inl [.l (lL s3 0), .l (lL s3 1), .i (lI s3 2), .i (IntKind.wrap .i64 ((lI s3 3) + 1))]))) (
 some (.inr (1, [])))) [.l s2, .l s1, .i (s1.length : Int), .i 0] fun (r7 : Nat × List Leaf) =>
 if r7.1 = 0 then
 k (lB r7.2 0)
 else
 k true)
def F158c159 : T158c159 := P158c159 F159 
def X158c159 : Exits := fun i => lookN i [] [(4, [(.ret, xk 32 [(6, .bool false)] []), (.exit 0, xk 32 [] [])])]
def W158c159 (F : T158c159) : (β : Type) → List V → (V → Option β) → Option β := fun β args k => match args with
 | [.sl 25 false s1, .sl 25 false s2, .clo 159 []] => F β s1 s2 (fun y1 => k (.bool y1))
 | _ => none
theorem k158c159 (F159 : T159) {β : Type} (s1 : List V) (s2 : List V) (k : V → Option β) : fnK cfg (tabL [(159, W159 F159)]) X158c159 158 Tryz.f158 β [.sl 25 false s1, .sl 25 false s2, .clo 159 []] k = P158c159 F159 β s1 s2 (fun y1 => k (.bool y1)) := by kernel_rfl
theorem ok158c159 : FnOk D 158 (W158c159 F158c159) := fn_ok (l := [(159, W159 F159)]) (X := X158c159) (fun _ => rfl) Tryz.func158 rfl (tabL_cons ok159 tabL_nil) (fun β args k r h => by
 unfold W158c159 at h
 split at h
 · rw [← h]; exact k158c159 F159 _ _ k
 · cases h)
end
end Go.Am

/-
  Functions of the program, extracted by program (sym.py) out of their code: what each computes, and, by the kernel's reckoning, that the machine's looking form computes just that; so what the machine answers.
-/
import Derived.Test.YtlgbgnlpbnhhfaaGreatAmCfg
import Derived.Test.YtlgbgnlpbnhhfaaGreatAmEvOk2
import Derived.KernelRfl
set_option maxRecDepth 10000
set_option linter.unusedVariables false
namespace Go.Am
open Go Go.Proofs
noncomputable section
abbrev WT : Type 1 := (β : Type) → List V → (V → Option β) → Option β
/-- laws.szResponse -/
abbrev T160 : Type 1 := (β : Type) → Int → Int → List UInt8 → Int → Bool → List UInt8 → Int → (Int → Option β) → Option β
def P160 : T160 := fun β a_Status a_Kind a_Body a_Age a_Shares a_Policy left k =>
 br (decide (IntKind.wrap .i64 (left - (a_Body.length : Int)) < 0)) (
 k (-1)) (
 br (decide (IntKind.wrap .i64 ((IntKind.wrap .i64 (left - (a_Body.length : Int))) - (a_Policy.length : Int)) < 0)) (
 k (-1)) (
 k (IntKind.wrap .i64 ((IntKind.wrap .i64 (left - (a_Body.length : Int))) - (a_Policy.length : Int)))))
def F160 : T160 := P160 
abbrev s160 : List (Bool × List CK) := [(true, [.int .i64, .int .i64, .str, .int .i64, .bool, .str]), (false, [.int .i64])]
def G160 (F : T160) (β : Type) (e : (Int × Int × List UInt8 × Int × Bool × List UInt8 × Unit) × (Int × Unit) × Unit) (k : V → Option β) : Option β := let a0_0 := e.1; let a0_1 := a0_0.2; let a0_2 := a0_1.2; let a0_3 := a0_2.2; let a0_4 := a0_3.2; let a0_5 := a0_4.2; F β a0_0.1 a0_1.1 a0_2.1 a0_3.1 a0_4.1 a0_5.1 e.2.1.1 (fun y1 => k (.int .i64 y1))
abbrev W160 (F : T160) : WT := wrap s160 (G160 F)
theorem k160 (β : Type) (e : argsT s160) (k : V → Option β) : fnK cfg (tabL []) noX 160 Tryz.f160 β (argsEnc s160 e) k = G160 (P160 ) β e k := by kernel_rfl
theorem ok160 : FnOk D 160 (W160 F160) := fn_okW [] noX (fun _ => rfl) Tryz.func160 rfl (tabL_nil) (k160 )

/-- laws.szFile -/
abbrev T189 : Type 1 := (β : Type) → List UInt8 → Int → Int → List UInt8 → Int → Bool → List UInt8 → Int → (Int → Option β) → Option β
def P189 (F160 : T160) : T189 := fun β a_Path a_Response_Status a_Response_Kind a_Response_Body a_Response_Age a_Response_Shares a_Response_Policy left k =>
 br (decide (IntKind.wrap .i64 (left - (a_Path.length : Int)) < 0)) (
 k (-1)) (
 F160 _ a_Response_Status a_Response_Kind a_Response_Body a_Response_Age a_Response_Shares a_Response_Policy (IntKind.wrap .i64 (left - (a_Path.length : Int))) fun n1 =>
 br (decide (n1 < 0)) (
 k (-1)) (
 k n1))
def F189 : T189 := P189 F160 
abbrev s189 : List (Bool × List CK) := [(true, [.str, .int .i64, .int .i64, .str, .int .i64, .bool, .str]), (false, [.int .i64])]
def G189 (F : T189) (β : Type) (e : (List UInt8 × Int × Int × List UInt8 × Int × Bool × List UInt8 × Unit) × (Int × Unit) × Unit) (k : V → Option β) : Option β := let a0_0 := e.1; let a0_1 := a0_0.2; let a0_2 := a0_1.2; let a0_3 := a0_2.2; let a0_4 := a0_3.2; let a0_5 := a0_4.2; let a0_6 := a0_5.2; F β a0_0.1 a0_1.1 a0_2.1 a0_3.1 a0_4.1 a0_5.1 a0_6.1 e.2.1.1 (fun y1 => k (.int .i64 y1))
abbrev W189 (F : T189) : WT := wrap s189 (G189 F)
theorem k189 (F160 : T160) (β : Type) (e : argsT s189) (k : V → Option β) : fnK cfg (tabL [(160, W160 F160)]) noX 189 Tryz.f189 β (argsEnc s189 e) k = G189 (P189 F160 ) β e k := by kernel_rfl
theorem ok189 : FnOk D 189 (W189 F189) := fn_okW [(160, W160 F160)] noX (fun _ => rfl) Tryz.func189 rfl (tabL_cons ok160 tabL_nil) (k189 F160 )

/-- laws.szFileS -/
abbrev T161 : Type 1 := (β : Type) → List V → Int → (Int → Option β) → Option β
def P161 (F189 : T189) : T161 := fun β a left k =>
 br (decide (IntKind.wrap .i64 (left - (a.length : Int)) < 0)) (
 k (-1)) (
 whileK (fun s1 =>
 br (decide ((lI s1 2) < ((lL s1 0).length : Int))) (
 chk (0 ≤ (lI s1 2)) <|
 idx true [.str, .int .i64, .int .i64, .str, .int .i64, .bool, .str] (lL s1 0) ((lI s1 2).toNat) fun (e2 : List UInt8 × Int × Int × List UInt8 × Int × Bool × List UInt8 × Unit) =>
 F189 _ e2.1 e2.2.1 e2.2.2.1 e2.2.2.2.1 e2.2.2.2.2.1 e2.2.2.2.2.2.1 e2.2.2.2.2.2.2.1 (lI s1 1) fun n3 =>
 br (decide (n3 < 0)) (
 some (.inr (0, [.i n3, .i (-1)]))) (
 some (.inl [.l (lL s1 0), .i n3, .i (IntKind.wrap .i64 ((lI s1 2) + 1))]))) (
 some (.inr (1, [.i (lI s1 1)])))) [.l a, .i (IntKind.wrap .i64 (left - (a.length : Int))), .i 0] fun (r4 : Nat × List Leaf) =>
 if r4.1 = 0 then
 k (lI r4.2 1)
 else
 k (lI r4.2 0))
def F161 : T161 := P161 F189 
def X161 : Exits := fun i => lookN i [] [(5, [(.ret, xk 27 [(1, .int .i64 0), (4, .int .i64 0)] []), (.exit 0, xk 27 [(1, .int .i64 0)] [])])]
abbrev s161 : List (Bool × List CK) := [(false, [.sl 7 true]), (false, [.int .i64])]
def G161 (F : T161) (β : Type) (e : (List V × Unit) × (Int × Unit) × Unit) (k : V → Option β) : Option β := F β e.1.1 e.2.1.1 (fun y1 => k (.int .i64 y1))
abbrev W161 (F : T161) : WT := wrap s161 (G161 F)
theorem k161 (F189 : T189) (β : Type) (e : argsT s161) (k : V → Option β) : fnK cfg (tabL [(189, W189 F189)]) X161 161 Tryz.f161 β (argsEnc s161 e) k = G161 (P161 F189 ) β e k := by kernel_rfl
theorem ok161 : FnOk D 161 (W161 F161) := fn_okW [(189, W189 F189)] X161 (fun _ => rfl) Tryz.func161 rfl (tabL_cons ok189 tabL_nil) (k161 F189 )

/-- laws.szServer -/
abbrev T99 : Type 1 := (β : Type) → List UInt8 → List V → Int → (Int → Option β) → Option β
def P99 (F161 : T161) : T99 := fun β a_Host a_Files left k =>
 br (decide (IntKind.wrap .i64 (left - (a_Host.length : Int)) < 0)) (
 k (-1)) (
 F161 _ a_Files (IntKind.wrap .i64 (left - (a_Host.length : Int))) fun n1 =>
 br (decide (n1 < 0)) (
 k (-1)) (
 k n1))
def F99 : T99 := P99 F161 
abbrev s99 : List (Bool × List CK) := [(true, [.str, .sl 7 true]), (false, [.int .i64])]
def G99 (F : T99) (β : Type) (e : (List UInt8 × List V × Unit) × (Int × Unit) × Unit) (k : V → Option β) : Option β := F β e.1.1 e.1.2.1 e.2.1.1 (fun y1 => k (.int .i64 y1))
abbrev W99 (F : T99) : WT := wrap s99 (G99 F)
theorem k99 (F161 : T161) (β : Type) (e : argsT s99) (k : V → Option β) : fnK cfg (tabL [(161, W161 F161)]) noX 99 Tryz.f99 β (argsEnc s99 e) k = G99 (P99 F161 ) β e k := by kernel_rfl
theorem ok99 : FnOk D 99 (W99 F99) := fn_okW [(161, W161 F161)] noX (fun _ => rfl) Tryz.func99 rfl (tabL_cons ok161 tabL_nil) (k99 F161 )

/-- laws.szServerS -/
abbrev T34 : Type 1 := (β : Type) → List V → Int → (Int → Option β) → Option β
def P34 (F99 : T99) : T34 := fun β a left k =>
 br (decide (IntKind.wrap .i64 (left - (a.length : Int)) < 0)) (
 k (-1)) (
 whileK (fun s1 =>
 br (decide ((lI s1 2) < ((lL s1 0).length : Int))) (
 chk (0 ≤ (lI s1 2)) <|
 idx true [.str, .sl 7 true] (lL s1 0) ((lI s1 2).toNat) fun (e2 : List UInt8 × List V × Unit) =>
 F99 _ e2.1 e2.2.1 (lI s1 1) fun n3 =>
 br (decide (n3 < 0)) (
 some (.inr (0, [.i n3, .i (-1)]))) (
 some (.inl [.l (lL s1 0), .i n3, .i (IntKind.wrap .i64 ((lI s1 2) + 1))]))) (
 some (.inr (1, [.i (lI s1 1)])))) [.l a, .i (IntKind.wrap .i64 (left - (a.length : Int))), .i 0] fun (r4 : Nat × List Leaf) =>
 if r4.1 = 0 then
 k (lI r4.2 1)
 else
 k (lI r4.2 0))
def F34 : T34 := P34 F99 
def X34 : Exits := fun i => lookN i [] [(5, [(.ret, xk 27 [(1, .int .i64 0), (4, .int .i64 0)] []), (.exit 0, xk 27 [(1, .int .i64 0)] [])])]
abbrev s34 : List (Bool × List CK) := [(false, [.sl 2 false]), (false, [.int .i64])]
def G34 (F : T34) (β : Type) (e : (List V × Unit) × (Int × Unit) × Unit) (k : V → Option β) : Option β := F β e.1.1 e.2.1.1 (fun y1 => k (.int .i64 y1))
abbrev W34 (F : T34) : WT := wrap s34 (G34 F)
theorem k34 (F99 : T99) (β : Type) (e : argsT s34) (k : V → Option β) : fnK cfg (tabL [(99, W99 F99)]) X34 34 Tryz.f34 β (argsEnc s34 e) k = G34 (P34 F99 ) β e k := by kernel_rfl
theorem ok34 : FnOk D 34 (W34 F34) := fn_okW [(99, W99 F99)] X34 (fun _ => rfl) Tryz.func34 rfl (tabL_cons ok99 tabL_nil) (k34 F99 )

/-- laws.szAddr -/
abbrev T50 : Type 1 := (β : Type) → List UInt8 → List UInt8 → Int → (Int → Option β) → Option β
def P50 : T50 := fun β a_Host a_Path left k =>
 br (decide (IntKind.wrap .i64 (left - (a_Host.length : Int)) < 0)) (
 k (-1)) (
 br (decide (IntKind.wrap .i64 ((IntKind.wrap .i64 (left - (a_Host.length : Int))) - (a_Path.length : Int)) < 0)) (
 k (-1)) (
 k (IntKind.wrap .i64 ((IntKind.wrap .i64 (left - (a_Host.length : Int))) - (a_Path.length : Int)))))
def F50 : T50 := P50 
abbrev s50 : List (Bool × List CK) := [(true, [.str, .str]), (false, [.int .i64])]
def G50 (F : T50) (β : Type) (e : (List UInt8 × List UInt8 × Unit) × (Int × Unit) × Unit) (k : V → Option β) : Option β := F β e.1.1 e.1.2.1 e.2.1.1 (fun y1 => k (.int .i64 y1))
abbrev W50 (F : T50) : WT := wrap s50 (G50 F)
theorem k50 (β : Type) (e : argsT s50) (k : V → Option β) : fnK cfg (tabL []) noX 50 Tryz.f50 β (argsEnc s50 e) k = G50 (P50 ) β e k := by kernel_rfl
theorem ok50 : FnOk D 50 (W50 F50) := fn_okW [] noX (fun _ => rfl) Tryz.func50 rfl (tabL_nil) (k50 )

/-- laws.szEntry -/
abbrev T174 : Type 1 := (β : Type) → List UInt8 → List UInt8 → List UInt8 → Int → Int → List UInt8 → Int → Bool → List UInt8 → Int → Int → (Int → Option β) → Option β
def P174 (F50 : T50) (F160 : T160) : T174 := fun β a_Top a_To_Host a_To_Path a_Response_Status a_Response_Kind a_Response_Body a_Response_Age a_Response_Shares a_Response_Policy a_Until left k =>
 br (decide (IntKind.wrap .i64 (left - (a_Top.length : Int)) < 0)) (
 k (-1)) (
 F50 _ a_To_Host a_To_Path (IntKind.wrap .i64 (left - (a_Top.length : Int))) fun n1 =>
 br (decide (n1 < 0)) (
 k (-1)) (
 F160 _ a_Response_Status a_Response_Kind a_Response_Body a_Response_Age a_Response_Shares a_Response_Policy n1 fun n2 =>
 br (decide (n2 < 0)) (
 k (-1)) (
 k n2)))
def F174 : T174 := P174 F50 F160 
abbrev s174 : List (Bool × List CK) := [(true, [.str, .str, .str, .int .i64, .int .i64, .str, .int .i64, .bool, .str, .int .i64]), (false, [.int .i64])]
def G174 (F : T174) (β : Type) (e : (List UInt8 × List UInt8 × List UInt8 × Int × Int × List UInt8 × Int × Bool × List UInt8 × Int × Unit) × (Int × Unit) × Unit) (k : V → Option β) : Option β := let a0_0 := e.1; let a0_1 := a0_0.2; let a0_2 := a0_1.2; let a0_3 := a0_2.2; let a0_4 := a0_3.2; let a0_5 := a0_4.2; let a0_6 := a0_5.2; let a0_7 := a0_6.2; let a0_8 := a0_7.2; let a0_9 := a0_8.2; F β a0_0.1 a0_1.1 a0_2.1 a0_3.1 a0_4.1 a0_5.1 a0_6.1 a0_7.1 a0_8.1 a0_9.1 e.2.1.1 (fun y1 => k (.int .i64 y1))
abbrev W174 (F : T174) : WT := wrap s174 (G174 F)
theorem k174 (F50 : T50) (F160 : T160) (β : Type) (e : argsT s174) (k : V → Option β) : fnK cfg (tabL [(50, W50 F50), (160, W160 F160)]) noX 174 Tryz.f174 β (argsEnc s174 e) k = G174 (P174 F50 F160 ) β e k := by kernel_rfl
theorem ok174 : FnOk D 174 (W174 F174) := fn_okW [(50, W50 F50), (160, W160 F160)] noX (fun _ => rfl) Tryz.func174 rfl (tabL_cons ok50 (tabL_cons ok160 tabL_nil)) (k174 F50 F160 )

/-- laws.szEntryS -/
abbrev T121 : Type 1 := (β : Type) → List V → Int → (Int → Option β) → Option β
def P121 (F174 : T174) : T121 := fun β a left k =>
 br (decide (IntKind.wrap .i64 (left - (a.length : Int)) < 0)) (
 k (-1)) (
 whileK (fun s1 =>
 br (decide ((lI s1 2) < ((lL s1 0).length : Int))) (
 chk (0 ≤ (lI s1 2)) <|
 idx true [.str, .str, .str, .int .i64, .int .i64, .str, .int .i64, .bool, .str, .int .i64] (lL s1 0) ((lI s1 2).toNat) fun (e2 : List UInt8 × List UInt8 × List UInt8 × Int × Int × List UInt8 × Int × Bool × List UInt8 × Int × Unit) =>
 F174 _ e2.1 e2.2.1 e2.2.2.1 e2.2.2.2.1 e2.2.2.2.2.1 e2.2.2.2.2.2.1 e2.2.2.2.2.2.2.1 e2.2.2.2.2.2.2.2.1 e2.2.2.2.2.2.2.2.2.1 e2.2.2.2.2.2.2.2.2.2.1 (lI s1 1) fun n3 =>
 br (decide (n3 < 0)) (
 some (.inr (0, [.i n3, .i (-1)]))) (
 some (.inl [.l (lL s1 0), .i n3, .i (IntKind.wrap .i64 ((lI s1 2) + 1))]))) (
 some (.inr (1, [.i (lI s1 1)])))) [.l a, .i (IntKind.wrap .i64 (left - (a.length : Int))), .i 0] fun (r4 : Nat × List Leaf) =>
 if r4.1 = 0 then
 k (lI r4.2 1)
 else
 k (lI r4.2 0))
def F121 : T121 := P121 F174 
def X121 : Exits := fun i => lookN i [] [(5, [(.ret, xk 27 [(1, .int .i64 0), (4, .int .i64 0)] []), (.exit 0, xk 27 [(1, .int .i64 0)] [])])]
abbrev s121 : List (Bool × List CK) := [(false, [.sl 10 true]), (false, [.int .i64])]
def G121 (F : T121) (β : Type) (e : (List V × Unit) × (Int × Unit) × Unit) (k : V → Option β) : Option β := F β e.1.1 e.2.1.1 (fun y1 => k (.int .i64 y1))
abbrev W121 (F : T121) : WT := wrap s121 (G121 F)
theorem k121 (F174 : T174) (β : Type) (e : argsT s121) (k : V → Option β) : fnK cfg (tabL [(174, W174 F174)]) X121 121 Tryz.f121 β (argsEnc s121 e) k = G121 (P121 F174 ) β e k := by kernel_rfl
theorem ok121 : FnOk D 121 (W121 F121) := fn_okW [(174, W174 F174)] X121 (fun _ => rfl) Tryz.func121 rfl (tabL_cons ok174 tabL_nil) (k121 F174 )

/-- laws.szCache -/
abbrev T44 : Type 1 := (β : Type) → List V → Int → (Int → Option β) → Option β
def P44 (F121 : T121) : T44 := fun β a_Entries left k =>
 F121 _ a_Entries left fun n1 =>
 br (decide (n1 < 0)) (
 k (-1)) (
 k n1)
def F44 : T44 := P44 F121 
abbrev s44 : List (Bool × List CK) := [(true, [.sl 10 true]), (false, [.int .i64])]
def G44 (F : T44) (β : Type) (e : (List V × Unit) × (Int × Unit) × Unit) (k : V → Option β) : Option β := F β e.1.1 e.2.1.1 (fun y1 => k (.int .i64 y1))
abbrev W44 (F : T44) : WT := wrap s44 (G44 F)
theorem k44 (F121 : T121) (β : Type) (e : argsT s44) (k : V → Option β) : fnK cfg (tabL [(121, W121 F121)]) noX 44 Tryz.f44 β (argsEnc s44 e) k = G44 (P44 F121 ) β e k := by kernel_rfl
theorem ok44 : FnOk D 44 (W44 F44) := fn_okW [(121, W121 F121)] noX (fun _ => rfl) Tryz.func44 rfl (tabL_cons ok121 tabL_nil) (k44 F121 )

/-- laws.szSent -/
abbrev T122 : Type 1 := (β : Type) → List UInt8 → List UInt8 → List UInt8 → Bool → Int → (Int → Option β) → Option β
def P122 (F50 : T50) : T122 := fun β a_Top a_To_Host a_To_Path a_Guess left k =>
 br (decide (IntKind.wrap .i64 (left - (a_Top.length : Int)) < 0)) (
 k (-1)) (
 F50 _ a_To_Host a_To_Path (IntKind.wrap .i64 (left - (a_Top.length : Int))) fun n1 =>
 br (decide (n1 < 0)) (
 k (-1)) (
 k n1))
def F122 : T122 := P122 F50 
abbrev s122 : List (Bool × List CK) := [(true, [.str, .str, .str, .bool]), (false, [.int .i64])]
def G122 (F : T122) (β : Type) (e : (List UInt8 × List UInt8 × List UInt8 × Bool × Unit) × (Int × Unit) × Unit) (k : V → Option β) : Option β := F β e.1.1 e.1.2.1 e.1.2.2.1 e.1.2.2.2.1 e.2.1.1 (fun y1 => k (.int .i64 y1))
abbrev W122 (F : T122) : WT := wrap s122 (G122 F)
theorem k122 (F50 : T50) (β : Type) (e : argsT s122) (k : V → Option β) : fnK cfg (tabL [(50, W50 F50)]) noX 122 Tryz.f122 β (argsEnc s122 e) k = G122 (P122 F50 ) β e k := by kernel_rfl
theorem ok122 : FnOk D 122 (W122 F122) := fn_okW [(50, W50 F50)] noX (fun _ => rfl) Tryz.func122 rfl (tabL_cons ok50 tabL_nil) (k122 F50 )

/-- laws.szSentS -/
abbrev T45 : Type 1 := (β : Type) → List V → Int → (Int → Option β) → Option β
def P45 (F122 : T122) : T45 := fun β a left k =>
 br (decide (IntKind.wrap .i64 (left - (a.length : Int)) < 0)) (
 k (-1)) (
 whileK (fun s1 =>
 br (decide ((lI s1 2) < ((lL s1 0).length : Int))) (
 chk (0 ≤ (lI s1 2)) <|
 idx true [.str, .str, .str, .bool] (lL s1 0) ((lI s1 2).toNat) fun (e2 : List UInt8 × List UInt8 × List UInt8 × Bool × Unit) =>
 F122 _ e2.1 e2.2.1 e2.2.2.1 e2.2.2.2.1 (lI s1 1) fun n3 =>
 br (decide (n3 < 0)) (
 some (.inr (0, [.i n3, .i (-1)]))) (
 some (.inl [.l (lL s1 0), .i n3, .i (IntKind.wrap .i64 ((lI s1 2) + 1))]))) (
 some (.inr (1, [.i (lI s1 1)])))) [.l a, .i (IntKind.wrap .i64 (left - (a.length : Int))), .i 0] fun (r4 : Nat × List Leaf) =>
 if r4.1 = 0 then
 k (lI r4.2 1)
 else
 k (lI r4.2 0))
def F45 : T45 := P45 F122 
def X45 : Exits := fun i => lookN i [] [(5, [(.ret, xk 27 [(1, .int .i64 0), (4, .int .i64 0)] []), (.exit 0, xk 27 [(1, .int .i64 0)] [])])]
abbrev s45 : List (Bool × List CK) := [(false, [.sl 4 true]), (false, [.int .i64])]
def G45 (F : T45) (β : Type) (e : (List V × Unit) × (Int × Unit) × Unit) (k : V → Option β) : Option β := F β e.1.1 e.2.1.1 (fun y1 => k (.int .i64 y1))
abbrev W45 (F : T45) : WT := wrap s45 (G45 F)
theorem k45 (F122 : T122) (β : Type) (e : argsT s45) (k : V → Option β) : fnK cfg (tabL [(122, W122 F122)]) X45 45 Tryz.f45 β (argsEnc s45 e) k = G45 (P45 F122 ) β e k := by kernel_rfl
theorem ok45 : FnOk D 45 (W45 F45) := fn_okW [(122, W122 F122)] X45 (fun _ => rfl) Tryz.func45 rfl (tabL_cons ok122 tabL_nil) (k45 F122 )

/-- laws.szNet -/
abbrev T13 : Type 1 := (β : Type) → List V → List V → List V → Int → Int → (Int → Option β) → Option β
def P13 (F34 : T34) (F44 : T44) (F45 : T45) : T13 := fun β a_Servers a_Cache_Entries a_Log a_Now left k =>
 F34 _ a_Servers left fun n1 =>
 br (decide (n1 < 0)) (
 k (-1)) (
 F44 _ a_Cache_Entries n1 fun n2 =>
 br (decide (n2 < 0)) (
 k (-1)) (
 F45 _ a_Log n2 fun n3 =>
 br (decide (n3 < 0)) (
 k (-1)) (
 k n3)))
def F13 : T13 := P13 F34 F44 F45 
abbrev s13 : List (Bool × List CK) := [(true, [.sl 2 false, .sl 10 true, .sl 4 true, .int .i64]), (false, [.int .i64])]
def G13 (F : T13) (β : Type) (e : (List V × List V × List V × Int × Unit) × (Int × Unit) × Unit) (k : V → Option β) : Option β := F β e.1.1 e.1.2.1 e.1.2.2.1 e.1.2.2.2.1 e.2.1.1 (fun y1 => k (.int .i64 y1))
abbrev W13 (F : T13) : WT := wrap s13 (G13 F)
theorem k13 (F34 : T34) (F44 : T44) (F45 : T45) (β : Type) (e : argsT s13) (k : V → Option β) : fnK cfg (tabL [(34, W34 F34), (44, W44 F44), (45, W45 F45)]) noX 13 Tryz.f13 β (argsEnc s13 e) k = G13 (P13 F34 F44 F45 ) β e k := by kernel_rfl
theorem ok13 : FnOk D 13 (W13 F13) := fn_okW [(34, W34 F34), (44, W44 F44), (45, W45 F45)] noX (fun _ => rfl) Tryz.func13 rfl (tabL_cons ok34 (tabL_cons ok44 (tabL_cons ok45 tabL_nil))) (k13 F34 F44 F45 )

/-- laws.szStringS -/
abbrev T58 : Type 1 := (β : Type) → List V → Int → (Int → Option β) → Option β
def P58 : T58 := fun β a left k =>
 br (decide (IntKind.wrap .i64 (left - (a.length : Int)) < 0)) (
 k (-1)) (
 whileK (fun s1 =>
 br (decide ((lI s1 2) < ((lL s1 0).length : Int))) (
 chk (0 ≤ (lI s1 2)) <|
 idx false [.str] (lL s1 0) ((lI s1 2).toNat) fun (e2 : List UInt8 × Unit) =>
 br (decide (IntKind.wrap .i64 ((lI s1 1) - (e2.1.length : Int)) < 0)) (
 some (.inr (0, [.i (IntKind.wrap .i64 ((lI s1 1) - (e2.1.length : Int))), .i (-1)]))) (
 some (.inl [.l (lL s1 0), .i (IntKind.wrap .i64 ((lI s1 1) - (e2.1.length : Int))), .i (IntKind.wrap .i64 ((lI s1 2) + 1))]))) (
 some (.inr (1, [.i (lI s1 1)])))) [.l a, .i (IntKind.wrap .i64 (left - (a.length : Int))), .i 0] fun (r3 : Nat × List Leaf) =>
 if r3.1 = 0 then
 k (lI r3.2 1)
 else
 k (lI r3.2 0))
def F58 : T58 := P58 
def X58 : Exits := fun i => lookN i [] [(5, [(.ret, xk 28 [(1, .int .i64 0), (4, .int .i64 0)] []), (.exit 0, xk 28 [(1, .int .i64 0)] [])])]
abbrev s58 : List (Bool × List CK) := [(false, [.sl 1 true]), (false, [.int .i64])]
def G58 (F : T58) (β : Type) (e : (List V × Unit) × (Int × Unit) × Unit) (k : V → Option β) : Option β := F β e.1.1 e.2.1.1 (fun y1 => k (.int .i64 y1))
abbrev W58 (F : T58) : WT := wrap s58 (G58 F)
theorem k58 (β : Type) (e : argsT s58) (k : V → Option β) : fnK cfg (tabL []) X58 58 Tryz.f58 β (argsEnc s58 e) k = G58 (P58 ) β e k := by kernel_rfl
theorem ok58 : FnOk D 58 (W58 F58) := fn_okW [] X58 (fun _ => rfl) Tryz.func58 rfl (tabL_nil) (k58 )

/-- laws.szPolicy -/
abbrev T51 : Type 1 := (β : Type) → Bool → List V → List V → List V → List UInt8 → Int → (Int → Option β) → Option β
def P51 (F58 : T58) : T51 := fun β a_Set a_Scripts a_Styles a_Images a_Nonce left k =>
 F58 _ a_Scripts left fun n1 =>
 br (decide (n1 < 0)) (
 k (-1)) (
 F58 _ a_Styles n1 fun n2 =>
 br (decide (n2 < 0)) (
 k (-1)) (
 F58 _ a_Images n2 fun n3 =>
 br (decide (n3 < 0)) (
 k (-1)) (
 br (decide (IntKind.wrap .i64 (n3 - (a_Nonce.length : Int)) < 0)) (
 k (-1)) (
 k (IntKind.wrap .i64 (n3 - (a_Nonce.length : Int)))))))
def F51 : T51 := P51 F58 
abbrev s51 : List (Bool × List CK) := [(true, [.bool, .sl 1 true, .sl 1 true, .sl 1 true, .str]), (false, [.int .i64])]
def G51 (F : T51) (β : Type) (e : (Bool × List V × List V × List V × List UInt8 × Unit) × (Int × Unit) × Unit) (k : V → Option β) : Option β := let a0_0 := e.1; let a0_1 := a0_0.2; let a0_2 := a0_1.2; let a0_3 := a0_2.2; let a0_4 := a0_3.2; F β a0_0.1 a0_1.1 a0_2.1 a0_3.1 a0_4.1 e.2.1.1 (fun y1 => k (.int .i64 y1))
abbrev W51 (F : T51) : WT := wrap s51 (G51 F)
theorem k51 (F58 : T58) (β : Type) (e : argsT s51) (k : V → Option β) : fnK cfg (tabL [(58, W58 F58)]) noX 51 Tryz.f51 β (argsEnc s51 e) k = G51 (P51 F58 ) β e k := by kernel_rfl
theorem ok51 : FnOk D 51 (W51 F51) := fn_okW [(58, W58 F58)] noX (fun _ => rfl) Tryz.func51 rfl (tabL_cons ok58 tabL_nil) (k51 F58 )

/-- laws.szTokenizer -/
abbrev T52 : Type 1 := (β : Type) → List UInt8 → Int → (Int → Option β) → Option β
def P52 : T52 := fun β a_Rest left k =>
 br (decide (IntKind.wrap .i64 (left - (a_Rest.length : Int)) < 0)) (
 k (-1)) (
 k (IntKind.wrap .i64 (left - (a_Rest.length : Int))))
def F52 : T52 := P52 
abbrev s52 : List (Bool × List CK) := [(true, [.str]), (false, [.int .i64])]
def G52 (F : T52) (β : Type) (e : (List UInt8 × Unit) × (Int × Unit) × Unit) (k : V → Option β) : Option β := F β e.1.1 e.2.1.1 (fun y1 => k (.int .i64 y1))
abbrev W52 (F : T52) : WT := wrap s52 (G52 F)
theorem k52 (β : Type) (e : argsT s52) (k : V → Option β) : fnK cfg (tabL []) noX 52 Tryz.f52 β (argsEnc s52 e) k = G52 (P52 ) β e k := by kernel_rfl
theorem ok52 : FnOk D 52 (W52 F52) := fn_okW [] noX (fun _ => rfl) Tryz.func52 rfl (tabL_nil) (k52 )

/-- laws.szAttr -/
abbrev T192 : Type 1 := (β : Type) → List UInt8 → List UInt8 → Int → (Int → Option β) → Option β
def P192 : T192 := fun β a_Name a_Value left k =>
 br (decide (IntKind.wrap .i64 (left - (a_Name.length : Int)) < 0)) (
 k (-1)) (
 br (decide (IntKind.wrap .i64 ((IntKind.wrap .i64 (left - (a_Name.length : Int))) - (a_Value.length : Int)) < 0)) (
 k (-1)) (
 k (IntKind.wrap .i64 ((IntKind.wrap .i64 (left - (a_Name.length : Int))) - (a_Value.length : Int)))))
def F192 : T192 := P192 
abbrev s192 : List (Bool × List CK) := [(true, [.str, .str]), (false, [.int .i64])]
def G192 (F : T192) (β : Type) (e : (List UInt8 × List UInt8 × Unit) × (Int × Unit) × Unit) (k : V → Option β) : Option β := F β e.1.1 e.1.2.1 e.2.1.1 (fun y1 => k (.int .i64 y1))
abbrev W192 (F : T192) : WT := wrap s192 (G192 F)
theorem k192 (β : Type) (e : argsT s192) (k : V → Option β) : fnK cfg (tabL []) noX 192 Tryz.f192 β (argsEnc s192 e) k = G192 (P192 ) β e k := by kernel_rfl
theorem ok192 : FnOk D 192 (W192 F192) := fn_okW [] noX (fun _ => rfl) Tryz.func192 rfl (tabL_nil) (k192 )

/-- laws.szAttrS -/
abbrev T177 : Type 1 := (β : Type) → List V → Int → (Int → Option β) → Option β
def P177 (F192 : T192) : T177 := fun β a left k =>
 br (decide (IntKind.wrap .i64 (left - (a.length : Int)) < 0)) (
 k (-1)) (
 whileK (fun s1 =>
 br (decide ((lI s1 2) < ((lL s1 0).length : Int))) (
 chk (0 ≤ (lI s1 2)) <|
 idx true [.str, .str] (lL s1 0) ((lI s1 2).toNat) fun (e2 : List UInt8 × List UInt8 × Unit) =>
 F192 _ e2.1 e2.2.1 (lI s1 1) fun n3 =>
 br (decide (n3 < 0)) (
 some (.inr (0, [.i n3, .i (-1)]))) (
 some (.inl [.l (lL s1 0), .i n3, .i (IntKind.wrap .i64 ((lI s1 2) + 1))]))) (
 some (.inr (1, [.i (lI s1 1)])))) [.l a, .i (IntKind.wrap .i64 (left - (a.length : Int))), .i 0] fun (r4 : Nat × List Leaf) =>
 if r4.1 = 0 then
 k (lI r4.2 1)
 else
 k (lI r4.2 0))
def F177 : T177 := P177 F192 
def X177 : Exits := fun i => lookN i [] [(5, [(.ret, xk 27 [(1, .int .i64 0), (4, .int .i64 0)] []), (.exit 0, xk 27 [(1, .int .i64 0)] [])])]
abbrev s177 : List (Bool × List CK) := [(false, [.sl 2 true]), (false, [.int .i64])]
def G177 (F : T177) (β : Type) (e : (List V × Unit) × (Int × Unit) × Unit) (k : V → Option β) : Option β := F β e.1.1 e.2.1.1 (fun y1 => k (.int .i64 y1))
abbrev W177 (F : T177) : WT := wrap s177 (G177 F)
theorem k177 (F192 : T192) (β : Type) (e : argsT s177) (k : V → Option β) : fnK cfg (tabL [(192, W192 F192)]) X177 177 Tryz.f177 β (argsEnc s177 e) k = G177 (P177 F192 ) β e k := by kernel_rfl
theorem ok177 : FnOk D 177 (W177 F177) := fn_okW [(192, W192 F192)] X177 (fun _ => rfl) Tryz.func177 rfl (tabL_cons ok192 tabL_nil) (k177 F192 )

/-- laws.szToken -/
abbrev T127 : Type 1 := (β : Type) → Int → List UInt8 → List V → List UInt8 → Int → (Int → Option β) → Option β
def P127 (F177 : T177) : T127 := fun β a_Kind a_Name a_Attrs a_Text left k =>
 br (decide (IntKind.wrap .i64 (left - (a_Name.length : Int)) < 0)) (
 k (-1)) (
 F177 _ a_Attrs (IntKind.wrap .i64 (left - (a_Name.length : Int))) fun n1 =>
 br (decide (n1 < 0)) (
 k (-1)) (
 br (decide (IntKind.wrap .i64 (n1 - (a_Text.length : Int)) < 0)) (
 k (-1)) (
 k (IntKind.wrap .i64 (n1 - (a_Text.length : Int))))))
def F127 : T127 := P127 F177 
abbrev s127 : List (Bool × List CK) := [(true, [.int .i64, .str, .sl 2 true, .str]), (false, [.int .i64])]
def G127 (F : T127) (β : Type) (e : (Int × List UInt8 × List V × List UInt8 × Unit) × (Int × Unit) × Unit) (k : V → Option β) : Option β := F β e.1.1 e.1.2.1 e.1.2.2.1 e.1.2.2.2.1 e.2.1.1 (fun y1 => k (.int .i64 y1))
abbrev W127 (F : T127) : WT := wrap s127 (G127 F)
theorem k127 (F177 : T177) (β : Type) (e : argsT s127) (k : V → Option β) : fnK cfg (tabL [(177, W177 F177)]) noX 127 Tryz.f127 β (argsEnc s127 e) k = G127 (P127 F177 ) β e k := by kernel_rfl
theorem ok127 : FnOk D 127 (W127 F127) := fn_okW [(177, W177 F177)] noX (fun _ => rfl) Tryz.func127 rfl (tabL_cons ok177 tabL_nil) (k127 F177 )

/-- laws.szTokenS -/
abbrev T53 : Type 1 := (β : Type) → List V → Int → (Int → Option β) → Option β
def P53 (F127 : T127) : T53 := fun β a left k =>
 br (decide (IntKind.wrap .i64 (left - (a.length : Int)) < 0)) (
 k (-1)) (
 whileK (fun s1 =>
 br (decide ((lI s1 2) < ((lL s1 0).length : Int))) (
 chk (0 ≤ (lI s1 2)) <|
 idx true [.int .i64, .str, .sl 2 true, .str] (lL s1 0) ((lI s1 2).toNat) fun (e2 : Int × List UInt8 × List V × List UInt8 × Unit) =>
 F127 _ e2.1 e2.2.1 e2.2.2.1 e2.2.2.2.1 (lI s1 1) fun n3 =>
 br (decide (n3 < 0)) (
 some (.inr (0, [.i n3, .i (-1)]))) (
 some (.inl [.l (lL s1 0), .i n3, .i (IntKind.wrap .i64 ((lI s1 2) + 1))]))) (
 some (.inr (1, [.i (lI s1 1)])))) [.l a, .i (IntKind.wrap .i64 (left - (a.length : Int))), .i 0] fun (r4 : Nat × List Leaf) =>
 if r4.1 = 0 then
 k (lI r4.2 1)
 else
 k (lI r4.2 0))
def F53 : T53 := P53 F127 
def X53 : Exits := fun i => lookN i [] [(5, [(.ret, xk 27 [(1, .int .i64 0), (4, .int .i64 0)] []), (.exit 0, xk 27 [(1, .int .i64 0)] [])])]
abbrev s53 : List (Bool × List CK) := [(false, [.sl 4 false]), (false, [.int .i64])]
def G53 (F : T53) (β : Type) (e : (List V × Unit) × (Int × Unit) × Unit) (k : V → Option β) : Option β := F β e.1.1 e.2.1.1 (fun y1 => k (.int .i64 y1))
abbrev W53 (F : T53) : WT := wrap s53 (G53 F)
theorem k53 (F127 : T127) (β : Type) (e : argsT s53) (k : V → Option β) : fnK cfg (tabL [(127, W127 F127)]) X53 53 Tryz.f53 β (argsEnc s53 e) k = G53 (P53 F127 ) β e k := by kernel_rfl
theorem ok53 : FnOk D 53 (W53 F53) := fn_okW [(127, W127 F127)] X53 (fun _ => rfl) Tryz.func53 rfl (tabL_cons ok127 tabL_nil) (k53 F127 )

/-- laws.szNode -/
abbrev T178 : Type 1 := (β : Type) → List UInt8 → List UInt8 → Int → List V → Int → (Int → Option β) → Option β
def P178 (F177 : T177) : T178 := fun β a_Name a_Text a_Parent a_Attrs left k =>
 br (decide (IntKind.wrap .i64 (left - (a_Name.length : Int)) < 0)) (
 k (-1)) (
 br (decide (IntKind.wrap .i64 ((IntKind.wrap .i64 (left - (a_Name.length : Int))) - (a_Text.length : Int)) < 0)) (
 k (-1)) (
 F177 _ a_Attrs (IntKind.wrap .i64 ((IntKind.wrap .i64 (left - (a_Name.length : Int))) - (a_Text.length : Int))) fun n1 =>
 br (decide (n1 < 0)) (
 k (-1)) (
 k n1)))
def F178 : T178 := P178 F177 
abbrev s178 : List (Bool × List CK) := [(true, [.str, .str, .int .i64, .sl 2 true]), (false, [.int .i64])]
def G178 (F : T178) (β : Type) (e : (List UInt8 × List UInt8 × Int × List V × Unit) × (Int × Unit) × Unit) (k : V → Option β) : Option β := F β e.1.1 e.1.2.1 e.1.2.2.1 e.1.2.2.2.1 e.2.1.1 (fun y1 => k (.int .i64 y1))
abbrev W178 (F : T178) : WT := wrap s178 (G178 F)
theorem k178 (F177 : T177) (β : Type) (e : argsT s178) (k : V → Option β) : fnK cfg (tabL [(177, W177 F177)]) noX 178 Tryz.f178 β (argsEnc s178 e) k = G178 (P178 F177 ) β e k := by kernel_rfl
theorem ok178 : FnOk D 178 (W178 F178) := fn_okW [(177, W177 F177)] noX (fun _ => rfl) Tryz.func178 rfl (tabL_cons ok177 tabL_nil) (k178 F177 )

/-- laws.szNodeS -/
abbrev T128 : Type 1 := (β : Type) → List V → Int → (Int → Option β) → Option β
def P128 (F178 : T178) : T128 := fun β a left k =>
 br (decide (IntKind.wrap .i64 (left - (a.length : Int)) < 0)) (
 k (-1)) (
 whileK (fun s1 =>
 br (decide ((lI s1 2) < ((lL s1 0).length : Int))) (
 chk (0 ≤ (lI s1 2)) <|
 idx true [.str, .str, .int .i64, .sl 2 true] (lL s1 0) ((lI s1 2).toNat) fun (e2 : List UInt8 × List UInt8 × Int × List V × Unit) =>
 F178 _ e2.1 e2.2.1 e2.2.2.1 e2.2.2.2.1 (lI s1 1) fun n3 =>
 br (decide (n3 < 0)) (
 some (.inr (0, [.i n3, .i (-1)]))) (
 some (.inl [.l (lL s1 0), .i n3, .i (IntKind.wrap .i64 ((lI s1 2) + 1))]))) (
 some (.inr (1, [.i (lI s1 1)])))) [.l a, .i (IntKind.wrap .i64 (left - (a.length : Int))), .i 0] fun (r4 : Nat × List Leaf) =>
 if r4.1 = 0 then
 k (lI r4.2 1)
 else
 k (lI r4.2 0))
def F128 : T128 := P128 F178 
def X128 : Exits := fun i => lookN i [] [(5, [(.ret, xk 27 [(1, .int .i64 0), (4, .int .i64 0)] []), (.exit 0, xk 27 [(1, .int .i64 0)] [])])]
abbrev s128 : List (Bool × List CK) := [(false, [.sl 4 false]), (false, [.int .i64])]
def G128 (F : T128) (β : Type) (e : (List V × Unit) × (Int × Unit) × Unit) (k : V → Option β) : Option β := F β e.1.1 e.2.1.1 (fun y1 => k (.int .i64 y1))
abbrev W128 (F : T128) : WT := wrap s128 (G128 F)
theorem k128 (F178 : T178) (β : Type) (e : argsT s128) (k : V → Option β) : fnK cfg (tabL [(178, W178 F178)]) X128 128 Tryz.f128 β (argsEnc s128 e) k = G128 (P128 F178 ) β e k := by kernel_rfl
theorem ok128 : FnOk D 128 (W128 F128) := fn_okW [(178, W178 F178)] X128 (fun _ => rfl) Tryz.func128 rfl (tabL_cons ok178 tabL_nil) (k128 F178 )

/-- laws.szIntS -/
abbrev T129 : Type 1 := (β : Type) → List V → Int → (Int → Option β) → Option β
def P129 : T129 := fun β a left k =>
 br (decide (IntKind.wrap .i64 (left - (a.length : Int)) < 0)) (
 k (-1)) (
 k (IntKind.wrap .i64 (left - (a.length : Int))))
def F129 : T129 := P129 
abbrev s129 : List (Bool × List CK) := [(false, [.sl 1 true]), (false, [.int .i64])]
def G129 (F : T129) (β : Type) (e : (List V × Unit) × (Int × Unit) × Unit) (k : V → Option β) : Option β := F β e.1.1 e.2.1.1 (fun y1 => k (.int .i64 y1))
abbrev W129 (F : T129) : WT := wrap s129 (G129 F)
theorem k129 (β : Type) (e : argsT s129) (k : V → Option β) : fnK cfg (tabL []) noX 129 Tryz.f129 β (argsEnc s129 e) k = G129 (P129 ) β e k := by kernel_rfl
theorem ok129 : FnOk D 129 (W129 F129) := fn_okW [] noX (fun _ => rfl) Tryz.func129 rfl (tabL_nil) (k129 )

/-- laws.szBuilder -/
abbrev T54 : Type 1 := (β : Type) → List V → List V → Int → (Int → Option β) → Option β
def P54 (F128 : T128) (F129 : T129) : T54 := fun β a_Nodes a_Open left k =>
 F128 _ a_Nodes left fun n1 =>
 br (decide (n1 < 0)) (
 k (-1)) (
 F129 _ a_Open n1 fun n2 =>
 br (decide (n2 < 0)) (
 k (-1)) (
 k n2))
def F54 : T54 := P54 F128 F129 
abbrev s54 : List (Bool × List CK) := [(true, [.sl 4 false, .sl 1 true]), (false, [.int .i64])]
def G54 (F : T54) (β : Type) (e : (List V × List V × Unit) × (Int × Unit) × Unit) (k : V → Option β) : Option β := F β e.1.1 e.1.2.1 e.2.1.1 (fun y1 => k (.int .i64 y1))
abbrev W54 (F : T54) : WT := wrap s54 (G54 F)
theorem k54 (F128 : T128) (F129 : T129) (β : Type) (e : argsT s54) (k : V → Option β) : fnK cfg (tabL [(128, W128 F128), (129, W129 F129)]) noX 54 Tryz.f54 β (argsEnc s54 e) k = G54 (P54 F128 F129 ) β e k := by kernel_rfl
theorem ok54 : FnOk D 54 (W54 F54) := fn_okW [(128, W128 F128), (129, W129 F129)] noX (fun _ => rfl) Tryz.func54 rfl (tabL_cons ok128 (tabL_cons ok129 tabL_nil)) (k54 F128 F129 )

/-- laws.szSlot -/
abbrev T130 : Type 1 := (β : Type) → Int → List UInt8 → List UInt8 → List UInt8 → Int → Bool → Int → List UInt8 → Int → (Int → Option β) → Option β
def P130 (F50 : T50) : T130 := fun β a_Mode a_To_Host a_To_Path a_Digest a_Node a_Done a_Code a_Body left k =>
 F50 _ a_To_Host a_To_Path left fun n1 =>
 br (decide (n1 < 0)) (
 k (-1)) (
 br (decide (IntKind.wrap .i64 (n1 - (a_Digest.length : Int)) < 0)) (
 k (-1)) (
 br (decide (IntKind.wrap .i64 ((IntKind.wrap .i64 (n1 - (a_Digest.length : Int))) - (a_Body.length : Int)) < 0)) (
 k (-1)) (
 k (IntKind.wrap .i64 ((IntKind.wrap .i64 (n1 - (a_Digest.length : Int))) - (a_Body.length : Int))))))
def F130 : T130 := P130 F50 
abbrev s130 : List (Bool × List CK) := [(true, [.int .i64, .str, .str, .str, .int .i64, .bool, .int .i64, .str]), (false, [.int .i64])]
def G130 (F : T130) (β : Type) (e : (Int × List UInt8 × List UInt8 × List UInt8 × Int × Bool × Int × List UInt8 × Unit) × (Int × Unit) × Unit) (k : V → Option β) : Option β := let a0_0 := e.1; let a0_1 := a0_0.2; let a0_2 := a0_1.2; let a0_3 := a0_2.2; let a0_4 := a0_3.2; let a0_5 := a0_4.2; let a0_6 := a0_5.2; let a0_7 := a0_6.2; F β a0_0.1 a0_1.1 a0_2.1 a0_3.1 a0_4.1 a0_5.1 a0_6.1 a0_7.1 e.2.1.1 (fun y1 => k (.int .i64 y1))
abbrev W130 (F : T130) : WT := wrap s130 (G130 F)
theorem k130 (F50 : T50) (β : Type) (e : argsT s130) (k : V → Option β) : fnK cfg (tabL [(50, W50 F50)]) noX 130 Tryz.f130 β (argsEnc s130 e) k = G130 (P130 F50 ) β e k := by kernel_rfl
theorem ok130 : FnOk D 130 (W130 F130) := fn_okW [(50, W50 F50)] noX (fun _ => rfl) Tryz.func130 rfl (tabL_cons ok50 tabL_nil) (k130 F50 )

/-- laws.szSlotS -/
abbrev T55 : Type 1 := (β : Type) → List V → Int → (Int → Option β) → Option β
def P55 (F130 : T130) : T55 := fun β a left k =>
 br (decide (IntKind.wrap .i64 (left - (a.length : Int)) < 0)) (
 k (-1)) (
 whileK (fun s1 =>
 br (decide ((lI s1 2) < ((lL s1 0).length : Int))) (
 chk (0 ≤ (lI s1 2)) <|
 idx true [.int .i64, .str, .str, .str, .int .i64, .bool, .int .i64, .str] (lL s1 0) ((lI s1 2).toNat) fun (e2 : Int × List UInt8 × List UInt8 × List UInt8 × Int × Bool × Int × List UInt8 × Unit) =>
 F130 _ e2.1 e2.2.1 e2.2.2.1 e2.2.2.2.1 e2.2.2.2.2.1 e2.2.2.2.2.2.1 e2.2.2.2.2.2.2.1 e2.2.2.2.2.2.2.2.1 (lI s1 1) fun n3 =>
 br (decide (n3 < 0)) (
 some (.inr (0, [.i n3, .i (-1)]))) (
 some (.inl [.l (lL s1 0), .i n3, .i (IntKind.wrap .i64 ((lI s1 2) + 1))]))) (
 some (.inr (1, [.i (lI s1 1)])))) [.l a, .i (IntKind.wrap .i64 (left - (a.length : Int))), .i 0] fun (r4 : Nat × List Leaf) =>
 if r4.1 = 0 then
 k (lI r4.2 1)
 else
 k (lI r4.2 0))
def F55 : T55 := P55 F130 
def X55 : Exits := fun i => lookN i [] [(5, [(.ret, xk 27 [(1, .int .i64 0), (4, .int .i64 0)] []), (.exit 0, xk 27 [(1, .int .i64 0)] [])])]
abbrev s55 : List (Bool × List CK) := [(false, [.sl 8 true]), (false, [.int .i64])]
def G55 (F : T55) (β : Type) (e : (List V × Unit) × (Int × Unit) × Unit) (k : V → Option β) : Option β := F β e.1.1 e.2.1.1 (fun y1 => k (.int .i64 y1))
abbrev W55 (F : T55) : WT := wrap s55 (G55 F)
theorem k55 (F130 : T130) (β : Type) (e : argsT s55) (k : V → Option β) : fnK cfg (tabL [(130, W130 F130)]) X55 55 Tryz.f55 β (argsEnc s55 e) k = G55 (P55 F130 ) β e k := by kernel_rfl
theorem ok55 : FnOk D 55 (W55 F55) := fn_okW [(130, W130 F130)] X55 (fun _ => rfl) Tryz.func55 rfl (tabL_cons ok130 tabL_nil) (k55 F130 )

/-- laws.szModule -/
abbrev T131 : Type 1 := (β : Type) → List UInt8 → List UInt8 → Bool → Int → List UInt8 → Int → (Int → Option β) → Option β
def P131 (F50 : T50) : T131 := fun β a_To_Host a_To_Path a_Done a_Code a_Body left k =>
 F50 _ a_To_Host a_To_Path left fun n1 =>
 br (decide (n1 < 0)) (
 k (-1)) (
 br (decide (IntKind.wrap .i64 (n1 - (a_Body.length : Int)) < 0)) (
 k (-1)) (
 k (IntKind.wrap .i64 (n1 - (a_Body.length : Int)))))
def F131 : T131 := P131 F50 
abbrev s131 : List (Bool × List CK) := [(true, [.str, .str, .bool, .int .i64, .str]), (false, [.int .i64])]
def G131 (F : T131) (β : Type) (e : (List UInt8 × List UInt8 × Bool × Int × List UInt8 × Unit) × (Int × Unit) × Unit) (k : V → Option β) : Option β := let a0_0 := e.1; let a0_1 := a0_0.2; let a0_2 := a0_1.2; let a0_3 := a0_2.2; let a0_4 := a0_3.2; F β a0_0.1 a0_1.1 a0_2.1 a0_3.1 a0_4.1 e.2.1.1 (fun y1 => k (.int .i64 y1))
abbrev W131 (F : T131) : WT := wrap s131 (G131 F)
theorem k131 (F50 : T50) (β : Type) (e : argsT s131) (k : V → Option β) : fnK cfg (tabL [(50, W50 F50)]) noX 131 Tryz.f131 β (argsEnc s131 e) k = G131 (P131 F50 ) β e k := by kernel_rfl
theorem ok131 : FnOk D 131 (W131 F131) := fn_okW [(50, W50 F50)] noX (fun _ => rfl) Tryz.func131 rfl (tabL_cons ok50 tabL_nil) (k131 F50 )

/-- laws.szModuleS -/
abbrev T56 : Type 1 := (β : Type) → List V → Int → (Int → Option β) → Option β
def P56 (F131 : T131) : T56 := fun β a left k =>
 br (decide (IntKind.wrap .i64 (left - (a.length : Int)) < 0)) (
 k (-1)) (
 whileK (fun s1 =>
 br (decide ((lI s1 2) < ((lL s1 0).length : Int))) (
 chk (0 ≤ (lI s1 2)) <|
 idx true [.str, .str, .bool, .int .i64, .str] (lL s1 0) ((lI s1 2).toNat) fun (e2 : List UInt8 × List UInt8 × Bool × Int × List UInt8 × Unit) =>
 F131 _ e2.1 e2.2.1 e2.2.2.1 e2.2.2.2.1 e2.2.2.2.2.1 (lI s1 1) fun n3 =>
 br (decide (n3 < 0)) (
 some (.inr (0, [.i n3, .i (-1)]))) (
 some (.inl [.l (lL s1 0), .i n3, .i (IntKind.wrap .i64 ((lI s1 2) + 1))]))) (
 some (.inr (1, [.i (lI s1 1)])))) [.l a, .i (IntKind.wrap .i64 (left - (a.length : Int))), .i 0] fun (r4 : Nat × List Leaf) =>
 if r4.1 = 0 then
 k (lI r4.2 1)
 else
 k (lI r4.2 0))
def F56 : T56 := P56 F131 
def X56 : Exits := fun i => lookN i [] [(5, [(.ret, xk 27 [(1, .int .i64 0), (4, .int .i64 0)] []), (.exit 0, xk 27 [(1, .int .i64 0)] [])])]
abbrev s56 : List (Bool × List CK) := [(false, [.sl 5 true]), (false, [.int .i64])]
def G56 (F : T56) (β : Type) (e : (List V × Unit) × (Int × Unit) × Unit) (k : V → Option β) : Option β := F β e.1.1 e.2.1.1 (fun y1 => k (.int .i64 y1))
abbrev W56 (F : T56) : WT := wrap s56 (G56 F)
theorem k56 (F131 : T131) (β : Type) (e : argsT s56) (k : V → Option β) : fnK cfg (tabL [(131, W131 F131)]) X56 56 Tryz.f56 β (argsEnc s56 e) k = G56 (P56 F131 ) β e k := by kernel_rfl
theorem ok56 : FnOk D 56 (W56 F56) := fn_okW [(131, W131 F131)] X56 (fun _ => rfl) Tryz.func56 rfl (tabL_cons ok131 tabL_nil) (k56 F131 )

/-- laws.szAddrS -/
abbrev T57 : Type 1 := (β : Type) → List V → Int → (Int → Option β) → Option β
def P57 (F50 : T50) : T57 := fun β a left k =>
 br (decide (IntKind.wrap .i64 (left - (a.length : Int)) < 0)) (
 k (-1)) (
 whileK (fun s1 =>
 br (decide ((lI s1 2) < ((lL s1 0).length : Int))) (
 chk (0 ≤ (lI s1 2)) <|
 idx true [.str, .str] (lL s1 0) ((lI s1 2).toNat) fun (e2 : List UInt8 × List UInt8 × Unit) =>
 F50 _ e2.1 e2.2.1 (lI s1 1) fun n3 =>
 br (decide (n3 < 0)) (
 some (.inr (0, [.i n3, .i (-1)]))) (
 some (.inl [.l (lL s1 0), .i n3, .i (IntKind.wrap .i64 ((lI s1 2) + 1))]))) (
 some (.inr (1, [.i (lI s1 1)])))) [.l a, .i (IntKind.wrap .i64 (left - (a.length : Int))), .i 0] fun (r4 : Nat × List Leaf) =>
 if r4.1 = 0 then
 k (lI r4.2 1)
 else
 k (lI r4.2 0))
def F57 : T57 := P57 F50 
def X57 : Exits := fun i => lookN i [] [(5, [(.ret, xk 27 [(1, .int .i64 0), (4, .int .i64 0)] []), (.exit 0, xk 27 [(1, .int .i64 0)] [])])]
abbrev s57 : List (Bool × List CK) := [(false, [.sl 2 true]), (false, [.int .i64])]
def G57 (F : T57) (β : Type) (e : (List V × Unit) × (Int × Unit) × Unit) (k : V → Option β) : Option β := F β e.1.1 e.2.1.1 (fun y1 => k (.int .i64 y1))
abbrev W57 (F : T57) : WT := wrap s57 (G57 F)
theorem k57 (F50 : T50) (β : Type) (e : argsT s57) (k : V → Option β) : fnK cfg (tabL [(50, W50 F50)]) X57 57 Tryz.f57 β (argsEnc s57 e) k = G57 (P57 F50 ) β e k := by kernel_rfl
theorem ok57 : FnOk D 57 (W57 F57) := fn_okW [(50, W50 F50)] X57 (fun _ => rfl) Tryz.func57 rfl (tabL_cons ok50 tabL_nil) (k57 F50 )

/-- laws.szPage -/
abbrev T18 : Type 1 := (β : Type) → List UInt8 → List UInt8 → Bool → List V → List V → List V → List UInt8 → List UInt8 → List V → Bool → List V → List V → List V → List V → List V → Int → Int → Int → Int → List V → List V → Bool → Int → (Int → Option β) → Option β
def P18 (F50 : T50) (F51 : T51) (F52 : T52) (F53 : T53) (F54 : T54) (F55 : T55) (F56 : T56) (F57 : T57) (F58 : T58) : T18 := fun β a_Addr_Host a_Addr_Path a_Policy_Set a_Policy_Scripts a_Policy_Styles a_Policy_Images a_Policy_Nonce a_Tok_Rest a_Queue a_Ended a_Builder_Nodes a_Builder_Open a_Slots a_Mods a_Entries a_Block a_Inline a_Deferred a_Entered a_Ran a_Log a_Loaded left k =>
 F50 _ a_Addr_Host a_Addr_Path left fun n1 =>
 br (decide (n1 < 0)) (
 k (-1)) (
 F51 _ a_Policy_Set a_Policy_Scripts a_Policy_Styles a_Policy_Images a_Policy_Nonce n1 fun n2 =>
 br (decide (n2 < 0)) (
 k (-1)) (
 F52 _ a_Tok_Rest n2 fun n3 =>
 br (decide (n3 < 0)) (
 k (-1)) (
 F53 _ a_Queue n3 fun n4 =>
 br (decide (n4 < 0)) (
 k (-1)) (
 F54 _ a_Builder_Nodes a_Builder_Open n4 fun n5 =>
 br (decide (n5 < 0)) (
 k (-1)) (
 F55 _ a_Slots n5 fun n6 =>
 br (decide (n6 < 0)) (
 k (-1)) (
 F56 _ a_Mods n6 fun n7 =>
 br (decide (n7 < 0)) (
 k (-1)) (
 F57 _ a_Entries n7 fun n8 =>
 br (decide (n8 < 0)) (
 k (-1)) (
 F57 _ a_Ran n8 fun n9 =>
 br (decide (n9 < 0)) (
 k (-1)) (
 F58 _ a_Log n9 fun n10 =>
 br (decide (n10 < 0)) (
 k (-1)) (
 k n10))))))))))
def F18 : T18 := P18 F50 F51 F52 F53 F54 F55 F56 F57 F58 
abbrev s18 : List (Bool × List CK) := [(true, [.str, .str, .bool, .sl 1 true, .sl 1 true, .sl 1 true, .str, .str, .sl 4 false, .bool, .sl 4 false, .sl 1 true, .sl 8 true, .sl 5 true, .sl 2 true, .int .i64, .int .i64, .int .i64, .int .i64, .sl 2 true, .sl 1 true, .bool]), (false, [.int .i64])]
def G18 (F : T18) (β : Type) (e : (List UInt8 × List UInt8 × Bool × List V × List V × List V × List UInt8 × List UInt8 × List V × Bool × List V × List V × List V × List V × List V × Int × Int × Int × Int × List V × List V × Bool × Unit) × (Int × Unit) × Unit) (k : V → Option β) : Option β := let a0_0 := e.1; let a0_1 := a0_0.2; let a0_2 := a0_1.2; let a0_3 := a0_2.2; let a0_4 := a0_3.2; let a0_5 := a0_4.2; let a0_6 := a0_5.2; let a0_7 := a0_6.2; let a0_8 := a0_7.2; let a0_9 := a0_8.2; let a0_10 := a0_9.2; let a0_11 := a0_10.2; let a0_12 := a0_11.2; let a0_13 := a0_12.2; let a0_14 := a0_13.2; let a0_15 := a0_14.2; let a0_16 := a0_15.2; let a0_17 := a0_16.2; let a0_18 := a0_17.2; let a0_19 := a0_18.2; let a0_20 := a0_19.2; let a0_21 := a0_20.2; F β a0_0.1 a0_1.1 a0_2.1 a0_3.1 a0_4.1 a0_5.1 a0_6.1 a0_7.1 a0_8.1 a0_9.1 a0_10.1 a0_11.1 a0_12.1 a0_13.1 a0_14.1 a0_15.1 a0_16.1 a0_17.1 a0_18.1 a0_19.1 a0_20.1 a0_21.1 e.2.1.1 (fun y1 => k (.int .i64 y1))
abbrev W18 (F : T18) : WT := wrap s18 (G18 F)
theorem k18 (F50 : T50) (F51 : T51) (F52 : T52) (F53 : T53) (F54 : T54) (F55 : T55) (F56 : T56) (F57 : T57) (F58 : T58) (β : Type) (e : argsT s18) (k : V → Option β) : fnK cfg (tabL [(50, W50 F50), (51, W51 F51), (52, W52 F52), (53, W53 F53), (54, W54 F54), (55, W55 F55), (56, W56 F56), (57, W57 F57), (58, W58 F58)]) noX 18 Tryz.f18 β (argsEnc s18 e) k = G18 (P18 F50 F51 F52 F53 F54 F55 F56 F57 F58 ) β e k := by kernel_rfl
theorem ok18 : FnOk D 18 (W18 F18) := fn_okW [(50, W50 F50), (51, W51 F51), (52, W52 F52), (53, W53 F53), (54, W54 F54), (55, W55 F55), (56, W56 F56), (57, W57 F57), (58, W58 F58)] noX (fun _ => rfl) Tryz.func18 rfl (tabL_cons ok50 (tabL_cons ok51 (tabL_cons ok52 (tabL_cons ok53 (tabL_cons ok54 (tabL_cons ok55 (tabL_cons ok56 (tabL_cons ok57 (tabL_cons ok58 tabL_nil))))))))) (k18 F50 F51 F52 F53 F54 F55 F56 F57 F58 )

/-- laws.szKept -/
abbrev T98 : Type 1 := (β : Type) → List UInt8 → List UInt8 → Int → Int → List UInt8 → Int → Bool → List UInt8 → Int → (Int → Option β) → Option β
def P98 (F50 : T50) (F160 : T160) : T98 := fun β a_To_Host a_To_Path a_Response_Status a_Response_Kind a_Response_Body a_Response_Age a_Response_Shares a_Response_Policy left k =>
 F50 _ a_To_Host a_To_Path left fun n1 =>
 br (decide (n1 < 0)) (
 k (-1)) (
 F160 _ a_Response_Status a_Response_Kind a_Response_Body a_Response_Age a_Response_Shares a_Response_Policy n1 fun n2 =>
 br (decide (n2 < 0)) (
 k (-1)) (
 k n2))
def F98 : T98 := P98 F50 F160 
abbrev s98 : List (Bool × List CK) := [(true, [.str, .str, .int .i64, .int .i64, .str, .int .i64, .bool, .str]), (false, [.int .i64])]
def G98 (F : T98) (β : Type) (e : (List UInt8 × List UInt8 × Int × Int × List UInt8 × Int × Bool × List UInt8 × Unit) × (Int × Unit) × Unit) (k : V → Option β) : Option β := let a0_0 := e.1; let a0_1 := a0_0.2; let a0_2 := a0_1.2; let a0_3 := a0_2.2; let a0_4 := a0_3.2; let a0_5 := a0_4.2; let a0_6 := a0_5.2; let a0_7 := a0_6.2; F β a0_0.1 a0_1.1 a0_2.1 a0_3.1 a0_4.1 a0_5.1 a0_6.1 a0_7.1 e.2.1.1 (fun y1 => k (.int .i64 y1))
abbrev W98 (F : T98) : WT := wrap s98 (G98 F)
theorem k98 (F50 : T50) (F160 : T160) (β : Type) (e : argsT s98) (k : V → Option β) : fnK cfg (tabL [(50, W50 F50), (160, W160 F160)]) noX 98 Tryz.f98 β (argsEnc s98 e) k = G98 (P98 F50 F160 ) β e k := by kernel_rfl
theorem ok98 : FnOk D 98 (W98 F98) := fn_okW [(50, W50 F50), (160, W160 F160)] noX (fun _ => rfl) Tryz.func98 rfl (tabL_cons ok50 (tabL_cons ok160 tabL_nil)) (k98 F50 F160 )

/-- laws.szKeptS -/
abbrev T33 : Type 1 := (β : Type) → List V → Int → (Int → Option β) → Option β
def P33 (F98 : T98) : T33 := fun β a left k =>
 br (decide (IntKind.wrap .i64 (left - (a.length : Int)) < 0)) (
 k (-1)) (
 whileK (fun s1 =>
 br (decide ((lI s1 2) < ((lL s1 0).length : Int))) (
 chk (0 ≤ (lI s1 2)) <|
 idx true [.str, .str, .int .i64, .int .i64, .str, .int .i64, .bool, .str] (lL s1 0) ((lI s1 2).toNat) fun (e2 : List UInt8 × List UInt8 × Int × Int × List UInt8 × Int × Bool × List UInt8 × Unit) =>
 F98 _ e2.1 e2.2.1 e2.2.2.1 e2.2.2.2.1 e2.2.2.2.2.1 e2.2.2.2.2.2.1 e2.2.2.2.2.2.2.1 e2.2.2.2.2.2.2.2.1 (lI s1 1) fun n3 =>
 br (decide (n3 < 0)) (
 some (.inr (0, [.i n3, .i (-1)]))) (
 some (.inl [.l (lL s1 0), .i n3, .i (IntKind.wrap .i64 ((lI s1 2) + 1))]))) (
 some (.inr (1, [.i (lI s1 1)])))) [.l a, .i (IntKind.wrap .i64 (left - (a.length : Int))), .i 0] fun (r4 : Nat × List Leaf) =>
 if r4.1 = 0 then
 k (lI r4.2 1)
 else
 k (lI r4.2 0))
def F33 : T33 := P33 F98 
def X33 : Exits := fun i => lookN i [] [(5, [(.ret, xk 27 [(1, .int .i64 0), (4, .int .i64 0)] []), (.exit 0, xk 27 [(1, .int .i64 0)] [])])]
abbrev s33 : List (Bool × List CK) := [(false, [.sl 8 true]), (false, [.int .i64])]
def G33 (F : T33) (β : Type) (e : (List V × Unit) × (Int × Unit) × Unit) (k : V → Option β) : Option β := F β e.1.1 e.2.1.1 (fun y1 => k (.int .i64 y1))
abbrev W33 (F : T33) : WT := wrap s33 (G33 F)
theorem k33 (F98 : T98) (β : Type) (e : argsT s33) (k : V → Option β) : fnK cfg (tabL [(98, W98 F98)]) X33 33 Tryz.f33 β (argsEnc s33 e) k = G33 (P33 F98 ) β e k := by kernel_rfl
theorem ok33 : FnOk D 33 (W33 F33) := fn_okW [(98, W98 F98)] X33 (fun _ => rfl) Tryz.func33 rfl (tabL_cons ok98 tabL_nil) (k33 F98 )

/-- laws.szHidden -/
abbrev T8 : Type 1 := (β : Type) → Bool → List UInt8 → List UInt8 → Bool → List V → List V → List V → List UInt8 → List UInt8 → List V → Bool → List V → List V → List V → List V → List V → Int → Int → Int → Int → List V → List V → Bool → List V → List V → Int → Int → (Int → Option β) → Option β
def P8 (F18 : T18) (F33 : T33) (F34 : T34) : T8 := fun β a_Ready a_Page_Addr_Host a_Page_Addr_Path a_Page_Policy_Set a_Page_Policy_Scripts a_Page_Policy_Styles a_Page_Policy_Images a_Page_Policy_Nonce a_Page_Tok_Rest a_Page_Queue a_Page_Ended a_Page_Builder_Nodes a_Page_Builder_Open a_Page_Slots a_Page_Mods a_Page_Entries a_Page_Block a_Page_Inline a_Page_Deferred a_Page_Entered a_Page_Ran a_Page_Log a_Page_Loaded a_Taken a_Servers a_Now left k =>
 F18 _ a_Page_Addr_Host a_Page_Addr_Path a_Page_Policy_Set a_Page_Policy_Scripts a_Page_Policy_Styles a_Page_Policy_Images a_Page_Policy_Nonce a_Page_Tok_Rest a_Page_Queue a_Page_Ended a_Page_Builder_Nodes a_Page_Builder_Open a_Page_Slots a_Page_Mods a_Page_Entries a_Page_Block a_Page_Inline a_Page_Deferred a_Page_Entered a_Page_Ran a_Page_Log a_Page_Loaded left fun n1 =>
 br (decide (n1 < 0)) (
 k (-1)) (
 F33 _ a_Taken n1 fun n2 =>
 br (decide (n2 < 0)) (
 k (-1)) (
 F34 _ a_Servers n2 fun n3 =>
 br (decide (n3 < 0)) (
 k (-1)) (
 k n3)))
def F8 : T8 := P8 F18 F33 F34 
abbrev s8 : List (Bool × List CK) := [(true, [.bool, .str, .str, .bool, .sl 1 true, .sl 1 true, .sl 1 true, .str, .str, .sl 4 false, .bool, .sl 4 false, .sl 1 true, .sl 8 true, .sl 5 true, .sl 2 true, .int .i64, .int .i64, .int .i64, .int .i64, .sl 2 true, .sl 1 true, .bool, .sl 8 true, .sl 2 false, .int .i64]), (false, [.int .i64])]
def G8 (F : T8) (β : Type) (e : (Bool × List UInt8 × List UInt8 × Bool × List V × List V × List V × List UInt8 × List UInt8 × List V × Bool × List V × List V × List V × List V × List V × Int × Int × Int × Int × List V × List V × Bool × List V × List V × Int × Unit) × (Int × Unit) × Unit) (k : V → Option β) : Option β := let a0_0 := e.1; let a0_1 := a0_0.2; let a0_2 := a0_1.2; let a0_3 := a0_2.2; let a0_4 := a0_3.2; let a0_5 := a0_4.2; let a0_6 := a0_5.2; let a0_7 := a0_6.2; let a0_8 := a0_7.2; let a0_9 := a0_8.2; let a0_10 := a0_9.2; let a0_11 := a0_10.2; let a0_12 := a0_11.2; let a0_13 := a0_12.2; let a0_14 := a0_13.2; let a0_15 := a0_14.2; let a0_16 := a0_15.2; let a0_17 := a0_16.2; let a0_18 := a0_17.2; let a0_19 := a0_18.2; let a0_20 := a0_19.2; let a0_21 := a0_20.2; let a0_22 := a0_21.2; let a0_23 := a0_22.2; let a0_24 := a0_23.2; let a0_25 := a0_24.2; F β a0_0.1 a0_1.1 a0_2.1 a0_3.1 a0_4.1 a0_5.1 a0_6.1 a0_7.1 a0_8.1 a0_9.1 a0_10.1 a0_11.1 a0_12.1 a0_13.1 a0_14.1 a0_15.1 a0_16.1 a0_17.1 a0_18.1 a0_19.1 a0_20.1 a0_21.1 a0_22.1 a0_23.1 a0_24.1 a0_25.1 e.2.1.1 (fun y1 => k (.int .i64 y1))
abbrev W8 (F : T8) : WT := wrap s8 (G8 F)
theorem k8 (F18 : T18) (F33 : T33) (F34 : T34) (β : Type) (e : argsT s8) (k : V → Option β) : fnK cfg (tabL [(18, W18 F18), (33, W33 F33), (34, W34 F34)]) noX 8 Tryz.f8 β (argsEnc s8 e) k = G8 (P8 F18 F33 F34 ) β e k := by kernel_rfl
theorem ok8 : FnOk D 8 (W8 F8) := fn_okW [(18, W18 F18), (33, W33 F33), (34, W34 F34)] noX (fun _ => rfl) Tryz.func8 rfl (tabL_cons ok18 (tabL_cons ok33 (tabL_cons ok34 tabL_nil))) (k8 F18 F33 F34 )

/-- laws.toResponse -/
abbrev T166 : Type 1 := (β : Type) → Int → Int → List UInt8 → Int → Bool → List UInt8 → (Int → Int → List UInt8 → Int → Bool → List UInt8 → Option β) → Option β
def P166 : T166 := fun β a_Status a_Kind a_Body a_Age a_Shares a_Policy k =>
 k a_Status a_Kind a_Body a_Age a_Shares a_Policy
def F166 : T166 := P166 
abbrev s166 : List (Bool × List CK) := [(true, [.int .i64, .int .i64, .str, .int .i64, .bool, .str])]
def G166 (F : T166) (β : Type) (e : (Int × Int × List UInt8 × Int × Bool × List UInt8 × Unit) × Unit) (k : V → Option β) : Option β := let a0_0 := e.1; let a0_1 := a0_0.2; let a0_2 := a0_1.2; let a0_3 := a0_2.2; let a0_4 := a0_3.2; let a0_5 := a0_4.2; F β a0_0.1 a0_1.1 a0_2.1 a0_3.1 a0_4.1 a0_5.1 (fun y1 y2 y3 y4 y5 y6 => k (.agg [.int .i64 y1, .int .i64 y2, .str y3, .int .i64 y4, .bool y5, .str y6]))
abbrev W166 (F : T166) : WT := wrap s166 (G166 F)
theorem k166 (β : Type) (e : argsT s166) (k : V → Option β) : fnK cfg (tabL []) noX 166 Tryz.f166 β (argsEnc s166 e) k = G166 (P166 ) β e k := by kernel_rfl
theorem ok166 : FnOk D 166 (W166 F166) := fn_okW [] noX (fun _ => rfl) Tryz.func166 rfl (tabL_nil) (k166 )

/-- laws.toFile -/
abbrev T190 : Type 1 := (β : Type) → List UInt8 → Int → Int → List UInt8 → Int → Bool → List UInt8 → (List UInt8 → Int → Int → List UInt8 → Int → Bool → List UInt8 → Option β) → Option β
def P190 (F166 : T166) : T190 := fun β a_Path a_Response_Status a_Response_Kind a_Response_Body a_Response_Age a_Response_Shares a_Response_Policy k =>
 F166 _ a_Response_Status a_Response_Kind a_Response_Body a_Response_Age a_Response_Shares a_Response_Policy fun n1 n2 t3 n4 b5 t6 =>
 k a_Path n1 n2 t3 n4 b5 t6
def F190 : T190 := P190 F166 
abbrev s190 : List (Bool × List CK) := [(true, [.str, .int .i64, .int .i64, .str, .int .i64, .bool, .str])]
def G190 (F : T190) (β : Type) (e : (List UInt8 × Int × Int × List UInt8 × Int × Bool × List UInt8 × Unit) × Unit) (k : V → Option β) : Option β := let a0_0 := e.1; let a0_1 := a0_0.2; let a0_2 := a0_1.2; let a0_3 := a0_2.2; let a0_4 := a0_3.2; let a0_5 := a0_4.2; let a0_6 := a0_5.2; F β a0_0.1 a0_1.1 a0_2.1 a0_3.1 a0_4.1 a0_5.1 a0_6.1 (fun y1 y2 y3 y4 y5 y6 y7 => k (.agg [.str y1, .int .i64 y2, .int .i64 y3, .str y4, .int .i64 y5, .bool y6, .str y7]))
abbrev W190 (F : T190) : WT := wrap s190 (G190 F)
theorem k190 (F166 : T166) (β : Type) (e : argsT s190) (k : V → Option β) : fnK cfg (tabL [(166, W166 F166)]) noX 190 Tryz.f190 β (argsEnc s190 e) k = G190 (P190 F166 ) β e k := by kernel_rfl
theorem ok190 : FnOk D 190 (W190 F190) := fn_okW [(166, W166 F166)] noX (fun _ => rfl) Tryz.func190 rfl (tabL_cons ok166 tabL_nil) (k190 F166 )

/-- laws.toFileS -/
abbrev T167 : Type 1 := (β : Type) → List V → (List V → Option β) → Option β
def P167 (F190 : T190) : T167 := fun β a k =>
 chk (0 ≤ (a.length : Int) ∧ (a.length : Int) ≤ (a.length : Int) ∧ (a.length : Int) * 80 ≤ 140737488355328 ∧ (a.length : Int) ≤ 140737488355328) <|
 whileK (fun s1 =>
 br (decide ((lI s1 2) < ((lL s1 0).length : Int))) (
 chk (0 ≤ (lI s1 2)) <|
 idx true [.str, .int .i64, .int .i64, .str, .int .i64, .bool, .str] (lL s1 0) ((lI s1 2).toNat) fun (e2 : List UInt8 × Int × Int × List UInt8 × Int × Bool × List UInt8 × Unit) =>
 F190 _ e2.1 e2.2.1 e2.2.2.1 e2.2.2.2.1 e2.2.2.2.2.1 e2.2.2.2.2.2.1 e2.2.2.2.2.2.2.1 fun t3 n4 n5 t6 n7 b8 t9 =>
 chk (0 ≤ (lI s1 2) ∧ (lI s1 2).toNat < (lL s1 1).length) <|
 storeO (lL s1 1) ((lI s1 2).toNat) 0 [.str t3, .int .i64 n4, .int .i64 n5, .str t6, .int .i64 n7, .bool b8, .str t9] fun l10 =>
 some (.inl [.l (lL s1 0), .l l10, .i (IntKind.wrap .i64 ((lI s1 2) + 1))])) (
 some (.inr (0, [.l (lL s1 1)])))) [.l a, .l (List.replicate ((a.length : Int).toNat) (.agg [.str [], .int .i64 0, .int .i64 0, .str [], .int .i64 0, .bool false, .str []])), .i 0] fun (r11 : Nat × List Leaf) =>
 k (lL r11.2 0)
def F167 : T167 := P167 F190 
def X167 : Exits := fun i => lookN i [] [(3, [(.exit 0, xk 23 [(3, .own 1000000 7 .flat [])] [])])]
abbrev s167 : List (Bool × List CK) := [(false, [.sl 7 true])]
def G167 (F : T167) (β : Type) (e : (List V × Unit) × Unit) (k : V → Option β) : Option β := F β e.1.1 (fun y1 => k (.own 0 7 .flat y1))
abbrev W167 (F : T167) : WT := wrap s167 (G167 F)
theorem k167 (F190 : T190) (β : Type) (e : argsT s167) (k : V → Option β) : fnK cfg (tabL [(190, W190 F190)]) X167 167 Tryz.f167 β (argsEnc s167 e) k = G167 (P167 F190 ) β e k := by kernel_rfl
theorem ok167 : FnOk D 167 (W167 F167) := fn_okW [(190, W190 F190)] X167 (fun _ => rfl) Tryz.func167 rfl (tabL_cons ok190 tabL_nil) (k167 F190 )

/-- laws.toServer -/
abbrev T107 : Type 1 := (β : Type) → List UInt8 → List V → (List UInt8 → List V → Option β) → Option β
def P107 (F167 : T167) : T107 := fun β a_Host a_Files k =>
 F167 _ a_Files fun l1 =>
 k a_Host l1
def F107 : T107 := P107 F167 
abbrev s107 : List (Bool × List CK) := [(true, [.str, .sl 7 true])]
def G107 (F : T107) (β : Type) (e : (List UInt8 × List V × Unit) × Unit) (k : V → Option β) : Option β := F β e.1.1 e.1.2.1 (fun y1 y2 => k (.agg [.str y1, .own 1 7 .flat y2]))
abbrev W107 (F : T107) : WT := wrap s107 (G107 F)
theorem k107 (F167 : T167) (β : Type) (e : argsT s107) (k : V → Option β) : fnK cfg (tabL [(167, W167 F167)]) noX 107 Tryz.f107 β (argsEnc s107 e) k = G107 (P107 F167 ) β e k := by kernel_rfl
theorem ok107 : FnOk D 107 (W107 F107) := fn_okW [(167, W167 F167)] noX (fun _ => rfl) Tryz.func107 rfl (tabL_cons ok167 tabL_nil) (k107 F167 )

/-- laws.toServerS -/
abbrev T38 : Type 1 := (β : Type) → List V → (List V → Option β) → Option β
def P38 (F107 : T107) : T38 := fun β a k =>
 chk (0 ≤ (a.length : Int) ∧ (a.length : Int) ≤ (a.length : Int) ∧ (a.length : Int) * 40 ≤ 140737488355328 ∧ (a.length : Int) ≤ 140737488355328) <|
 whileK (fun s1 =>
 br (decide ((lI s1 2) < ((lL s1 0).length : Int))) (
 chk (0 ≤ (lI s1 2)) <|
 idx true [.str, .sl 7 true] (lL s1 0) ((lI s1 2).toNat) fun (e2 : List UInt8 × List V × Unit) =>
 F107 _ e2.1 e2.2.1 fun t3 l4 =>
 chk (0 ≤ (lI s1 2) ∧ (lI s1 2).toNat < (lL s1 1).length) <|
 storeO (lL s1 1) ((lI s1 2).toNat) 0 [.str t3, .sl 7 true l4] fun l5 =>
 some (.inl [.l (lL s1 0), .l l5, .i (IntKind.wrap .i64 ((lI s1 2) + 1))])) (
 some (.inr (0, [.l (lL s1 1)])))) [.l a, .l (List.replicate ((a.length : Int).toNat) (.agg [.str [], .sl 7 true []])), .i 0] fun (r6 : Nat × List Leaf) =>
 k (lL r6.2 0)
def F38 : T38 := P38 F107 
def X38 : Exits := fun i => lookN i [] [(3, [(.exit 0, xk 23 [(3, .own 1000000 2 .clean [])] [])])]
abbrev s38 : List (Bool × List CK) := [(false, [.sl 2 false])]
def G38 (F : T38) (β : Type) (e : (List V × Unit) × Unit) (k : V → Option β) : Option β := F β e.1.1 (fun y1 => k (.own 0 2 .clean y1))
abbrev W38 (F : T38) : WT := wrap s38 (G38 F)
theorem k38 (F107 : T107) (β : Type) (e : argsT s38) (k : V → Option β) : fnK cfg (tabL [(107, W107 F107)]) X38 38 Tryz.f38 β (argsEnc s38 e) k = G38 (P38 F107 ) β e k := by kernel_rfl
theorem ok38 : FnOk D 38 (W38 F38) := fn_okW [(107, W107 F107)] X38 (fun _ => rfl) Tryz.func38 rfl (tabL_cons ok107 tabL_nil) (k38 F107 )

/-- laws.toAddr -/
abbrev T65 : Type 1 := (β : Type) → List UInt8 → List UInt8 → (List UInt8 → List UInt8 → Option β) → Option β
def P65 : T65 := fun β a_Host a_Path k =>
 k a_Host a_Path
def F65 : T65 := P65 
abbrev s65 : List (Bool × List CK) := [(true, [.str, .str])]
def G65 (F : T65) (β : Type) (e : (List UInt8 × List UInt8 × Unit) × Unit) (k : V → Option β) : Option β := F β e.1.1 e.1.2.1 (fun y1 y2 => k (.agg [.str y1, .str y2]))
abbrev W65 (F : T65) : WT := wrap s65 (G65 F)
theorem k65 (β : Type) (e : argsT s65) (k : V → Option β) : fnK cfg (tabL []) noX 65 Tryz.f65 β (argsEnc s65 e) k = G65 (P65 ) β e k := by kernel_rfl
theorem ok65 : FnOk D 65 (W65 F65) := fn_okW [] noX (fun _ => rfl) Tryz.func65 rfl (tabL_nil) (k65 )

/-- laws.toEntry -/
abbrev T175 : Type 1 := (β : Type) → List UInt8 → List UInt8 → List UInt8 → Int → Int → List UInt8 → Int → Bool → List UInt8 → Int → (List UInt8 → List UInt8 → List UInt8 → Int → Int → List UInt8 → Int → Bool → List UInt8 → Int → Option β) → Option β
def P175 (F65 : T65) (F166 : T166) : T175 := fun β a_Top a_To_Host a_To_Path a_Response_Status a_Response_Kind a_Response_Body a_Response_Age a_Response_Shares a_Response_Policy a_Until k =>
 F65 _ a_To_Host a_To_Path fun t1 t2 =>
 F166 _ a_Response_Status a_Response_Kind a_Response_Body a_Response_Age a_Response_Shares a_Response_Policy fun n3 n4 t5 n6 b7 t8 =>
 k a_Top t1 t2 n3 n4 t5 n6 b7 t8 a_Until
def F175 : T175 := P175 F65 F166 
abbrev s175 : List (Bool × List CK) := [(true, [.str, .str, .str, .int .i64, .int .i64, .str, .int .i64, .bool, .str, .int .i64])]
def G175 (F : T175) (β : Type) (e : (List UInt8 × List UInt8 × List UInt8 × Int × Int × List UInt8 × Int × Bool × List UInt8 × Int × Unit) × Unit) (k : V → Option β) : Option β := let a0_0 := e.1; let a0_1 := a0_0.2; let a0_2 := a0_1.2; let a0_3 := a0_2.2; let a0_4 := a0_3.2; let a0_5 := a0_4.2; let a0_6 := a0_5.2; let a0_7 := a0_6.2; let a0_8 := a0_7.2; let a0_9 := a0_8.2; F β a0_0.1 a0_1.1 a0_2.1 a0_3.1 a0_4.1 a0_5.1 a0_6.1 a0_7.1 a0_8.1 a0_9.1 (fun y1 y2 y3 y4 y5 y6 y7 y8 y9 y10 => k (.agg [.str y1, .str y2, .str y3, .int .i64 y4, .int .i64 y5, .str y6, .int .i64 y7, .bool y8, .str y9, .int .i64 y10]))
abbrev W175 (F : T175) : WT := wrap s175 (G175 F)
theorem k175 (F65 : T65) (F166 : T166) (β : Type) (e : argsT s175) (k : V → Option β) : fnK cfg (tabL [(65, W65 F65), (166, W166 F166)]) noX 175 Tryz.f175 β (argsEnc s175 e) k = G175 (P175 F65 F166 ) β e k := by kernel_rfl
theorem ok175 : FnOk D 175 (W175 F175) := fn_okW [(65, W65 F65), (166, W166 F166)] noX (fun _ => rfl) Tryz.func175 rfl (tabL_cons ok65 (tabL_cons ok166 tabL_nil)) (k175 F65 F166 )

/-- laws.toEntryS -/
abbrev T123 : Type 1 := (β : Type) → List V → (List V → Option β) → Option β
def P123 (F175 : T175) : T123 := fun β a k =>
 chk (0 ≤ (a.length : Int) ∧ (a.length : Int) ≤ (a.length : Int) ∧ (a.length : Int) * 120 ≤ 140737488355328 ∧ (a.length : Int) ≤ 140737488355328) <|
 whileK (fun s1 =>
 br (decide ((lI s1 2) < ((lL s1 0).length : Int))) (
 chk (0 ≤ (lI s1 2)) <|
 idx true [.str, .str, .str, .int .i64, .int .i64, .str, .int .i64, .bool, .str, .int .i64] (lL s1 0) ((lI s1 2).toNat) fun (e2 : List UInt8 × List UInt8 × List UInt8 × Int × Int × List UInt8 × Int × Bool × List UInt8 × Int × Unit) =>
 F175 _ e2.1 e2.2.1 e2.2.2.1 e2.2.2.2.1 e2.2.2.2.2.1 e2.2.2.2.2.2.1 e2.2.2.2.2.2.2.1 e2.2.2.2.2.2.2.2.1 e2.2.2.2.2.2.2.2.2.1 e2.2.2.2.2.2.2.2.2.2.1 fun t3 t4 t5 n6 n7 t8 n9 b10 t11 n12 =>
 chk (0 ≤ (lI s1 2) ∧ (lI s1 2).toNat < (lL s1 1).length) <|
 storeO (lL s1 1) ((lI s1 2).toNat) 0 [.str t3, .str t4, .str t5, .int .i64 n6, .int .i64 n7, .str t8, .int .i64 n9, .bool b10, .str t11, .int .i64 n12] fun l13 =>
 some (.inl [.l (lL s1 0), .l l13, .i (IntKind.wrap .i64 ((lI s1 2) + 1))])) (
 some (.inr (0, [.l (lL s1 1)])))) [.l a, .l (List.replicate ((a.length : Int).toNat) (.agg [.str [], .str [], .str [], .int .i64 0, .int .i64 0, .str [], .int .i64 0, .bool false, .str [], .int .i64 0])), .i 0] fun (r14 : Nat × List Leaf) =>
 k (lL r14.2 0)
def F123 : T123 := P123 F175 
def X123 : Exits := fun i => lookN i [] [(3, [(.exit 0, xk 23 [(3, .own 1000000 10 .flat [])] [])])]
abbrev s123 : List (Bool × List CK) := [(false, [.sl 10 true])]
def G123 (F : T123) (β : Type) (e : (List V × Unit) × Unit) (k : V → Option β) : Option β := F β e.1.1 (fun y1 => k (.own 0 10 .flat y1))
abbrev W123 (F : T123) : WT := wrap s123 (G123 F)
theorem k123 (F175 : T175) (β : Type) (e : argsT s123) (k : V → Option β) : fnK cfg (tabL [(175, W175 F175)]) X123 123 Tryz.f123 β (argsEnc s123 e) k = G123 (P123 F175 ) β e k := by kernel_rfl
theorem ok123 : FnOk D 123 (W123 F123) := fn_okW [(175, W175 F175)] X123 (fun _ => rfl) Tryz.func123 rfl (tabL_cons ok175 tabL_nil) (k123 F175 )

/-- laws.toCache -/
abbrev T46 : Type 1 := (β : Type) → List V → (List V → Option β) → Option β
def P46 (F123 : T123) : T46 := fun β a_Entries k =>
 F123 _ a_Entries fun l1 =>
 k l1
def F46 : T46 := P46 F123 
abbrev s46 : List (Bool × List CK) := [(true, [.sl 10 true])]
def G46 (F : T46) (β : Type) (e : (List V × Unit) × Unit) (k : V → Option β) : Option β := F β e.1.1 (fun y1 => k (.agg [.own 0 10 .flat y1]))
abbrev W46 (F : T46) : WT := wrap s46 (G46 F)
theorem k46 (F123 : T123) (β : Type) (e : argsT s46) (k : V → Option β) : fnK cfg (tabL [(123, W123 F123)]) noX 46 Tryz.f46 β (argsEnc s46 e) k = G46 (P46 F123 ) β e k := by kernel_rfl
theorem ok46 : FnOk D 46 (W46 F46) := fn_okW [(123, W123 F123)] noX (fun _ => rfl) Tryz.func46 rfl (tabL_cons ok123 tabL_nil) (k46 F123 )

/-- laws.toSent -/
abbrev T124 : Type 1 := (β : Type) → List UInt8 → List UInt8 → List UInt8 → Bool → (List UInt8 → List UInt8 → List UInt8 → Bool → Option β) → Option β
def P124 (F65 : T65) : T124 := fun β a_Top a_To_Host a_To_Path a_Guess k =>
 F65 _ a_To_Host a_To_Path fun t1 t2 =>
 k a_Top t1 t2 a_Guess
def F124 : T124 := P124 F65 
abbrev s124 : List (Bool × List CK) := [(true, [.str, .str, .str, .bool])]
def G124 (F : T124) (β : Type) (e : (List UInt8 × List UInt8 × List UInt8 × Bool × Unit) × Unit) (k : V → Option β) : Option β := F β e.1.1 e.1.2.1 e.1.2.2.1 e.1.2.2.2.1 (fun y1 y2 y3 y4 => k (.agg [.str y1, .str y2, .str y3, .bool y4]))
abbrev W124 (F : T124) : WT := wrap s124 (G124 F)
theorem k124 (F65 : T65) (β : Type) (e : argsT s124) (k : V → Option β) : fnK cfg (tabL [(65, W65 F65)]) noX 124 Tryz.f124 β (argsEnc s124 e) k = G124 (P124 F65 ) β e k := by kernel_rfl
theorem ok124 : FnOk D 124 (W124 F124) := fn_okW [(65, W65 F65)] noX (fun _ => rfl) Tryz.func124 rfl (tabL_cons ok65 tabL_nil) (k124 F65 )

/-- laws.toSentS -/
abbrev T47 : Type 1 := (β : Type) → List V → (List V → Option β) → Option β
def P47 (F124 : T124) : T47 := fun β a k =>
 chk (0 ≤ (a.length : Int) ∧ (a.length : Int) ≤ (a.length : Int) ∧ (a.length : Int) * 56 ≤ 140737488355328 ∧ (a.length : Int) ≤ 140737488355328) <|
 whileK (fun s1 =>
 br (decide ((lI s1 2) < ((lL s1 0).length : Int))) (
 chk (0 ≤ (lI s1 2)) <|
 idx true [.str, .str, .str, .bool] (lL s1 0) ((lI s1 2).toNat) fun (e2 : List UInt8 × List UInt8 × List UInt8 × Bool × Unit) =>
 F124 _ e2.1 e2.2.1 e2.2.2.1 e2.2.2.2.1 fun t3 t4 t5 b6 =>
 chk (0 ≤ (lI s1 2) ∧ (lI s1 2).toNat < (lL s1 1).length) <|
 storeO (lL s1 1) ((lI s1 2).toNat) 0 [.str t3, .str t4, .str t5, .bool b6] fun l7 =>
 some (.inl [.l (lL s1 0), .l l7, .i (IntKind.wrap .i64 ((lI s1 2) + 1))])) (
 some (.inr (0, [.l (lL s1 1)])))) [.l a, .l (List.replicate ((a.length : Int).toNat) (.agg [.str [], .str [], .str [], .bool false])), .i 0] fun (r8 : Nat × List Leaf) =>
 k (lL r8.2 0)
def F47 : T47 := P47 F124 
def X47 : Exits := fun i => lookN i [] [(3, [(.exit 0, xk 23 [(3, .own 1000000 4 .flat [])] [])])]
abbrev s47 : List (Bool × List CK) := [(false, [.sl 4 true])]
def G47 (F : T47) (β : Type) (e : (List V × Unit) × Unit) (k : V → Option β) : Option β := F β e.1.1 (fun y1 => k (.own 0 4 .flat y1))
abbrev W47 (F : T47) : WT := wrap s47 (G47 F)
theorem k47 (F124 : T124) (β : Type) (e : argsT s47) (k : V → Option β) : fnK cfg (tabL [(124, W124 F124)]) X47 47 Tryz.f47 β (argsEnc s47 e) k = G47 (P47 F124 ) β e k := by kernel_rfl
theorem ok47 : FnOk D 47 (W47 F47) := fn_okW [(124, W124 F124)] X47 (fun _ => rfl) Tryz.func47 rfl (tabL_cons ok124 tabL_nil) (k47 F124 )

/-- laws.toNet -/
abbrev T15 : Type 1 := (β : Type) → List V → List V → List V → Int → (List V → List V → List V → Int → Option β) → Option β
def P15 (F38 : T38) (F46 : T46) (F47 : T47) : T15 := fun β a_Servers a_Cache_Entries a_Log a_Now k =>
 F38 _ a_Servers fun l1 =>
 F46 _ a_Cache_Entries fun l2 =>
 F47 _ a_Log fun l3 =>
 k l1 l2 l3 a_Now
def F15 : T15 := P15 F38 F46 F47 
abbrev s15 : List (Bool × List CK) := [(true, [.sl 2 false, .sl 10 true, .sl 4 true, .int .i64])]
def G15 (F : T15) (β : Type) (e : (List V × List V × List V × Int × Unit) × Unit) (k : V → Option β) : Option β := F β e.1.1 e.1.2.1 e.1.2.2.1 e.1.2.2.2.1 (fun y1 y2 y3 y4 => k (.agg [.own 0 2 .clean y1, .own 1 10 .flat y2, .own 2 4 .flat y3, .int .i64 y4]))
abbrev W15 (F : T15) : WT := wrap s15 (G15 F)
theorem k15 (F38 : T38) (F46 : T46) (F47 : T47) (β : Type) (e : argsT s15) (k : V → Option β) : fnK cfg (tabL [(38, W38 F38), (46, W46 F46), (47, W47 F47)]) noX 15 Tryz.f15 β (argsEnc s15 e) k = G15 (P15 F38 F46 F47 ) β e k := by kernel_rfl
theorem ok15 : FnOk D 15 (W15 F15) := fn_okW [(38, W38 F38), (46, W46 F46), (47, W47 F47)] noX (fun _ => rfl) Tryz.func15 rfl (tabL_cons ok38 (tabL_cons ok46 (tabL_cons ok47 tabL_nil))) (k15 F38 F46 F47 )

/-- laws.toStringS -/
abbrev T73 : Type 1 := (β : Type) → List V → (List V → Option β) → Option β
def P73 : T73 := fun β a k =>
 chk (0 ≤ (a.length : Int) ∧ (a.length : Int) ≤ (a.length : Int) ∧ (a.length : Int) * 16 ≤ 140737488355328 ∧ (a.length : Int) ≤ 140737488355328) <|
 whileK (fun s1 =>
 br (decide ((lI s1 2) < ((lL s1 0).length : Int))) (
 chk (0 ≤ (lI s1 2)) <|
 idx false [.str] (lL s1 0) ((lI s1 2).toNat) fun (e2 : List UInt8 × Unit) =>
 chk (0 ≤ (lI s1 2) ∧ (lI s1 2).toNat < (lL s1 1).length) <|
 storeO (lL s1 1) ((lI s1 2).toNat) 0 [.str e2.1] fun l3 =>
 some (.inl [.l (lL s1 0), .l l3, .i (IntKind.wrap .i64 ((lI s1 2) + 1))])) (
 some (.inr (0, [.l (lL s1 1)])))) [.l a, .l (List.replicate ((a.length : Int).toNat) (.str [])), .i 0] fun (r4 : Nat × List Leaf) =>
 k (lL r4.2 0)
def F73 : T73 := P73 
def X73 : Exits := fun i => lookN i [] [(3, [(.exit 0, xk 22 [(3, .own 1000000 1 .flat [])] [])])]
abbrev s73 : List (Bool × List CK) := [(false, [.sl 1 true])]
def G73 (F : T73) (β : Type) (e : (List V × Unit) × Unit) (k : V → Option β) : Option β := F β e.1.1 (fun y1 => k (.own 0 1 .flat y1))
abbrev W73 (F : T73) : WT := wrap s73 (G73 F)
theorem k73 (β : Type) (e : argsT s73) (k : V → Option β) : fnK cfg (tabL []) X73 73 Tryz.f73 β (argsEnc s73 e) k = G73 (P73 ) β e k := by kernel_rfl
theorem ok73 : FnOk D 73 (W73 F73) := fn_okW [] X73 (fun _ => rfl) Tryz.func73 rfl (tabL_nil) (k73 )

/-- laws.toPolicy -/
abbrev T66 : Type 1 := (β : Type) → Bool → List V → List V → List V → List UInt8 → (Bool → List V → List V → List V → List UInt8 → Option β) → Option β
def P66 (F73 : T73) : T66 := fun β a_Set a_Scripts a_Styles a_Images a_Nonce k =>
 F73 _ a_Scripts fun l1 =>
 F73 _ a_Styles fun l2 =>
 F73 _ a_Images fun l3 =>
 k a_Set l1 l2 l3 a_Nonce
def F66 : T66 := P66 F73 
abbrev s66 : List (Bool × List CK) := [(true, [.bool, .sl 1 true, .sl 1 true, .sl 1 true, .str])]
def G66 (F : T66) (β : Type) (e : (Bool × List V × List V × List V × List UInt8 × Unit) × Unit) (k : V → Option β) : Option β := let a0_0 := e.1; let a0_1 := a0_0.2; let a0_2 := a0_1.2; let a0_3 := a0_2.2; let a0_4 := a0_3.2; F β a0_0.1 a0_1.1 a0_2.1 a0_3.1 a0_4.1 (fun y1 y2 y3 y4 y5 => k (.agg [.bool y1, .own 1 1 .flat y2, .own 2 1 .flat y3, .own 3 1 .flat y4, .str y5]))
abbrev W66 (F : T66) : WT := wrap s66 (G66 F)
theorem k66 (F73 : T73) (β : Type) (e : argsT s66) (k : V → Option β) : fnK cfg (tabL [(73, W73 F73)]) noX 66 Tryz.f66 β (argsEnc s66 e) k = G66 (P66 F73 ) β e k := by kernel_rfl
theorem ok66 : FnOk D 66 (W66 F66) := fn_okW [(73, W73 F73)] noX (fun _ => rfl) Tryz.func66 rfl (tabL_cons ok73 tabL_nil) (k66 F73 )

/-- laws.toTokenizer -/
abbrev T67 : Type 1 := (β : Type) → List UInt8 → (List UInt8 → Option β) → Option β
def P67 : T67 := fun β a_Rest k =>
 k a_Rest
def F67 : T67 := P67 
abbrev s67 : List (Bool × List CK) := [(true, [.str])]
def G67 (F : T67) (β : Type) (e : (List UInt8 × Unit) × Unit) (k : V → Option β) : Option β := F β e.1.1 (fun y1 => k (.agg [.str y1]))
abbrev W67 (F : T67) : WT := wrap s67 (G67 F)
theorem k67 (β : Type) (e : argsT s67) (k : V → Option β) : fnK cfg (tabL []) noX 67 Tryz.f67 β (argsEnc s67 e) k = G67 (P67 ) β e k := by kernel_rfl
theorem ok67 : FnOk D 67 (W67 F67) := fn_okW [] noX (fun _ => rfl) Tryz.func67 rfl (tabL_nil) (k67 )

/-- laws.toAttr -/
abbrev T193 : Type 1 := (β : Type) → List UInt8 → List UInt8 → (List UInt8 → List UInt8 → Option β) → Option β
def P193 : T193 := fun β a_Name a_Value k =>
 k a_Name a_Value
def F193 : T193 := P193 
abbrev s193 : List (Bool × List CK) := [(true, [.str, .str])]
def G193 (F : T193) (β : Type) (e : (List UInt8 × List UInt8 × Unit) × Unit) (k : V → Option β) : Option β := F β e.1.1 e.1.2.1 (fun y1 y2 => k (.agg [.str y1, .str y2]))
abbrev W193 (F : T193) : WT := wrap s193 (G193 F)
theorem k193 (β : Type) (e : argsT s193) (k : V → Option β) : fnK cfg (tabL []) noX 193 Tryz.f193 β (argsEnc s193 e) k = G193 (P193 ) β e k := by kernel_rfl
theorem ok193 : FnOk D 193 (W193 F193) := fn_okW [] noX (fun _ => rfl) Tryz.func193 rfl (tabL_nil) (k193 )

/-- laws.toAttrS -/
abbrev T180 : Type 1 := (β : Type) → List V → (List V → Option β) → Option β
def P180 (F193 : T193) : T180 := fun β a k =>
 chk (0 ≤ (a.length : Int) ∧ (a.length : Int) ≤ (a.length : Int) ∧ (a.length : Int) * 32 ≤ 140737488355328 ∧ (a.length : Int) ≤ 140737488355328) <|
 whileK (fun s1 =>
 br (decide ((lI s1 2) < ((lL s1 0).length : Int))) (
 chk (0 ≤ (lI s1 2)) <|
 idx true [.str, .str] (lL s1 0) ((lI s1 2).toNat) fun (e2 : List UInt8 × List UInt8 × Unit) =>
 F193 _ e2.1 e2.2.1 fun t3 t4 =>
 chk (0 ≤ (lI s1 2) ∧ (lI s1 2).toNat < (lL s1 1).length) <|
 storeO (lL s1 1) ((lI s1 2).toNat) 0 [.str t3, .str t4] fun l5 =>
 some (.inl [.l (lL s1 0), .l l5, .i (IntKind.wrap .i64 ((lI s1 2) + 1))])) (
 some (.inr (0, [.l (lL s1 1)])))) [.l a, .l (List.replicate ((a.length : Int).toNat) (.agg [.str [], .str []])), .i 0] fun (r6 : Nat × List Leaf) =>
 k (lL r6.2 0)
def F180 : T180 := P180 F193 
def X180 : Exits := fun i => lookN i [] [(3, [(.exit 0, xk 23 [(3, .own 1000000 2 .flat [])] [])])]
abbrev s180 : List (Bool × List CK) := [(false, [.sl 2 true])]
def G180 (F : T180) (β : Type) (e : (List V × Unit) × Unit) (k : V → Option β) : Option β := F β e.1.1 (fun y1 => k (.own 0 2 .flat y1))
abbrev W180 (F : T180) : WT := wrap s180 (G180 F)
theorem k180 (F193 : T193) (β : Type) (e : argsT s180) (k : V → Option β) : fnK cfg (tabL [(193, W193 F193)]) X180 180 Tryz.f180 β (argsEnc s180 e) k = G180 (P180 F193 ) β e k := by kernel_rfl
theorem ok180 : FnOk D 180 (W180 F180) := fn_okW [(193, W193 F193)] X180 (fun _ => rfl) Tryz.func180 rfl (tabL_cons ok193 tabL_nil) (k180 F193 )

/-- laws.toToken -/
abbrev T136 : Type 1 := (β : Type) → Int → List UInt8 → List V → List UInt8 → (Int → List UInt8 → List V → List UInt8 → Option β) → Option β
def P136 (F180 : T180) : T136 := fun β a_Kind a_Name a_Attrs a_Text k =>
 F180 _ a_Attrs fun l1 =>
 k a_Kind a_Name l1 a_Text
def F136 : T136 := P136 F180 
abbrev s136 : List (Bool × List CK) := [(true, [.int .i64, .str, .sl 2 true, .str])]
def G136 (F : T136) (β : Type) (e : (Int × List UInt8 × List V × List UInt8 × Unit) × Unit) (k : V → Option β) : Option β := F β e.1.1 e.1.2.1 e.1.2.2.1 e.1.2.2.2.1 (fun y1 y2 y3 y4 => k (.agg [.int .i64 y1, .str y2, .own 2 2 .flat y3, .str y4]))
abbrev W136 (F : T136) : WT := wrap s136 (G136 F)
theorem k136 (F180 : T180) (β : Type) (e : argsT s136) (k : V → Option β) : fnK cfg (tabL [(180, W180 F180)]) noX 136 Tryz.f136 β (argsEnc s136 e) k = G136 (P136 F180 ) β e k := by kernel_rfl
theorem ok136 : FnOk D 136 (W136 F136) := fn_okW [(180, W180 F180)] noX (fun _ => rfl) Tryz.func136 rfl (tabL_cons ok180 tabL_nil) (k136 F180 )

/-- laws.toTokenS -/
abbrev T68 : Type 1 := (β : Type) → List V → (List V → Option β) → Option β
def P68 (F136 : T136) : T68 := fun β a k =>
 chk (0 ≤ (a.length : Int) ∧ (a.length : Int) ≤ (a.length : Int) ∧ (a.length : Int) * 64 ≤ 140737488355328 ∧ (a.length : Int) ≤ 140737488355328) <|
 whileK (fun s1 =>
 br (decide ((lI s1 2) < ((lL s1 0).length : Int))) (
 chk (0 ≤ (lI s1 2)) <|
 idx true [.int .i64, .str, .sl 2 true, .str] (lL s1 0) ((lI s1 2).toNat) fun (e2 : Int × List UInt8 × List V × List UInt8 × Unit) =>
 F136 _ e2.1 e2.2.1 e2.2.2.1 e2.2.2.2.1 fun n3 t4 l5 t6 =>
 chk (0 ≤ (lI s1 2) ∧ (lI s1 2).toNat < (lL s1 1).length) <|
 storeO (lL s1 1) ((lI s1 2).toNat) 0 [.int .i64 n3, .str t4, .sl 2 true l5, .str t6] fun l7 =>
 some (.inl [.l (lL s1 0), .l l7, .i (IntKind.wrap .i64 ((lI s1 2) + 1))])) (
 some (.inr (0, [.l (lL s1 1)])))) [.l a, .l (List.replicate ((a.length : Int).toNat) (.agg [.int .i64 0, .str [], .sl 2 true [], .str []])), .i 0] fun (r8 : Nat × List Leaf) =>
 k (lL r8.2 0)
def F68 : T68 := P68 F136 
def X68 : Exits := fun i => lookN i [] [(3, [(.exit 0, xk 23 [(3, .own 1000000 4 .clean [])] [])])]
abbrev s68 : List (Bool × List CK) := [(false, [.sl 4 false])]
def G68 (F : T68) (β : Type) (e : (List V × Unit) × Unit) (k : V → Option β) : Option β := F β e.1.1 (fun y1 => k (.own 0 4 .clean y1))
abbrev W68 (F : T68) : WT := wrap s68 (G68 F)
theorem k68 (F136 : T136) (β : Type) (e : argsT s68) (k : V → Option β) : fnK cfg (tabL [(136, W136 F136)]) X68 68 Tryz.f68 β (argsEnc s68 e) k = G68 (P68 F136 ) β e k := by kernel_rfl
theorem ok68 : FnOk D 68 (W68 F68) := fn_okW [(136, W136 F136)] X68 (fun _ => rfl) Tryz.func68 rfl (tabL_cons ok136 tabL_nil) (k68 F136 )

/-- laws.toNode -/
abbrev T181 : Type 1 := (β : Type) → List UInt8 → List UInt8 → Int → List V → (List UInt8 → List UInt8 → Int → List V → Option β) → Option β
def P181 (F180 : T180) : T181 := fun β a_Name a_Text a_Parent a_Attrs k =>
 F180 _ a_Attrs fun l1 =>
 k a_Name a_Text a_Parent l1
def F181 : T181 := P181 F180 
abbrev s181 : List (Bool × List CK) := [(true, [.str, .str, .int .i64, .sl 2 true])]
def G181 (F : T181) (β : Type) (e : (List UInt8 × List UInt8 × Int × List V × Unit) × Unit) (k : V → Option β) : Option β := F β e.1.1 e.1.2.1 e.1.2.2.1 e.1.2.2.2.1 (fun y1 y2 y3 y4 => k (.agg [.str y1, .str y2, .int .i64 y3, .own 3 2 .flat y4]))
abbrev W181 (F : T181) : WT := wrap s181 (G181 F)
theorem k181 (F180 : T180) (β : Type) (e : argsT s181) (k : V → Option β) : fnK cfg (tabL [(180, W180 F180)]) noX 181 Tryz.f181 β (argsEnc s181 e) k = G181 (P181 F180 ) β e k := by kernel_rfl
theorem ok181 : FnOk D 181 (W181 F181) := fn_okW [(180, W180 F180)] noX (fun _ => rfl) Tryz.func181 rfl (tabL_cons ok180 tabL_nil) (k181 F180 )

/-- laws.toNodeS -/
abbrev T137 : Type 1 := (β : Type) → List V → (List V → Option β) → Option β
def P137 (F181 : T181) : T137 := fun β a k =>
 chk (0 ≤ (a.length : Int) ∧ (a.length : Int) ≤ (a.length : Int) ∧ (a.length : Int) * 64 ≤ 140737488355328 ∧ (a.length : Int) ≤ 140737488355328) <|
 whileK (fun s1 =>
 br (decide ((lI s1 2) < ((lL s1 0).length : Int))) (
 chk (0 ≤ (lI s1 2)) <|
 idx true [.str, .str, .int .i64, .sl 2 true] (lL s1 0) ((lI s1 2).toNat) fun (e2 : List UInt8 × List UInt8 × Int × List V × Unit) =>
 F181 _ e2.1 e2.2.1 e2.2.2.1 e2.2.2.2.1 fun t3 t4 n5 l6 =>
 chk (0 ≤ (lI s1 2) ∧ (lI s1 2).toNat < (lL s1 1).length) <|
 storeO (lL s1 1) ((lI s1 2).toNat) 0 [.str t3, .str t4, .int .i64 n5, .sl 2 true l6] fun l7 =>
 some (.inl [.l (lL s1 0), .l l7, .i (IntKind.wrap .i64 ((lI s1 2) + 1))])) (
 some (.inr (0, [.l (lL s1 1)])))) [.l a, .l (List.replicate ((a.length : Int).toNat) (.agg [.str [], .str [], .int .i64 0, .sl 2 true []])), .i 0] fun (r8 : Nat × List Leaf) =>
 k (lL r8.2 0)
def F137 : T137 := P137 F181 
def X137 : Exits := fun i => lookN i [] [(3, [(.exit 0, xk 23 [(3, .own 1000000 4 .clean [])] [])])]
abbrev s137 : List (Bool × List CK) := [(false, [.sl 4 false])]
def G137 (F : T137) (β : Type) (e : (List V × Unit) × Unit) (k : V → Option β) : Option β := F β e.1.1 (fun y1 => k (.own 0 4 .clean y1))
abbrev W137 (F : T137) : WT := wrap s137 (G137 F)
theorem k137 (F181 : T181) (β : Type) (e : argsT s137) (k : V → Option β) : fnK cfg (tabL [(181, W181 F181)]) X137 137 Tryz.f137 β (argsEnc s137 e) k = G137 (P137 F181 ) β e k := by kernel_rfl
theorem ok137 : FnOk D 137 (W137 F137) := fn_okW [(181, W181 F181)] X137 (fun _ => rfl) Tryz.func137 rfl (tabL_cons ok181 tabL_nil) (k137 F181 )

/-- laws.toIntS -/
abbrev T138 : Type 1 := (β : Type) → List V → (List V → Option β) → Option β
def P138 : T138 := fun β a k =>
 chk (0 ≤ (a.length : Int) ∧ (a.length : Int) ≤ (a.length : Int) ∧ (a.length : Int) * 8 ≤ 140737488355328 ∧ (a.length : Int) ≤ 140737488355328) <|
 whileK (fun s1 =>
 br (decide ((lI s1 2) < ((lL s1 0).length : Int))) (
 chk (0 ≤ (lI s1 2)) <|
 idx false [.int .i64] (lL s1 0) ((lI s1 2).toNat) fun (e2 : Int × Unit) =>
 chk (0 ≤ (lI s1 2) ∧ (lI s1 2).toNat < (lL s1 1).length) <|
 storeO (lL s1 1) ((lI s1 2).toNat) 0 [.int .i64 e2.1] fun l3 =>
 some (.inl [.l (lL s1 0), .l l3, .i (IntKind.wrap .i64 ((lI s1 2) + 1))])) (
 some (.inr (0, [.l (lL s1 1)])))) [.l a, .l (List.replicate ((a.length : Int).toNat) (.int .i64 0)), .i 0] fun (r4 : Nat × List Leaf) =>
 k (lL r4.2 0)
def F138 : T138 := P138 
def X138 : Exits := fun i => lookN i [] [(3, [(.exit 0, xk 22 [(3, .own 1000000 1 .flat [])] [])])]
abbrev s138 : List (Bool × List CK) := [(false, [.sl 1 true])]
def G138 (F : T138) (β : Type) (e : (List V × Unit) × Unit) (k : V → Option β) : Option β := F β e.1.1 (fun y1 => k (.own 0 1 .flat y1))
abbrev W138 (F : T138) : WT := wrap s138 (G138 F)
theorem k138 (β : Type) (e : argsT s138) (k : V → Option β) : fnK cfg (tabL []) X138 138 Tryz.f138 β (argsEnc s138 e) k = G138 (P138 ) β e k := by kernel_rfl
theorem ok138 : FnOk D 138 (W138 F138) := fn_okW [] X138 (fun _ => rfl) Tryz.func138 rfl (tabL_nil) (k138 )

/-- laws.toBuilder -/
abbrev T69 : Type 1 := (β : Type) → List V → List V → (List V → List V → Option β) → Option β
def P69 (F137 : T137) (F138 : T138) : T69 := fun β a_Nodes a_Open k =>
 F137 _ a_Nodes fun l1 =>
 F138 _ a_Open fun l2 =>
 k l1 l2
def F69 : T69 := P69 F137 F138 
abbrev s69 : List (Bool × List CK) := [(true, [.sl 4 false, .sl 1 true])]
def G69 (F : T69) (β : Type) (e : (List V × List V × Unit) × Unit) (k : V → Option β) : Option β := F β e.1.1 e.1.2.1 (fun y1 y2 => k (.agg [.own 0 4 .clean y1, .own 1 1 .flat y2]))
abbrev W69 (F : T69) : WT := wrap s69 (G69 F)
theorem k69 (F137 : T137) (F138 : T138) (β : Type) (e : argsT s69) (k : V → Option β) : fnK cfg (tabL [(137, W137 F137), (138, W138 F138)]) noX 69 Tryz.f69 β (argsEnc s69 e) k = G69 (P69 F137 F138 ) β e k := by kernel_rfl
theorem ok69 : FnOk D 69 (W69 F69) := fn_okW [(137, W137 F137), (138, W138 F138)] noX (fun _ => rfl) Tryz.func69 rfl (tabL_cons ok137 (tabL_cons ok138 tabL_nil)) (k69 F137 F138 )

/-- laws.toSlot -/
abbrev T139 : Type 1 := (β : Type) → Int → List UInt8 → List UInt8 → List UInt8 → Int → Bool → Int → List UInt8 → (Int → List UInt8 → List UInt8 → List UInt8 → Int → Bool → Int → List UInt8 → Option β) → Option β
def P139 (F65 : T65) : T139 := fun β a_Mode a_To_Host a_To_Path a_Digest a_Node a_Done a_Code a_Body k =>
 F65 _ a_To_Host a_To_Path fun t1 t2 =>
 k a_Mode t1 t2 a_Digest a_Node a_Done a_Code a_Body
def F139 : T139 := P139 F65 
abbrev s139 : List (Bool × List CK) := [(true, [.int .i64, .str, .str, .str, .int .i64, .bool, .int .i64, .str])]
def G139 (F : T139) (β : Type) (e : (Int × List UInt8 × List UInt8 × List UInt8 × Int × Bool × Int × List UInt8 × Unit) × Unit) (k : V → Option β) : Option β := let a0_0 := e.1; let a0_1 := a0_0.2; let a0_2 := a0_1.2; let a0_3 := a0_2.2; let a0_4 := a0_3.2; let a0_5 := a0_4.2; let a0_6 := a0_5.2; let a0_7 := a0_6.2; F β a0_0.1 a0_1.1 a0_2.1 a0_3.1 a0_4.1 a0_5.1 a0_6.1 a0_7.1 (fun y1 y2 y3 y4 y5 y6 y7 y8 => k (.agg [.int .i64 y1, .str y2, .str y3, .str y4, .int .i64 y5, .bool y6, .int .i64 y7, .str y8]))
abbrev W139 (F : T139) : WT := wrap s139 (G139 F)
theorem k139 (F65 : T65) (β : Type) (e : argsT s139) (k : V → Option β) : fnK cfg (tabL [(65, W65 F65)]) noX 139 Tryz.f139 β (argsEnc s139 e) k = G139 (P139 F65 ) β e k := by kernel_rfl
theorem ok139 : FnOk D 139 (W139 F139) := fn_okW [(65, W65 F65)] noX (fun _ => rfl) Tryz.func139 rfl (tabL_cons ok65 tabL_nil) (k139 F65 )

/-- laws.toSlotS -/
abbrev T70 : Type 1 := (β : Type) → List V → (List V → Option β) → Option β
def P70 (F139 : T139) : T70 := fun β a k =>
 chk (0 ≤ (a.length : Int) ∧ (a.length : Int) ≤ (a.length : Int) ∧ (a.length : Int) * 96 ≤ 140737488355328 ∧ (a.length : Int) ≤ 140737488355328) <|
 whileK (fun s1 =>
 br (decide ((lI s1 2) < ((lL s1 0).length : Int))) (
 chk (0 ≤ (lI s1 2)) <|
 idx true [.int .i64, .str, .str, .str, .int .i64, .bool, .int .i64, .str] (lL s1 0) ((lI s1 2).toNat) fun (e2 : Int × List UInt8 × List UInt8 × List UInt8 × Int × Bool × Int × List UInt8 × Unit) =>
 F139 _ e2.1 e2.2.1 e2.2.2.1 e2.2.2.2.1 e2.2.2.2.2.1 e2.2.2.2.2.2.1 e2.2.2.2.2.2.2.1 e2.2.2.2.2.2.2.2.1 fun n3 t4 t5 t6 n7 b8 n9 t10 =>
 chk (0 ≤ (lI s1 2) ∧ (lI s1 2).toNat < (lL s1 1).length) <|
 storeO (lL s1 1) ((lI s1 2).toNat) 0 [.int .i64 n3, .str t4, .str t5, .str t6, .int .i64 n7, .bool b8, .int .i64 n9, .str t10] fun l11 =>
 some (.inl [.l (lL s1 0), .l l11, .i (IntKind.wrap .i64 ((lI s1 2) + 1))])) (
 some (.inr (0, [.l (lL s1 1)])))) [.l a, .l (List.replicate ((a.length : Int).toNat) (.agg [.int .i64 0, .str [], .str [], .str [], .int .i64 0, .bool false, .int .i64 0, .str []])), .i 0] fun (r12 : Nat × List Leaf) =>
 k (lL r12.2 0)
def F70 : T70 := P70 F139 
def X70 : Exits := fun i => lookN i [] [(3, [(.exit 0, xk 23 [(3, .own 1000000 8 .flat [])] [])])]
abbrev s70 : List (Bool × List CK) := [(false, [.sl 8 true])]
def G70 (F : T70) (β : Type) (e : (List V × Unit) × Unit) (k : V → Option β) : Option β := F β e.1.1 (fun y1 => k (.own 0 8 .flat y1))
abbrev W70 (F : T70) : WT := wrap s70 (G70 F)
theorem k70 (F139 : T139) (β : Type) (e : argsT s70) (k : V → Option β) : fnK cfg (tabL [(139, W139 F139)]) X70 70 Tryz.f70 β (argsEnc s70 e) k = G70 (P70 F139 ) β e k := by kernel_rfl
theorem ok70 : FnOk D 70 (W70 F70) := fn_okW [(139, W139 F139)] X70 (fun _ => rfl) Tryz.func70 rfl (tabL_cons ok139 tabL_nil) (k70 F139 )

/-- laws.toModule -/
abbrev T140 : Type 1 := (β : Type) → List UInt8 → List UInt8 → Bool → Int → List UInt8 → (List UInt8 → List UInt8 → Bool → Int → List UInt8 → Option β) → Option β
def P140 (F65 : T65) : T140 := fun β a_To_Host a_To_Path a_Done a_Code a_Body k =>
 F65 _ a_To_Host a_To_Path fun t1 t2 =>
 k t1 t2 a_Done a_Code a_Body
def F140 : T140 := P140 F65 
abbrev s140 : List (Bool × List CK) := [(true, [.str, .str, .bool, .int .i64, .str])]
def G140 (F : T140) (β : Type) (e : (List UInt8 × List UInt8 × Bool × Int × List UInt8 × Unit) × Unit) (k : V → Option β) : Option β := let a0_0 := e.1; let a0_1 := a0_0.2; let a0_2 := a0_1.2; let a0_3 := a0_2.2; let a0_4 := a0_3.2; F β a0_0.1 a0_1.1 a0_2.1 a0_3.1 a0_4.1 (fun y1 y2 y3 y4 y5 => k (.agg [.str y1, .str y2, .bool y3, .int .i64 y4, .str y5]))
abbrev W140 (F : T140) : WT := wrap s140 (G140 F)
theorem k140 (F65 : T65) (β : Type) (e : argsT s140) (k : V → Option β) : fnK cfg (tabL [(65, W65 F65)]) noX 140 Tryz.f140 β (argsEnc s140 e) k = G140 (P140 F65 ) β e k := by kernel_rfl
theorem ok140 : FnOk D 140 (W140 F140) := fn_okW [(65, W65 F65)] noX (fun _ => rfl) Tryz.func140 rfl (tabL_cons ok65 tabL_nil) (k140 F65 )

/-- laws.toModuleS -/
abbrev T71 : Type 1 := (β : Type) → List V → (List V → Option β) → Option β
def P71 (F140 : T140) : T71 := fun β a k =>
 chk (0 ≤ (a.length : Int) ∧ (a.length : Int) ≤ (a.length : Int) ∧ (a.length : Int) * 64 ≤ 140737488355328 ∧ (a.length : Int) ≤ 140737488355328) <|
 whileK (fun s1 =>
 br (decide ((lI s1 2) < ((lL s1 0).length : Int))) (
 chk (0 ≤ (lI s1 2)) <|
 idx true [.str, .str, .bool, .int .i64, .str] (lL s1 0) ((lI s1 2).toNat) fun (e2 : List UInt8 × List UInt8 × Bool × Int × List UInt8 × Unit) =>
 F140 _ e2.1 e2.2.1 e2.2.2.1 e2.2.2.2.1 e2.2.2.2.2.1 fun t3 t4 b5 n6 t7 =>
 chk (0 ≤ (lI s1 2) ∧ (lI s1 2).toNat < (lL s1 1).length) <|
 storeO (lL s1 1) ((lI s1 2).toNat) 0 [.str t3, .str t4, .bool b5, .int .i64 n6, .str t7] fun l8 =>
 some (.inl [.l (lL s1 0), .l l8, .i (IntKind.wrap .i64 ((lI s1 2) + 1))])) (
 some (.inr (0, [.l (lL s1 1)])))) [.l a, .l (List.replicate ((a.length : Int).toNat) (.agg [.str [], .str [], .bool false, .int .i64 0, .str []])), .i 0] fun (r9 : Nat × List Leaf) =>
 k (lL r9.2 0)
def F71 : T71 := P71 F140 
def X71 : Exits := fun i => lookN i [] [(3, [(.exit 0, xk 23 [(3, .own 1000000 5 .flat [])] [])])]
abbrev s71 : List (Bool × List CK) := [(false, [.sl 5 true])]
def G71 (F : T71) (β : Type) (e : (List V × Unit) × Unit) (k : V → Option β) : Option β := F β e.1.1 (fun y1 => k (.own 0 5 .flat y1))
abbrev W71 (F : T71) : WT := wrap s71 (G71 F)
theorem k71 (F140 : T140) (β : Type) (e : argsT s71) (k : V → Option β) : fnK cfg (tabL [(140, W140 F140)]) X71 71 Tryz.f71 β (argsEnc s71 e) k = G71 (P71 F140 ) β e k := by kernel_rfl
theorem ok71 : FnOk D 71 (W71 F71) := fn_okW [(140, W140 F140)] X71 (fun _ => rfl) Tryz.func71 rfl (tabL_cons ok140 tabL_nil) (k71 F140 )

/-- laws.toAddrS -/
abbrev T72 : Type 1 := (β : Type) → List V → (List V → Option β) → Option β
def P72 (F65 : T65) : T72 := fun β a k =>
 chk (0 ≤ (a.length : Int) ∧ (a.length : Int) ≤ (a.length : Int) ∧ (a.length : Int) * 32 ≤ 140737488355328 ∧ (a.length : Int) ≤ 140737488355328) <|
 whileK (fun s1 =>
 br (decide ((lI s1 2) < ((lL s1 0).length : Int))) (
 chk (0 ≤ (lI s1 2)) <|
 idx true [.str, .str] (lL s1 0) ((lI s1 2).toNat) fun (e2 : List UInt8 × List UInt8 × Unit) =>
 F65 _ e2.1 e2.2.1 fun t3 t4 =>
 chk (0 ≤ (lI s1 2) ∧ (lI s1 2).toNat < (lL s1 1).length) <|
 storeO (lL s1 1) ((lI s1 2).toNat) 0 [.str t3, .str t4] fun l5 =>
 some (.inl [.l (lL s1 0), .l l5, .i (IntKind.wrap .i64 ((lI s1 2) + 1))])) (
 some (.inr (0, [.l (lL s1 1)])))) [.l a, .l (List.replicate ((a.length : Int).toNat) (.agg [.str [], .str []])), .i 0] fun (r6 : Nat × List Leaf) =>
 k (lL r6.2 0)
def F72 : T72 := P72 F65 
def X72 : Exits := fun i => lookN i [] [(3, [(.exit 0, xk 23 [(3, .own 1000000 2 .flat [])] [])])]
abbrev s72 : List (Bool × List CK) := [(false, [.sl 2 true])]
def G72 (F : T72) (β : Type) (e : (List V × Unit) × Unit) (k : V → Option β) : Option β := F β e.1.1 (fun y1 => k (.own 0 2 .flat y1))
abbrev W72 (F : T72) : WT := wrap s72 (G72 F)
theorem k72 (F65 : T65) (β : Type) (e : argsT s72) (k : V → Option β) : fnK cfg (tabL [(65, W65 F65)]) X72 72 Tryz.f72 β (argsEnc s72 e) k = G72 (P72 F65 ) β e k := by kernel_rfl
theorem ok72 : FnOk D 72 (W72 F72) := fn_okW [(65, W65 F65)] X72 (fun _ => rfl) Tryz.func72 rfl (tabL_cons ok65 tabL_nil) (k72 F65 )

/-- laws.toPage -/
abbrev T20 : Type 1 := (β : Type) → List UInt8 → List UInt8 → Bool → List V → List V → List V → List UInt8 → List UInt8 → List V → Bool → List V → List V → List V → List V → List V → Int → Int → Int → Int → List V → List V → Bool → (List UInt8 → List UInt8 → Bool → List V → List V → List V → List UInt8 → List UInt8 → List V → Bool → List V → List V → List V → List V → List V → Int → Int → Int → Int → List V → List V → Bool → Option β) → Option β
def P20 (F65 : T65) (F66 : T66) (F67 : T67) (F68 : T68) (F69 : T69) (F70 : T70) (F71 : T71) (F72 : T72) (F73 : T73) : T20 := fun β a_Addr_Host a_Addr_Path a_Policy_Set a_Policy_Scripts a_Policy_Styles a_Policy_Images a_Policy_Nonce a_Tok_Rest a_Queue a_Ended a_Builder_Nodes a_Builder_Open a_Slots a_Mods a_Entries a_Block a_Inline a_Deferred a_Entered a_Ran a_Log a_Loaded k =>
 F65 _ a_Addr_Host a_Addr_Path fun t1 t2 =>
 F66 _ a_Policy_Set a_Policy_Scripts a_Policy_Styles a_Policy_Images a_Policy_Nonce fun b3 l4 l5 l6 t7 =>
 F67 _ a_Tok_Rest fun t8 =>
 F68 _ a_Queue fun l9 =>
 F69 _ a_Builder_Nodes a_Builder_Open fun l10 l11 =>
 F70 _ a_Slots fun l12 =>
 F71 _ a_Mods fun l13 =>
 F72 _ a_Entries fun l14 =>
 F72 _ a_Ran fun l15 =>
 F73 _ a_Log fun l16 =>
 k t1 t2 b3 l4 l5 l6 t7 t8 l9 a_Ended l10 l11 l12 l13 l14 a_Block a_Inline a_Deferred a_Entered l15 l16 a_Loaded
def F20 : T20 := P20 F65 F66 F67 F68 F69 F70 F71 F72 F73 
abbrev s20 : List (Bool × List CK) := [(true, [.str, .str, .bool, .sl 1 true, .sl 1 true, .sl 1 true, .str, .str, .sl 4 false, .bool, .sl 4 false, .sl 1 true, .sl 8 true, .sl 5 true, .sl 2 true, .int .i64, .int .i64, .int .i64, .int .i64, .sl 2 true, .sl 1 true, .bool])]
def G20 (F : T20) (β : Type) (e : (List UInt8 × List UInt8 × Bool × List V × List V × List V × List UInt8 × List UInt8 × List V × Bool × List V × List V × List V × List V × List V × Int × Int × Int × Int × List V × List V × Bool × Unit) × Unit) (k : V → Option β) : Option β := let a0_0 := e.1; let a0_1 := a0_0.2; let a0_2 := a0_1.2; let a0_3 := a0_2.2; let a0_4 := a0_3.2; let a0_5 := a0_4.2; let a0_6 := a0_5.2; let a0_7 := a0_6.2; let a0_8 := a0_7.2; let a0_9 := a0_8.2; let a0_10 := a0_9.2; let a0_11 := a0_10.2; let a0_12 := a0_11.2; let a0_13 := a0_12.2; let a0_14 := a0_13.2; let a0_15 := a0_14.2; let a0_16 := a0_15.2; let a0_17 := a0_16.2; let a0_18 := a0_17.2; let a0_19 := a0_18.2; let a0_20 := a0_19.2; let a0_21 := a0_20.2; F β a0_0.1 a0_1.1 a0_2.1 a0_3.1 a0_4.1 a0_5.1 a0_6.1 a0_7.1 a0_8.1 a0_9.1 a0_10.1 a0_11.1 a0_12.1 a0_13.1 a0_14.1 a0_15.1 a0_16.1 a0_17.1 a0_18.1 a0_19.1 a0_20.1 a0_21.1 (fun y1 y2 y3 y4 y5 y6 y7 y8 y9 y10 y11 y12 y13 y14 y15 y16 y17 y18 y19 y20 y21 y22 => k (.agg [.str y1, .str y2, .bool y3, .own 3 1 .flat y4, .own 4 1 .flat y5, .own 5 1 .flat y6, .str y7, .str y8, .own 8 4 .clean y9, .bool y10, .own 10 4 .clean y11, .own 11 1 .flat y12, .own 12 8 .flat y13, .own 13 5 .flat y14, .own 14 2 .flat y15, .int .i64 y16, .int .i64 y17, .int .i64 y18, .int .i64 y19, .own 19 2 .flat y20, .own 20 1 .flat y21, .bool y22]))
abbrev W20 (F : T20) : WT := wrap s20 (G20 F)
theorem k20 (F65 : T65) (F66 : T66) (F67 : T67) (F68 : T68) (F69 : T69) (F70 : T70) (F71 : T71) (F72 : T72) (F73 : T73) (β : Type) (e : argsT s20) (k : V → Option β) : fnK cfg (tabL [(65, W65 F65), (66, W66 F66), (67, W67 F67), (68, W68 F68), (69, W69 F69), (70, W70 F70), (71, W71 F71), (72, W72 F72), (73, W73 F73)]) noX 20 Tryz.f20 β (argsEnc s20 e) k = G20 (P20 F65 F66 F67 F68 F69 F70 F71 F72 F73 ) β e k := by kernel_rfl
theorem ok20 : FnOk D 20 (W20 F20) := fn_okW [(65, W65 F65), (66, W66 F66), (67, W67 F67), (68, W68 F68), (69, W69 F69), (70, W70 F70), (71, W71 F71), (72, W72 F72), (73, W73 F73)] noX (fun _ => rfl) Tryz.func20 rfl (tabL_cons ok65 (tabL_cons ok66 (tabL_cons ok67 (tabL_cons ok68 (tabL_cons ok69 (tabL_cons ok70 (tabL_cons ok71 (tabL_cons ok72 (tabL_cons ok73 tabL_nil))))))))) (k20 F65 F66 F67 F68 F69 F70 F71 F72 F73 )

/-- laws.toKept -/
abbrev T106 : Type 1 := (β : Type) → List UInt8 → List UInt8 → Int → Int → List UInt8 → Int → Bool → List UInt8 → (List UInt8 → List UInt8 → Int → Int → List UInt8 → Int → Bool → List UInt8 → Option β) → Option β
def P106 (F65 : T65) (F166 : T166) : T106 := fun β a_To_Host a_To_Path a_Response_Status a_Response_Kind a_Response_Body a_Response_Age a_Response_Shares a_Response_Policy k =>
 F65 _ a_To_Host a_To_Path fun t1 t2 =>
 F166 _ a_Response_Status a_Response_Kind a_Response_Body a_Response_Age a_Response_Shares a_Response_Policy fun n3 n4 t5 n6 b7 t8 =>
 k t1 t2 n3 n4 t5 n6 b7 t8
def F106 : T106 := P106 F65 F166 
abbrev s106 : List (Bool × List CK) := [(true, [.str, .str, .int .i64, .int .i64, .str, .int .i64, .bool, .str])]
def G106 (F : T106) (β : Type) (e : (List UInt8 × List UInt8 × Int × Int × List UInt8 × Int × Bool × List UInt8 × Unit) × Unit) (k : V → Option β) : Option β := let a0_0 := e.1; let a0_1 := a0_0.2; let a0_2 := a0_1.2; let a0_3 := a0_2.2; let a0_4 := a0_3.2; let a0_5 := a0_4.2; let a0_6 := a0_5.2; let a0_7 := a0_6.2; F β a0_0.1 a0_1.1 a0_2.1 a0_3.1 a0_4.1 a0_5.1 a0_6.1 a0_7.1 (fun y1 y2 y3 y4 y5 y6 y7 y8 => k (.agg [.str y1, .str y2, .int .i64 y3, .int .i64 y4, .str y5, .int .i64 y6, .bool y7, .str y8]))
abbrev W106 (F : T106) : WT := wrap s106 (G106 F)
theorem k106 (F65 : T65) (F166 : T166) (β : Type) (e : argsT s106) (k : V → Option β) : fnK cfg (tabL [(65, W65 F65), (166, W166 F166)]) noX 106 Tryz.f106 β (argsEnc s106 e) k = G106 (P106 F65 F166 ) β e k := by kernel_rfl
theorem ok106 : FnOk D 106 (W106 F106) := fn_okW [(65, W65 F65), (166, W166 F166)] noX (fun _ => rfl) Tryz.func106 rfl (tabL_cons ok65 (tabL_cons ok166 tabL_nil)) (k106 F65 F166 )

/-- laws.toKeptS -/
abbrev T37 : Type 1 := (β : Type) → List V → (List V → Option β) → Option β
def P37 (F106 : T106) : T37 := fun β a k =>
 chk (0 ≤ (a.length : Int) ∧ (a.length : Int) ≤ (a.length : Int) ∧ (a.length : Int) * 96 ≤ 140737488355328 ∧ (a.length : Int) ≤ 140737488355328) <|
 whileK (fun s1 =>
 br (decide ((lI s1 2) < ((lL s1 0).length : Int))) (
 chk (0 ≤ (lI s1 2)) <|
 idx true [.str, .str, .int .i64, .int .i64, .str, .int .i64, .bool, .str] (lL s1 0) ((lI s1 2).toNat) fun (e2 : List UInt8 × List UInt8 × Int × Int × List UInt8 × Int × Bool × List UInt8 × Unit) =>
 F106 _ e2.1 e2.2.1 e2.2.2.1 e2.2.2.2.1 e2.2.2.2.2.1 e2.2.2.2.2.2.1 e2.2.2.2.2.2.2.1 e2.2.2.2.2.2.2.2.1 fun t3 t4 n5 n6 t7 n8 b9 t10 =>
 chk (0 ≤ (lI s1 2) ∧ (lI s1 2).toNat < (lL s1 1).length) <|
 storeO (lL s1 1) ((lI s1 2).toNat) 0 [.str t3, .str t4, .int .i64 n5, .int .i64 n6, .str t7, .int .i64 n8, .bool b9, .str t10] fun l11 =>
 some (.inl [.l (lL s1 0), .l l11, .i (IntKind.wrap .i64 ((lI s1 2) + 1))])) (
 some (.inr (0, [.l (lL s1 1)])))) [.l a, .l (List.replicate ((a.length : Int).toNat) (.agg [.str [], .str [], .int .i64 0, .int .i64 0, .str [], .int .i64 0, .bool false, .str []])), .i 0] fun (r12 : Nat × List Leaf) =>
 k (lL r12.2 0)
def F37 : T37 := P37 F106 
def X37 : Exits := fun i => lookN i [] [(3, [(.exit 0, xk 23 [(3, .own 1000000 8 .flat [])] [])])]
abbrev s37 : List (Bool × List CK) := [(false, [.sl 8 true])]
def G37 (F : T37) (β : Type) (e : (List V × Unit) × Unit) (k : V → Option β) : Option β := F β e.1.1 (fun y1 => k (.own 0 8 .flat y1))
abbrev W37 (F : T37) : WT := wrap s37 (G37 F)
theorem k37 (F106 : T106) (β : Type) (e : argsT s37) (k : V → Option β) : fnK cfg (tabL [(106, W106 F106)]) X37 37 Tryz.f37 β (argsEnc s37 e) k = G37 (P37 F106 ) β e k := by kernel_rfl
theorem ok37 : FnOk D 37 (W37 F37) := fn_okW [(106, W106 F106)] X37 (fun _ => rfl) Tryz.func37 rfl (tabL_cons ok106 tabL_nil) (k37 F106 )

/-- laws.toHidden -/
abbrev T10 : Type 1 := (β : Type) → Bool → List UInt8 → List UInt8 → Bool → List V → List V → List V → List UInt8 → List UInt8 → List V → Bool → List V → List V → List V → List V → List V → Int → Int → Int → Int → List V → List V → Bool → List V → List V → Int → (Bool → List UInt8 → List UInt8 → Bool → List V → List V → List V → List UInt8 → List UInt8 → List V → Bool → List V → List V → List V → List V → List V → Int → Int → Int → Int → List V → List V → Bool → List V → List V → Int → Option β) → Option β
def P10 (F20 : T20) (F37 : T37) (F38 : T38) : T10 := fun β a_Ready a_Page_Addr_Host a_Page_Addr_Path a_Page_Policy_Set a_Page_Policy_Scripts a_Page_Policy_Styles a_Page_Policy_Images a_Page_Policy_Nonce a_Page_Tok_Rest a_Page_Queue a_Page_Ended a_Page_Builder_Nodes a_Page_Builder_Open a_Page_Slots a_Page_Mods a_Page_Entries a_Page_Block a_Page_Inline a_Page_Deferred a_Page_Entered a_Page_Ran a_Page_Log a_Page_Loaded a_Taken a_Servers a_Now k =>
 F20 _ a_Page_Addr_Host a_Page_Addr_Path a_Page_Policy_Set a_Page_Policy_Scripts a_Page_Policy_Styles a_Page_Policy_Images a_Page_Policy_Nonce a_Page_Tok_Rest a_Page_Queue a_Page_Ended a_Page_Builder_Nodes a_Page_Builder_Open a_Page_Slots a_Page_Mods a_Page_Entries a_Page_Block a_Page_Inline a_Page_Deferred a_Page_Entered a_Page_Ran a_Page_Log a_Page_Loaded fun t1 t2 b3 l4 l5 l6 t7 t8 l9 b10 l11 l12 l13 l14 l15 n16 n17 n18 n19 l20 l21 b22 =>
 F37 _ a_Taken fun l23 =>
 F38 _ a_Servers fun l24 =>
 k a_Ready t1 t2 b3 l4 l5 l6 t7 t8 l9 b10 l11 l12 l13 l14 l15 n16 n17 n18 n19 l20 l21 b22 l23 l24 a_Now
def F10 : T10 := P10 F20 F37 F38 
abbrev s10 : List (Bool × List CK) := [(true, [.bool, .str, .str, .bool, .sl 1 true, .sl 1 true, .sl 1 true, .str, .str, .sl 4 false, .bool, .sl 4 false, .sl 1 true, .sl 8 true, .sl 5 true, .sl 2 true, .int .i64, .int .i64, .int .i64, .int .i64, .sl 2 true, .sl 1 true, .bool, .sl 8 true, .sl 2 false, .int .i64])]
def G10 (F : T10) (β : Type) (e : (Bool × List UInt8 × List UInt8 × Bool × List V × List V × List V × List UInt8 × List UInt8 × List V × Bool × List V × List V × List V × List V × List V × Int × Int × Int × Int × List V × List V × Bool × List V × List V × Int × Unit) × Unit) (k : V → Option β) : Option β := let a0_0 := e.1; let a0_1 := a0_0.2; let a0_2 := a0_1.2; let a0_3 := a0_2.2; let a0_4 := a0_3.2; let a0_5 := a0_4.2; let a0_6 := a0_5.2; let a0_7 := a0_6.2; let a0_8 := a0_7.2; let a0_9 := a0_8.2; let a0_10 := a0_9.2; let a0_11 := a0_10.2; let a0_12 := a0_11.2; let a0_13 := a0_12.2; let a0_14 := a0_13.2; let a0_15 := a0_14.2; let a0_16 := a0_15.2; let a0_17 := a0_16.2; let a0_18 := a0_17.2; let a0_19 := a0_18.2; let a0_20 := a0_19.2; let a0_21 := a0_20.2; let a0_22 := a0_21.2; let a0_23 := a0_22.2; let a0_24 := a0_23.2; let a0_25 := a0_24.2; F β a0_0.1 a0_1.1 a0_2.1 a0_3.1 a0_4.1 a0_5.1 a0_6.1 a0_7.1 a0_8.1 a0_9.1 a0_10.1 a0_11.1 a0_12.1 a0_13.1 a0_14.1 a0_15.1 a0_16.1 a0_17.1 a0_18.1 a0_19.1 a0_20.1 a0_21.1 a0_22.1 a0_23.1 a0_24.1 a0_25.1 (fun y1 y2 y3 y4 y5 y6 y7 y8 y9 y10 y11 y12 y13 y14 y15 y16 y17 y18 y19 y20 y21 y22 y23 y24 y25 y26 => k (.agg [.bool y1, .str y2, .str y3, .bool y4, .own 4 1 .flat y5, .own 5 1 .flat y6, .own 6 1 .flat y7, .str y8, .str y9, .own 9 4 .clean y10, .bool y11, .own 11 4 .clean y12, .own 12 1 .flat y13, .own 13 8 .flat y14, .own 14 5 .flat y15, .own 15 2 .flat y16, .int .i64 y17, .int .i64 y18, .int .i64 y19, .int .i64 y20, .own 20 2 .flat y21, .own 21 1 .flat y22, .bool y23, .own 23 8 .flat y24, .own 24 2 .clean y25, .int .i64 y26]))
abbrev W10 (F : T10) : WT := wrap s10 (G10 F)
theorem k10 (F20 : T20) (F37 : T37) (F38 : T38) (β : Type) (e : argsT s10) (k : V → Option β) : fnK cfg (tabL [(20, W20 F20), (37, W37 F37), (38, W38 F38)]) noX 10 Tryz.f10 β (argsEnc s10 e) k = G10 (P10 F20 F37 F38 ) β e k := by kernel_rfl
theorem ok10 : FnOk D 10 (W10 F10) := fn_okW [(20, W20 F20), (37, W37 F37), (38, W38 F38)] noX (fun _ => rfl) Tryz.func10 rfl (tabL_cons ok20 (tabL_cons ok37 (tabL_cons ok38 tabL_nil))) (k10 F20 F37 F38 )

/-- spec.EqualServers -/
abbrev T36 : Type 1 := (β : Type) → List V → List V → (Bool → Option β) → Option β
def P36 : T36 := fun β a b k =>
 br ((a.length : Int) != (b.length : Int)) (
 k false) (
 whileK (fun s1 =>
 br (decide ((lI s1 2) < ((lL s1 0).length : Int))) (
 chk (0 ≤ (lI s1 2)) <|
 idx true [.str, .sl 7 true] (lL s1 0) ((lI s1 2).toNat) fun (e2 : List UInt8 × List V × Unit) =>
 chk (0 ≤ (lI s1 2)) <|
 idx true [.str, .sl 7 true] (lL s1 1) ((lI s1 2).toNat) fun (e3 : List UInt8 × List V × Unit) =>
 br (!(e2.1 == e3.1)) (
 some (.inr (0, [.b false]))) (
 chk (0 ≤ (lI s1 2)) <|
 idx true [.str, .sl 7 true] (lL s1 0) ((lI s1 2).toNat) fun (e4 : List UInt8 × List V × Unit) =>
 chk (0 ≤ (lI s1 2)) <|
 idx true [.str, .sl 7 true] (lL s1 1) ((lI s1 2).toNat) fun (e5 : List UInt8 × List V × Unit) =>
 br ((e4.2.1.length : Int) != (e5.2.1.length : Int)) (
 some (.inr (0, [.b false]))) (
 whileK (fun s6 =>
 chk (0 ≤ (lI s6 2)) <|
 idx true [.str, .sl 7 true] (lL s6 0) ((lI s6 2).toNat) fun (e7 : List UInt8 × List V × Unit) =>
 br (decide ((lI s6 3) < (e7.2.1.length : Int))) (
 chk (0 ≤ (lI s6 2)) <|
 idx true [.str, .sl 7 true] (lL s6 0) ((lI s6 2).toNat) fun (e8 : List UInt8 × List V × Unit) =>
 chk (0 ≤ (lI s6 3)) <|
 idx true [.str, .int .i64, .int .i64, .str, .int .i64, .bool, .str] e8.2.1 ((lI s6 3).toNat) fun (e9 : List UInt8 × Int × Int × List UInt8 × Int × Bool × List UInt8 × Unit) =>
 chk (0 ≤ (lI s6 2)) <|
 idx true [.str, .sl 7 true] (lL s6 1) ((lI s6 2).toNat) fun (e10 : List UInt8 × List V × Unit) =>
 chk (0 ≤ (lI s6 3)) <|
 idx true [.str, .int .i64, .int .i64, .str, .int .i64, .bool, .str] e10.2.1 ((lI s6 3).toNat) fun (e11 : List UInt8 × Int × Int × List UInt8 × Int × Bool × List UInt8 × Unit) =>
 br (!((e9.1 == e11.1) && ((e9.2.1 == e11.2.1) && ((e9.2.2.1 == e11.2.2.1) && ((e9.2.2.2.1 == e11.2.2.2.1) && ((e9.2.2.2.2.1 == e11.2.2.2.2.1) && ((e9.2.2.2.2.2.1 == e11.2.2.2.2.2.1) && ((e9.2.2.2.2.2.2.1 == e11.2.2.2.2.2.2.1) && true)))))))) (
 some (.inr (0, [.l (lL s6 0), .l (lL s6 1), .b false, .i (lI s6 2)]))) (
 some (.inl [.l (lL s6 0), .l (lL s6 1), .i (lI s6 2), .i (IntKind.wrap .i64 ((lI s6 3) + 1))]))) (
 some (.inr (1, [.l (lL s6 0), .l (lL s6 1), .i (lI s6 2)])))) [.l (lL s1 0), .l (lL s1 1), .i (lI s1 2), .i 0] fun (r12 : Nat × List Leaf) =>
 if r12.1 = 0 then
 some (.inr (0, [.b (lB r12.2 2)]))
 else
 some (.inl [.l (lL r12.2 0), .l (lL r12.2 1), .i (IntKind.wrap .i64 ((lI r12.2 2) + 1))])))) (
 some (.inr (1, [])))) [.l a, .l b, .i 0] fun (r13 : Nat × List Leaf) =>
 if r13.1 = 0 then
 k (lB r13.2 0)
 else
 k true)
def F36 : T36 := P36 
def X36 : Exits := fun i => lookN i [] [(4, [(.ret, xk 71 [(4, .bool false)] []), (.exit 0, xk 71 [] [])]), (9, [(.ret, xk 71 [(0, .sl 2 false []), (1, .sl 2 false []), (4, .bool false), (5, .int .i64 0)] []), (.exit 2, xk 71 [(0, .sl 2 false []), (1, .sl 2 false []), (5, .int .i64 0)] [])])]
abbrev s36 : List (Bool × List CK) := [(false, [.sl 2 false]), (false, [.sl 2 false])]
def G36 (F : T36) (β : Type) (e : (List V × Unit) × (List V × Unit) × Unit) (k : V → Option β) : Option β := F β e.1.1 e.2.1.1 (fun y1 => k (.bool y1))
abbrev W36 (F : T36) : WT := wrap s36 (G36 F)
theorem k36 (β : Type) (e : argsT s36) (k : V → Option β) : fnK cfg (tabL []) X36 36 Tryz.f36 β (argsEnc s36 e) k = G36 (P36 ) β e k := by kernel_rfl
theorem ok36 : FnOk D 36 (W36 F36) := fn_okW [] X36 (fun _ => rfl) Tryz.func36 rfl (tabL_nil) (k36 )

/-- spec.IsStale -/
abbrev T14 : Type 1 := (β : Type) → List V → List V → List V → Int → Bool → List UInt8 → List UInt8 → Bool → List V → List V → List V → List UInt8 → List UInt8 → List V → Bool → List V → List V → List V → List V → List V → Int → Int → Int → Int → List V → List V → Bool → List V → List V → Int → (Bool → Option β) → Option β
def P14 (F36 : T36) : T14 := fun β n_Servers n_Cache_Entries n_Log n_Now h_Ready h_Page_Addr_Host h_Page_Addr_Path h_Page_Policy_Set h_Page_Policy_Scripts h_Page_Policy_Styles h_Page_Policy_Images h_Page_Policy_Nonce h_Page_Tok_Rest h_Page_Queue h_Page_Ended h_Page_Builder_Nodes h_Page_Builder_Open h_Page_Slots h_Page_Mods h_Page_Entries h_Page_Block h_Page_Inline h_Page_Deferred h_Page_Entered h_Page_Ran h_Page_Log h_Page_Loaded h_Taken h_Servers h_Now k =>
 br (!h_Ready) (
 k true) (
 br (h_Now != n_Now) (
 k true) (
 F36 _ h_Servers n_Servers fun b1 =>
 k (!b1)))
def F14 : T14 := P14 F36 
abbrev s14 : List (Bool × List CK) := [(true, [.sl 2 false, .sl 10 true, .sl 4 true, .int .i64]), (true, [.bool, .str, .str, .bool, .sl 1 true, .sl 1 true, .sl 1 true, .str, .str, .sl 4 false, .bool, .sl 4 false, .sl 1 true, .sl 8 true, .sl 5 true, .sl 2 true, .int .i64, .int .i64, .int .i64, .int .i64, .sl 2 true, .sl 1 true, .bool, .sl 8 true, .sl 2 false, .int .i64])]
def G14 (F : T14) (β : Type) (e : (List V × List V × List V × Int × Unit) × (Bool × List UInt8 × List UInt8 × Bool × List V × List V × List V × List UInt8 × List UInt8 × List V × Bool × List V × List V × List V × List V × List V × Int × Int × Int × Int × List V × List V × Bool × List V × List V × Int × Unit) × Unit) (k : V → Option β) : Option β := let a1_0 := e.2.1; let a1_1 := a1_0.2; let a1_2 := a1_1.2; let a1_3 := a1_2.2; let a1_4 := a1_3.2; let a1_5 := a1_4.2; let a1_6 := a1_5.2; let a1_7 := a1_6.2; let a1_8 := a1_7.2; let a1_9 := a1_8.2; let a1_10 := a1_9.2; let a1_11 := a1_10.2; let a1_12 := a1_11.2; let a1_13 := a1_12.2; let a1_14 := a1_13.2; let a1_15 := a1_14.2; let a1_16 := a1_15.2; let a1_17 := a1_16.2; let a1_18 := a1_17.2; let a1_19 := a1_18.2; let a1_20 := a1_19.2; let a1_21 := a1_20.2; let a1_22 := a1_21.2; let a1_23 := a1_22.2; let a1_24 := a1_23.2; let a1_25 := a1_24.2; F β e.1.1 e.1.2.1 e.1.2.2.1 e.1.2.2.2.1 a1_0.1 a1_1.1 a1_2.1 a1_3.1 a1_4.1 a1_5.1 a1_6.1 a1_7.1 a1_8.1 a1_9.1 a1_10.1 a1_11.1 a1_12.1 a1_13.1 a1_14.1 a1_15.1 a1_16.1 a1_17.1 a1_18.1 a1_19.1 a1_20.1 a1_21.1 a1_22.1 a1_23.1 a1_24.1 a1_25.1 (fun y1 => k (.bool y1))
abbrev W14 (F : T14) : WT := wrap s14 (G14 F)
theorem k14 (F36 : T36) (β : Type) (e : argsT s14) (k : V → Option β) : fnK cfg (tabL [(36, W36 F36)]) noX 14 Tryz.f14 β (argsEnc s14 e) k = G14 (P14 F36 ) β e k := by kernel_rfl
theorem ok14 : FnOk D 14 (W14 F14) := fn_okW [(36, W36 F36)] noX (fun _ => rfl) Tryz.func14 rfl (tabL_cons ok36 tabL_nil) (k14 F36 )

/-- slices.Equal[[]impl.File,impl.File] -/
abbrev T118 : Type 1 := (β : Type) → List V → List V → (Bool → Option β) → Option β
def P118 : T118 := fun β s1 s2 k =>
 br ((s1.length : Int) != (s2.length : Int)) (
 k false) (
 whileK (fun s3 =>
 br (decide ((lI s3 3) < (lI s3 2))) (
 chk (0 ≤ (lI s3 3)) <|
 idx true [.str, .int .i64, .int .i64, .str, .int .i64, .bool, .str] (lL s3 0) ((lI s3 3).toNat) fun (e4 : List UInt8 × Int × Int × List UInt8 × Int × Bool × List UInt8 × Unit) =>
 chk (0 ≤ (lI s3 3)) <|
 idx true [.str, .int .i64, .int .i64, .str, .int .i64, .bool, .str] (lL s3 1) ((lI s3 3).toNat) fun (e5 : List UInt8 × Int × Int × List UInt8 × Int × Bool × List UInt8 × Unit) =>
 br (!((e4.1 == e5.1) && ((e4.2.1 == e5.2.1) && ((e4.2.2.1 == e5.2.2.1) && ((e4.2.2.2.1 == e5.2.2.2.1) && ((e4.2.2.2.2.1 == e5.2.2.2.2.1) && ((e4.2.2.2.2.2.1 == e5.2.2.2.2.2.1) && ((e4.2.2.2.2.2.2.1 == e5.2.2.2.2.2.2.1) && true)))))))) (
 some (.inr (0, [.b false]))) (
 some (.inl [.l (lL s3 0), .l (lL s3 1), .i (lI s3 2), .i (IntKind.wrap .i64 ((lI s3 3) + 1))]))) (
 some (.inr (1, [])))) [.l s1, .l s2, .i (s1.length : Int), .i 0] fun (r6 : Nat × List Leaf) =>
 if r6.1 = 0 then
 k (lB r6.2 0)
 else
 k true)
def F118 : T118 := P118 
def X118 : Exits := fun i => lookN i [] [(4, [(.ret, xk 26 [(4, .bool false)] []), (.exit 0, xk 26 [] [])])]
abbrev s118 : List (Bool × List CK) := [(false, [.sl 7 true]), (false, [.sl 7 true])]
def G118 (F : T118) (β : Type) (e : (List V × Unit) × (List V × Unit) × Unit) (k : V → Option β) : Option β := F β e.1.1 e.2.1.1 (fun y1 => k (.bool y1))
abbrev W118 (F : T118) : WT := wrap s118 (G118 F)
theorem k118 (β : Type) (e : argsT s118) (k : V → Option β) : fnK cfg (tabL []) X118 118 Tryz.f118 β (argsEnc s118 e) k = G118 (P118 ) β e k := by kernel_rfl
theorem ok118 : FnOk D 118 (W118 F118) := fn_okW [] X118 (fun _ => rfl) Tryz.func118 rfl (tabL_nil) (k118 )

/-- impl.EqualServers$1 -/
abbrev T117 : Type 1 := (β : Type) → List UInt8 → List V → List UInt8 → List V → (Bool → Option β) → Option β
def P117 (F118 : T118) : T117 := fun β x_Host x_Files y_Host y_Files k =>
 br (x_Host == y_Host) (
 F118 _ x_Files y_Files fun b1 =>
 k b1) (
 k false)
def F117 : T117 := P117 F118 
abbrev s117 : List (Bool × List CK) := [(true, [.str, .sl 7 true]), (true, [.str, .sl 7 true])]
def G117 (F : T117) (β : Type) (e : (List UInt8 × List V × Unit) × (List UInt8 × List V × Unit) × Unit) (k : V → Option β) : Option β := F β e.1.1 e.1.2.1 e.2.1.1 e.2.1.2.1 (fun y1 => k (.bool y1))
abbrev W117 (F : T117) : WT := wrap s117 (G117 F)
theorem k117 (F118 : T118) (β : Type) (e : argsT s117) (k : V → Option β) : fnK cfg (tabL [(118, W118 F118)]) noX 117 Tryz.f117 β (argsEnc s117 e) k = G117 (P117 F118 ) β e k := by kernel_rfl
theorem ok117 : FnOk D 117 (W117 F117) := fn_okW [(118, W118 F118)] noX (fun _ => rfl) Tryz.func117 rfl (tabL_cons ok118 tabL_nil) (k117 F118 )

/-- slices.EqualFunc[[]impl.Server,[]impl.Server,impl.Server,impl.Server] -/
abbrev T116c117 : Type 1 := (β : Type) → List V → List V → (Bool → Option β) → Option β
def P116c117 (F117 : T117) : T116c117 := fun β s1 s2 k =>
 br ((s1.length : Int) != (s2.length : Int)) (
 k false) (
 whileK (fun s3 =>
 br (decide ((lI s3 3) < (lI s3 2))) (
 chk (0 ≤ (lI s3 3)) <|
 idx true [.str, .sl 7 true] (lL s3 1) ((lI s3 3).toNat) fun (e4 : List UInt8 × List V × Unit) =>
 chk (0 ≤ (lI s3 3)) <|
 idx true [.str, .sl 7 true] (lL s3 0) ((lI s3 3).toNat) fun (e5 : List UInt8 × List V × Unit) =>
 F117 _ e4.1 e4.2.1 e5.1 e5.2.1 fun b6 =>
 br (!b6) (
 some (.inr (0, [.b false]))) (
 some (.inl [.l (lL s3 0), .l (lL s3 1), .i (lI s3 2), .i (IntKind.wrap .i64 ((lI s3 3) + 1))]))) (
 some (.inr (1, [])))) [.l s2, .l s1, .i (s1.length : Int), .i 0] fun (r7 : Nat × List Leaf) =>
 if r7.1 = 0 then
 k (lB r7.2 0)
 else
 k true)
def F116c117 : T116c117 := P116c117 F117 
def X116c117 : Exits := fun i => lookN i [] [(4, [(.ret, xk 32 [(6, .bool false)] []), (.exit 0, xk 32 [] [])])]
def W116c117 (F : T116c117) : (β : Type) → List V → (V → Option β) → Option β := fun β args k => match args with
 | [.sl 2 false s1, .sl 2 false s2, .clo 117 []] => F β s1 s2 (fun y1 => k (.bool y1))
 | _ => none
theorem k116c117 (F117 : T117) {β : Type} (s1 : List V) (s2 : List V) (k : V → Option β) : fnK cfg (tabL [(117, W117 F117)]) X116c117 116 Tryz.f116 β [.sl 2 false s1, .sl 2 false s2, .clo 117 []] k = P116c117 F117 β s1 s2 (fun y1 => k (.bool y1)) := by kernel_rfl
theorem ok116c117 : FnOk D 116 (W116c117 F116c117) := fn_ok (l := [(117, W117 F117)]) (X := X116c117) (fun _ => rfl) Tryz.func116 rfl (tabL_cons ok117 tabL_nil) (fun β args k r h => by
 unfold W116c117 at h
 split at h
 · rw [← h]; exact k116c117 F117 _ _ k
 · cases h)

/-- impl.EqualServers -/
abbrev T41 : Type 1 := (β : Type) → List V → List V → (Bool → Option β) → Option β
def P41 (F116c117 : T116c117) : T41 := fun β a b k =>
 F116c117 _ a b fun b1 =>
 k b1
def F41 : T41 := P41 F116c117 
abbrev s41 : List (Bool × List CK) := [(false, [.sl 2 false]), (false, [.sl 2 false])]
def G41 (F : T41) (β : Type) (e : (List V × Unit) × (List V × Unit) × Unit) (k : V → Option β) : Option β := F β e.1.1 e.2.1.1 (fun y1 => k (.bool y1))
abbrev W41 (F : T41) : WT := wrap s41 (G41 F)
theorem k41 (F116c117 : T116c117) (β : Type) (e : argsT s41) (k : V → Option β) : fnK cfg (tabL [(116, W116c117 F116c117)]) noX 41 Tryz.f41 β (argsEnc s41 e) k = G41 (P41 F116c117 ) β e k := by kernel_rfl
theorem ok41 : FnOk D 41 (W41 F41) := fn_okW [(116, W116c117 F116c117)] noX (fun _ => rfl) Tryz.func41 rfl (tabL_cons ok116c117 tabL_nil) (k41 F116c117 )

/-- impl.IsStale -/
abbrev T16 : Type 1 := (β : Type) → List V → List V → List V → Int → Bool → List UInt8 → List UInt8 → Bool → List V → List V → List V → List UInt8 → List UInt8 → List V → Bool → List V → List V → List V → List V → List V → Int → Int → Int → Int → List V → List V → Bool → List V → List V → Int → (Bool → Option β) → Option β
def P16 (F41 : T41) : T16 := fun β n_Servers n_Cache_Entries n_Log n_Now h_Ready h_Page_Addr_Host h_Page_Addr_Path h_Page_Policy_Set h_Page_Policy_Scripts h_Page_Policy_Styles h_Page_Policy_Images h_Page_Policy_Nonce h_Page_Tok_Rest h_Page_Queue h_Page_Ended h_Page_Builder_Nodes h_Page_Builder_Open h_Page_Slots h_Page_Mods h_Page_Entries h_Page_Block h_Page_Inline h_Page_Deferred h_Page_Entered h_Page_Ran h_Page_Log h_Page_Loaded h_Taken h_Servers h_Now k =>
 br (!h_Ready) (
 k true) (
 br (h_Now != n_Now) (
 k true) (
 F41 _ h_Servers n_Servers fun b1 =>
 k (!b1)))
def F16 : T16 := P16 F41 
abbrev s16 : List (Bool × List CK) := [(true, [.sl 2 false, .sl 10 true, .sl 4 true, .int .i64]), (true, [.bool, .str, .str, .bool, .sl 1 true, .sl 1 true, .sl 1 true, .str, .str, .sl 4 false, .bool, .sl 4 false, .sl 1 true, .sl 8 true, .sl 5 true, .sl 2 true, .int .i64, .int .i64, .int .i64, .int .i64, .sl 2 true, .sl 1 true, .bool, .sl 8 true, .sl 2 false, .int .i64])]
def G16 (F : T16) (β : Type) (e : (List V × List V × List V × Int × Unit) × (Bool × List UInt8 × List UInt8 × Bool × List V × List V × List V × List UInt8 × List UInt8 × List V × Bool × List V × List V × List V × List V × List V × Int × Int × Int × Int × List V × List V × Bool × List V × List V × Int × Unit) × Unit) (k : V → Option β) : Option β := let a1_0 := e.2.1; let a1_1 := a1_0.2; let a1_2 := a1_1.2; let a1_3 := a1_2.2; let a1_4 := a1_3.2; let a1_5 := a1_4.2; let a1_6 := a1_5.2; let a1_7 := a1_6.2; let a1_8 := a1_7.2; let a1_9 := a1_8.2; let a1_10 := a1_9.2; let a1_11 := a1_10.2; let a1_12 := a1_11.2; let a1_13 := a1_12.2; let a1_14 := a1_13.2; let a1_15 := a1_14.2; let a1_16 := a1_15.2; let a1_17 := a1_16.2; let a1_18 := a1_17.2; let a1_19 := a1_18.2; let a1_20 := a1_19.2; let a1_21 := a1_20.2; let a1_22 := a1_21.2; let a1_23 := a1_22.2; let a1_24 := a1_23.2; let a1_25 := a1_24.2; F β e.1.1 e.1.2.1 e.1.2.2.1 e.1.2.2.2.1 a1_0.1 a1_1.1 a1_2.1 a1_3.1 a1_4.1 a1_5.1 a1_6.1 a1_7.1 a1_8.1 a1_9.1 a1_10.1 a1_11.1 a1_12.1 a1_13.1 a1_14.1 a1_15.1 a1_16.1 a1_17.1 a1_18.1 a1_19.1 a1_20.1 a1_21.1 a1_22.1 a1_23.1 a1_24.1 a1_25.1 (fun y1 => k (.bool y1))
abbrev W16 (F : T16) : WT := wrap s16 (G16 F)
theorem k16 (F41 : T41) (β : Type) (e : argsT s16) (k : V → Option β) : fnK cfg (tabL [(41, W41 F41)]) noX 16 Tryz.f16 β (argsEnc s16 e) k = G16 (P16 F41 ) β e k := by kernel_rfl
theorem ok16 : FnOk D 16 (W16 F16) := fn_okW [(41, W41 F41)] noX (fun _ => rfl) Tryz.func16 rfl (tabL_cons ok41 tabL_nil) (k16 F41 )

/-- laws.eqResponse -/
abbrev T172 : Type 1 := (β : Type) → Int → Int → List UInt8 → Int → Bool → List UInt8 → Int → Int → List UInt8 → Int → Bool → List UInt8 → (Bool → Option β) → Option β
def P172 : T172 := fun β a_Status a_Kind a_Body a_Age a_Shares a_Policy b_Status b_Kind b_Body b_Age b_Shares b_Policy k =>
 br (a_Status != b_Status) (
 k false) (
 br (a_Kind != b_Kind) (
 k false) (
 br (!(a_Body == b_Body)) (
 k false) (
 br (a_Age != b_Age) (
 k false) (
 br (!(a_Shares == b_Shares)) (
 k false) (
 br (!(a_Policy == b_Policy)) (
 k false) (
 k true))))))
def F172 : T172 := P172 
abbrev s172 : List (Bool × List CK) := [(true, [.int .i64, .int .i64, .str, .int .i64, .bool, .str]), (true, [.int .i64, .int .i64, .str, .int .i64, .bool, .str])]
def G172 (F : T172) (β : Type) (e : (Int × Int × List UInt8 × Int × Bool × List UInt8 × Unit) × (Int × Int × List UInt8 × Int × Bool × List UInt8 × Unit) × Unit) (k : V → Option β) : Option β := let a0_0 := e.1; let a0_1 := a0_0.2; let a0_2 := a0_1.2; let a0_3 := a0_2.2; let a0_4 := a0_3.2; let a0_5 := a0_4.2; let a1_0 := e.2.1; let a1_1 := a1_0.2; let a1_2 := a1_1.2; let a1_3 := a1_2.2; let a1_4 := a1_3.2; let a1_5 := a1_4.2; F β a0_0.1 a0_1.1 a0_2.1 a0_3.1 a0_4.1 a0_5.1 a1_0.1 a1_1.1 a1_2.1 a1_3.1 a1_4.1 a1_5.1 (fun y1 => k (.bool y1))
abbrev W172 (F : T172) : WT := wrap s172 (G172 F)
theorem k172 (β : Type) (e : argsT s172) (k : V → Option β) : fnK cfg (tabL []) noX 172 Tryz.f172 β (argsEnc s172 e) k = G172 (P172 ) β e k := by kernel_rfl
theorem ok172 : FnOk D 172 (W172 F172) := fn_okW [] noX (fun _ => rfl) Tryz.func172 rfl (tabL_nil) (k172 )

/-- laws.eqFile -/
abbrev T191 : Type 1 := (β : Type) → List UInt8 → Int → Int → List UInt8 → Int → Bool → List UInt8 → List UInt8 → Int → Int → List UInt8 → Int → Bool → List UInt8 → (Bool → Option β) → Option β
def P191 (F172 : T172) : T191 := fun β a_Path a_Response_Status a_Response_Kind a_Response_Body a_Response_Age a_Response_Shares a_Response_Policy b_Path b_Response_Status b_Response_Kind b_Response_Body b_Response_Age b_Response_Shares b_Response_Policy k =>
 br (!(a_Path == b_Path)) (
 k false) (
 F172 _ a_Response_Status a_Response_Kind a_Response_Body a_Response_Age a_Response_Shares a_Response_Policy b_Response_Status b_Response_Kind b_Response_Body b_Response_Age b_Response_Shares b_Response_Policy fun b1 =>
 br (!b1) (
 k false) (
 k true))
def F191 : T191 := P191 F172 
abbrev s191 : List (Bool × List CK) := [(true, [.str, .int .i64, .int .i64, .str, .int .i64, .bool, .str]), (true, [.str, .int .i64, .int .i64, .str, .int .i64, .bool, .str])]
def G191 (F : T191) (β : Type) (e : (List UInt8 × Int × Int × List UInt8 × Int × Bool × List UInt8 × Unit) × (List UInt8 × Int × Int × List UInt8 × Int × Bool × List UInt8 × Unit) × Unit) (k : V → Option β) : Option β := let a0_0 := e.1; let a0_1 := a0_0.2; let a0_2 := a0_1.2; let a0_3 := a0_2.2; let a0_4 := a0_3.2; let a0_5 := a0_4.2; let a0_6 := a0_5.2; let a1_0 := e.2.1; let a1_1 := a1_0.2; let a1_2 := a1_1.2; let a1_3 := a1_2.2; let a1_4 := a1_3.2; let a1_5 := a1_4.2; let a1_6 := a1_5.2; F β a0_0.1 a0_1.1 a0_2.1 a0_3.1 a0_4.1 a0_5.1 a0_6.1 a1_0.1 a1_1.1 a1_2.1 a1_3.1 a1_4.1 a1_5.1 a1_6.1 (fun y1 => k (.bool y1))
abbrev W191 (F : T191) : WT := wrap s191 (G191 F)
theorem k191 (F172 : T172) (β : Type) (e : argsT s191) (k : V → Option β) : fnK cfg (tabL [(172, W172 F172)]) noX 191 Tryz.f191 β (argsEnc s191 e) k = G191 (P191 F172 ) β e k := by kernel_rfl
theorem ok191 : FnOk D 191 (W191 F191) := fn_okW [(172, W172 F172)] noX (fun _ => rfl) Tryz.func191 rfl (tabL_cons ok172 tabL_nil) (k191 F172 )

/-- laws.eqFileS -/
abbrev T173 : Type 1 := (β : Type) → List V → List V → (Bool → Option β) → Option β
def P173 (F191 : T191) : T173 := fun β a b k =>
 br ((a.length : Int) != (b.length : Int)) (
 k false) (
 whileK (fun s1 =>
 br (decide ((lI s1 2) < ((lL s1 0).length : Int))) (
 chk (0 ≤ (lI s1 2)) <|
 idx true [.str, .int .i64, .int .i64, .str, .int .i64, .bool, .str] (lL s1 0) ((lI s1 2).toNat) fun (e2 : List UInt8 × Int × Int × List UInt8 × Int × Bool × List UInt8 × Unit) =>
 chk (0 ≤ (lI s1 2)) <|
 idx true [.str, .int .i64, .int .i64, .str, .int .i64, .bool, .str] (lL s1 1) ((lI s1 2).toNat) fun (e3 : List UInt8 × Int × Int × List UInt8 × Int × Bool × List UInt8 × Unit) =>
 F191 _ e2.1 e2.2.1 e2.2.2.1 e2.2.2.2.1 e2.2.2.2.2.1 e2.2.2.2.2.2.1 e2.2.2.2.2.2.2.1 e3.1 e3.2.1 e3.2.2.1 e3.2.2.2.1 e3.2.2.2.2.1 e3.2.2.2.2.2.1 e3.2.2.2.2.2.2.1 fun b4 =>
 br (!b4) (
 some (.inr (0, [.b false]))) (
 some (.inl [.l (lL s1 0), .l (lL s1 1), .i (IntKind.wrap .i64 ((lI s1 2) + 1))]))) (
 some (.inr (1, [])))) [.l a, .l b, .i 0] fun (r5 : Nat × List Leaf) =>
 if r5.1 = 0 then
 k (lB r5.2 0)
 else
 k true)
def F173 : T173 := P173 F191 
def X173 : Exits := fun i => lookN i [] [(4, [(.ret, xk 27 [(4, .bool false)] []), (.exit 0, xk 27 [] [])])]
abbrev s173 : List (Bool × List CK) := [(false, [.sl 7 true]), (false, [.sl 7 true])]
def G173 (F : T173) (β : Type) (e : (List V × Unit) × (List V × Unit) × Unit) (k : V → Option β) : Option β := F β e.1.1 e.2.1.1 (fun y1 => k (.bool y1))
abbrev W173 (F : T173) : WT := wrap s173 (G173 F)
theorem k173 (F191 : T191) (β : Type) (e : argsT s173) (k : V → Option β) : fnK cfg (tabL [(191, W191 F191)]) X173 173 Tryz.f173 β (argsEnc s173 e) k = G173 (P173 F191 ) β e k := by kernel_rfl
theorem ok173 : FnOk D 173 (W173 F173) := fn_okW [(191, W191 F191)] X173 (fun _ => rfl) Tryz.func173 rfl (tabL_cons ok191 tabL_nil) (k173 F191 )

/-- laws.eqServer -/
abbrev T120 : Type 1 := (β : Type) → List UInt8 → List V → List UInt8 → List V → (Bool → Option β) → Option β
def P120 (F173 : T173) : T120 := fun β a_Host a_Files b_Host b_Files k =>
 br (!(a_Host == b_Host)) (
 k false) (
 F173 _ a_Files b_Files fun b1 =>
 br (!b1) (
 k false) (
 k true))
def F120 : T120 := P120 F173 
abbrev s120 : List (Bool × List CK) := [(true, [.str, .sl 7 true]), (true, [.str, .sl 7 true])]
def G120 (F : T120) (β : Type) (e : (List UInt8 × List V × Unit) × (List UInt8 × List V × Unit) × Unit) (k : V → Option β) : Option β := F β e.1.1 e.1.2.1 e.2.1.1 e.2.1.2.1 (fun y1 => k (.bool y1))
abbrev W120 (F : T120) : WT := wrap s120 (G120 F)
theorem k120 (F173 : T173) (β : Type) (e : argsT s120) (k : V → Option β) : fnK cfg (tabL [(173, W173 F173)]) noX 120 Tryz.f120 β (argsEnc s120 e) k = G120 (P120 F173 ) β e k := by kernel_rfl
theorem ok120 : FnOk D 120 (W120 F120) := fn_okW [(173, W173 F173)] noX (fun _ => rfl) Tryz.func120 rfl (tabL_cons ok173 tabL_nil) (k120 F173 )

/-- laws.eqServerS -/
abbrev T43 : Type 1 := (β : Type) → List V → List V → (Bool → Option β) → Option β
def P43 (F120 : T120) : T43 := fun β a b k =>
 br ((a.length : Int) != (b.length : Int)) (
 k false) (
 whileK (fun s1 =>
 br (decide ((lI s1 2) < ((lL s1 0).length : Int))) (
 chk (0 ≤ (lI s1 2)) <|
 idx true [.str, .sl 7 true] (lL s1 0) ((lI s1 2).toNat) fun (e2 : List UInt8 × List V × Unit) =>
 chk (0 ≤ (lI s1 2)) <|
 idx true [.str, .sl 7 true] (lL s1 1) ((lI s1 2).toNat) fun (e3 : List UInt8 × List V × Unit) =>
 F120 _ e2.1 e2.2.1 e3.1 e3.2.1 fun b4 =>
 br (!b4) (
 some (.inr (0, [.b false]))) (
 some (.inl [.l (lL s1 0), .l (lL s1 1), .i (IntKind.wrap .i64 ((lI s1 2) + 1))]))) (
 some (.inr (1, [])))) [.l a, .l b, .i 0] fun (r5 : Nat × List Leaf) =>
 if r5.1 = 0 then
 k (lB r5.2 0)
 else
 k true)
def F43 : T43 := P43 F120 
def X43 : Exits := fun i => lookN i [] [(4, [(.ret, xk 27 [(4, .bool false)] []), (.exit 0, xk 27 [] [])])]
abbrev s43 : List (Bool × List CK) := [(false, [.sl 2 false]), (false, [.sl 2 false])]
def G43 (F : T43) (β : Type) (e : (List V × Unit) × (List V × Unit) × Unit) (k : V → Option β) : Option β := F β e.1.1 e.2.1.1 (fun y1 => k (.bool y1))
abbrev W43 (F : T43) : WT := wrap s43 (G43 F)
theorem k43 (F120 : T120) (β : Type) (e : argsT s43) (k : V → Option β) : fnK cfg (tabL [(120, W120 F120)]) X43 43 Tryz.f43 β (argsEnc s43 e) k = G43 (P43 F120 ) β e k := by kernel_rfl
theorem ok43 : FnOk D 43 (W43 F43) := fn_okW [(120, W120 F120)] X43 (fun _ => rfl) Tryz.func43 rfl (tabL_cons ok120 tabL_nil) (k43 F120 )

/-- laws.eqAddr -/
abbrev T80 : Type 1 := (β : Type) → List UInt8 → List UInt8 → List UInt8 → List UInt8 → (Bool → Option β) → Option β
def P80 : T80 := fun β a_Host a_Path b_Host b_Path k =>
 br (!(a_Host == b_Host)) (
 k false) (
 br (!(a_Path == b_Path)) (
 k false) (
 k true))
def F80 : T80 := P80 
abbrev s80 : List (Bool × List CK) := [(true, [.str, .str]), (true, [.str, .str])]
def G80 (F : T80) (β : Type) (e : (List UInt8 × List UInt8 × Unit) × (List UInt8 × List UInt8 × Unit) × Unit) (k : V → Option β) : Option β := F β e.1.1 e.1.2.1 e.2.1.1 e.2.1.2.1 (fun y1 => k (.bool y1))
abbrev W80 (F : T80) : WT := wrap s80 (G80 F)
theorem k80 (β : Type) (e : argsT s80) (k : V → Option β) : fnK cfg (tabL []) noX 80 Tryz.f80 β (argsEnc s80 e) k = G80 (P80 ) β e k := by kernel_rfl
theorem ok80 : FnOk D 80 (W80 F80) := fn_okW [] noX (fun _ => rfl) Tryz.func80 rfl (tabL_nil) (k80 )

/-- laws.eqEntry -/
abbrev T176 : Type 1 := (β : Type) → List UInt8 → List UInt8 → List UInt8 → Int → Int → List UInt8 → Int → Bool → List UInt8 → Int → List UInt8 → List UInt8 → List UInt8 → Int → Int → List UInt8 → Int → Bool → List UInt8 → Int → (Bool → Option β) → Option β
def P176 (F80 : T80) (F172 : T172) : T176 := fun β a_Top a_To_Host a_To_Path a_Response_Status a_Response_Kind a_Response_Body a_Response_Age a_Response_Shares a_Response_Policy a_Until b_Top b_To_Host b_To_Path b_Response_Status b_Response_Kind b_Response_Body b_Response_Age b_Response_Shares b_Response_Policy b_Until k =>
 br (!(a_Top == b_Top)) (
 k false) (
 F80 _ a_To_Host a_To_Path b_To_Host b_To_Path fun b1 =>
 br (!b1) (
 k false) (
 F172 _ a_Response_Status a_Response_Kind a_Response_Body a_Response_Age a_Response_Shares a_Response_Policy b_Response_Status b_Response_Kind b_Response_Body b_Response_Age b_Response_Shares b_Response_Policy fun b2 =>
 br (!b2) (
 k false) (
 br (a_Until != b_Until) (
 k false) (
 k true))))
def F176 : T176 := P176 F80 F172 
abbrev s176 : List (Bool × List CK) := [(true, [.str, .str, .str, .int .i64, .int .i64, .str, .int .i64, .bool, .str, .int .i64]), (true, [.str, .str, .str, .int .i64, .int .i64, .str, .int .i64, .bool, .str, .int .i64])]
def G176 (F : T176) (β : Type) (e : (List UInt8 × List UInt8 × List UInt8 × Int × Int × List UInt8 × Int × Bool × List UInt8 × Int × Unit) × (List UInt8 × List UInt8 × List UInt8 × Int × Int × List UInt8 × Int × Bool × List UInt8 × Int × Unit) × Unit) (k : V → Option β) : Option β := let a0_0 := e.1; let a0_1 := a0_0.2; let a0_2 := a0_1.2; let a0_3 := a0_2.2; let a0_4 := a0_3.2; let a0_5 := a0_4.2; let a0_6 := a0_5.2; let a0_7 := a0_6.2; let a0_8 := a0_7.2; let a0_9 := a0_8.2; let a1_0 := e.2.1; let a1_1 := a1_0.2; let a1_2 := a1_1.2; let a1_3 := a1_2.2; let a1_4 := a1_3.2; let a1_5 := a1_4.2; let a1_6 := a1_5.2; let a1_7 := a1_6.2; let a1_8 := a1_7.2; let a1_9 := a1_8.2; F β a0_0.1 a0_1.1 a0_2.1 a0_3.1 a0_4.1 a0_5.1 a0_6.1 a0_7.1 a0_8.1 a0_9.1 a1_0.1 a1_1.1 a1_2.1 a1_3.1 a1_4.1 a1_5.1 a1_6.1 a1_7.1 a1_8.1 a1_9.1 (fun y1 => k (.bool y1))
abbrev W176 (F : T176) : WT := wrap s176 (G176 F)
theorem k176 (F80 : T80) (F172 : T172) (β : Type) (e : argsT s176) (k : V → Option β) : fnK cfg (tabL [(80, W80 F80), (172, W172 F172)]) noX 176 Tryz.f176 β (argsEnc s176 e) k = G176 (P176 F80 F172 ) β e k := by kernel_rfl
theorem ok176 : FnOk D 176 (W176 F176) := fn_okW [(80, W80 F80), (172, W172 F172)] noX (fun _ => rfl) Tryz.func176 rfl (tabL_cons ok80 (tabL_cons ok172 tabL_nil)) (k176 F80 F172 )

/-- laws.eqEntryS -/
abbrev T125 : Type 1 := (β : Type) → List V → List V → (Bool → Option β) → Option β
def P125 (F176 : T176) : T125 := fun β a b k =>
 br ((a.length : Int) != (b.length : Int)) (
 k false) (
 whileK (fun s1 =>
 br (decide ((lI s1 2) < ((lL s1 0).length : Int))) (
 chk (0 ≤ (lI s1 2)) <|
 idx true [.str, .str, .str, .int .i64, .int .i64, .str, .int .i64, .bool, .str, .int .i64] (lL s1 0) ((lI s1 2).toNat) fun (e2 : List UInt8 × List UInt8 × List UInt8 × Int × Int × List UInt8 × Int × Bool × List UInt8 × Int × Unit) =>
 chk (0 ≤ (lI s1 2)) <|
 idx true [.str, .str, .str, .int .i64, .int .i64, .str, .int .i64, .bool, .str, .int .i64] (lL s1 1) ((lI s1 2).toNat) fun (e3 : List UInt8 × List UInt8 × List UInt8 × Int × Int × List UInt8 × Int × Bool × List UInt8 × Int × Unit) =>
 F176 _ e2.1 e2.2.1 e2.2.2.1 e2.2.2.2.1 e2.2.2.2.2.1 e2.2.2.2.2.2.1 e2.2.2.2.2.2.2.1 e2.2.2.2.2.2.2.2.1 e2.2.2.2.2.2.2.2.2.1 e2.2.2.2.2.2.2.2.2.2.1 e3.1 e3.2.1 e3.2.2.1 e3.2.2.2.1 e3.2.2.2.2.1 e3.2.2.2.2.2.1 e3.2.2.2.2.2.2.1 e3.2.2.2.2.2.2.2.1 e3.2.2.2.2.2.2.2.2.1 e3.2.2.2.2.2.2.2.2.2.1 fun b4 =>
 br (!b4) (
 some (.inr (0, [.b false]))) (
 some (.inl [.l (lL s1 0), .l (lL s1 1), .i (IntKind.wrap .i64 ((lI s1 2) + 1))]))) (
 some (.inr (1, [])))) [.l a, .l b, .i 0] fun (r5 : Nat × List Leaf) =>
 if r5.1 = 0 then
 k (lB r5.2 0)
 else
 k true)
def F125 : T125 := P125 F176 
def X125 : Exits := fun i => lookN i [] [(4, [(.ret, xk 27 [(4, .bool false)] []), (.exit 0, xk 27 [] [])])]
abbrev s125 : List (Bool × List CK) := [(false, [.sl 10 true]), (false, [.sl 10 true])]
def G125 (F : T125) (β : Type) (e : (List V × Unit) × (List V × Unit) × Unit) (k : V → Option β) : Option β := F β e.1.1 e.2.1.1 (fun y1 => k (.bool y1))
abbrev W125 (F : T125) : WT := wrap s125 (G125 F)
theorem k125 (F176 : T176) (β : Type) (e : argsT s125) (k : V → Option β) : fnK cfg (tabL [(176, W176 F176)]) X125 125 Tryz.f125 β (argsEnc s125 e) k = G125 (P125 F176 ) β e k := by kernel_rfl
theorem ok125 : FnOk D 125 (W125 F125) := fn_okW [(176, W176 F176)] X125 (fun _ => rfl) Tryz.func125 rfl (tabL_cons ok176 tabL_nil) (k125 F176 )

/-- laws.eqCache -/
abbrev T48 : Type 1 := (β : Type) → List V → List V → (Bool → Option β) → Option β
def P48 (F125 : T125) : T48 := fun β a_Entries b_Entries k =>
 F125 _ a_Entries b_Entries fun b1 =>
 br (!b1) (
 k false) (
 k true)
def F48 : T48 := P48 F125 
abbrev s48 : List (Bool × List CK) := [(true, [.sl 10 true]), (true, [.sl 10 true])]
def G48 (F : T48) (β : Type) (e : (List V × Unit) × (List V × Unit) × Unit) (k : V → Option β) : Option β := F β e.1.1 e.2.1.1 (fun y1 => k (.bool y1))
abbrev W48 (F : T48) : WT := wrap s48 (G48 F)
theorem k48 (F125 : T125) (β : Type) (e : argsT s48) (k : V → Option β) : fnK cfg (tabL [(125, W125 F125)]) noX 48 Tryz.f48 β (argsEnc s48 e) k = G48 (P48 F125 ) β e k := by kernel_rfl
theorem ok48 : FnOk D 48 (W48 F48) := fn_okW [(125, W125 F125)] noX (fun _ => rfl) Tryz.func48 rfl (tabL_cons ok125 tabL_nil) (k48 F125 )

/-- laws.eqSent -/
abbrev T126 : Type 1 := (β : Type) → List UInt8 → List UInt8 → List UInt8 → Bool → List UInt8 → List UInt8 → List UInt8 → Bool → (Bool → Option β) → Option β
def P126 (F80 : T80) : T126 := fun β a_Top a_To_Host a_To_Path a_Guess b_Top b_To_Host b_To_Path b_Guess k =>
 br (!(a_Top == b_Top)) (
 k false) (
 F80 _ a_To_Host a_To_Path b_To_Host b_To_Path fun b1 =>
 br (!b1) (
 k false) (
 br (!(a_Guess == b_Guess)) (
 k false) (
 k true)))
def F126 : T126 := P126 F80 
abbrev s126 : List (Bool × List CK) := [(true, [.str, .str, .str, .bool]), (true, [.str, .str, .str, .bool])]
def G126 (F : T126) (β : Type) (e : (List UInt8 × List UInt8 × List UInt8 × Bool × Unit) × (List UInt8 × List UInt8 × List UInt8 × Bool × Unit) × Unit) (k : V → Option β) : Option β := F β e.1.1 e.1.2.1 e.1.2.2.1 e.1.2.2.2.1 e.2.1.1 e.2.1.2.1 e.2.1.2.2.1 e.2.1.2.2.2.1 (fun y1 => k (.bool y1))
abbrev W126 (F : T126) : WT := wrap s126 (G126 F)
theorem k126 (F80 : T80) (β : Type) (e : argsT s126) (k : V → Option β) : fnK cfg (tabL [(80, W80 F80)]) noX 126 Tryz.f126 β (argsEnc s126 e) k = G126 (P126 F80 ) β e k := by kernel_rfl
theorem ok126 : FnOk D 126 (W126 F126) := fn_okW [(80, W80 F80)] noX (fun _ => rfl) Tryz.func126 rfl (tabL_cons ok80 tabL_nil) (k126 F80 )

/-- laws.eqSentS -/
abbrev T49 : Type 1 := (β : Type) → List V → List V → (Bool → Option β) → Option β
def P49 (F126 : T126) : T49 := fun β a b k =>
 br ((a.length : Int) != (b.length : Int)) (
 k false) (
 whileK (fun s1 =>
 br (decide ((lI s1 2) < ((lL s1 0).length : Int))) (
 chk (0 ≤ (lI s1 2)) <|
 idx true [.str, .str, .str, .bool] (lL s1 0) ((lI s1 2).toNat) fun (e2 : List UInt8 × List UInt8 × List UInt8 × Bool × Unit) =>
 chk (0 ≤ (lI s1 2)) <|
 idx true [.str, .str, .str, .bool] (lL s1 1) ((lI s1 2).toNat) fun (e3 : List UInt8 × List UInt8 × List UInt8 × Bool × Unit) =>
 F126 _ e2.1 e2.2.1 e2.2.2.1 e2.2.2.2.1 e3.1 e3.2.1 e3.2.2.1 e3.2.2.2.1 fun b4 =>
 br (!b4) (
 some (.inr (0, [.b false]))) (
 some (.inl [.l (lL s1 0), .l (lL s1 1), .i (IntKind.wrap .i64 ((lI s1 2) + 1))]))) (
 some (.inr (1, [])))) [.l a, .l b, .i 0] fun (r5 : Nat × List Leaf) =>
 if r5.1 = 0 then
 k (lB r5.2 0)
 else
 k true)
def F49 : T49 := P49 F126 
def X49 : Exits := fun i => lookN i [] [(4, [(.ret, xk 27 [(4, .bool false)] []), (.exit 0, xk 27 [] [])])]
abbrev s49 : List (Bool × List CK) := [(false, [.sl 4 true]), (false, [.sl 4 true])]
def G49 (F : T49) (β : Type) (e : (List V × Unit) × (List V × Unit) × Unit) (k : V → Option β) : Option β := F β e.1.1 e.2.1.1 (fun y1 => k (.bool y1))
abbrev W49 (F : T49) : WT := wrap s49 (G49 F)
theorem k49 (F126 : T126) (β : Type) (e : argsT s49) (k : V → Option β) : fnK cfg (tabL [(126, W126 F126)]) X49 49 Tryz.f49 β (argsEnc s49 e) k = G49 (P49 F126 ) β e k := by kernel_rfl
theorem ok49 : FnOk D 49 (W49 F49) := fn_okW [(126, W126 F126)] X49 (fun _ => rfl) Tryz.func49 rfl (tabL_cons ok126 tabL_nil) (k49 F126 )

/-- laws.eqNet -/
abbrev T17 : Type 1 := (β : Type) → List V → List V → List V → Int → List V → List V → List V → Int → (Bool → Option β) → Option β
def P17 (F43 : T43) (F48 : T48) (F49 : T49) : T17 := fun β a_Servers a_Cache_Entries a_Log a_Now b_Servers b_Cache_Entries b_Log b_Now k =>
 F43 _ a_Servers b_Servers fun b1 =>
 br (!b1) (
 k false) (
 F48 _ a_Cache_Entries b_Cache_Entries fun b2 =>
 br (!b2) (
 k false) (
 F49 _ a_Log b_Log fun b3 =>
 br (!b3) (
 k false) (
 br (a_Now != b_Now) (
 k false) (
 k true))))
def F17 : T17 := P17 F43 F48 F49 
abbrev s17 : List (Bool × List CK) := [(true, [.sl 2 false, .sl 10 true, .sl 4 true, .int .i64]), (true, [.sl 2 false, .sl 10 true, .sl 4 true, .int .i64])]
def G17 (F : T17) (β : Type) (e : (List V × List V × List V × Int × Unit) × (List V × List V × List V × Int × Unit) × Unit) (k : V → Option β) : Option β := F β e.1.1 e.1.2.1 e.1.2.2.1 e.1.2.2.2.1 e.2.1.1 e.2.1.2.1 e.2.1.2.2.1 e.2.1.2.2.2.1 (fun y1 => k (.bool y1))
abbrev W17 (F : T17) : WT := wrap s17 (G17 F)
theorem k17 (F43 : T43) (F48 : T48) (F49 : T49) (β : Type) (e : argsT s17) (k : V → Option β) : fnK cfg (tabL [(43, W43 F43), (48, W48 F48), (49, W49 F49)]) noX 17 Tryz.f17 β (argsEnc s17 e) k = G17 (P17 F43 F48 F49 ) β e k := by kernel_rfl
theorem ok17 : FnOk D 17 (W17 F17) := fn_okW [(43, W43 F43), (48, W48 F48), (49, W49 F49)] noX (fun _ => rfl) Tryz.func17 rfl (tabL_cons ok43 (tabL_cons ok48 (tabL_cons ok49 tabL_nil))) (k17 F43 F48 F49 )

/-- laws.eqStringS -/
abbrev T88 : Type 1 := (β : Type) → List V → List V → (Bool → Option β) → Option β
def P88 : T88 := fun β a b k =>
 br ((a.length : Int) != (b.length : Int)) (
 k false) (
 whileK (fun s1 =>
 br (decide ((lI s1 2) < ((lL s1 0).length : Int))) (
 chk (0 ≤ (lI s1 2)) <|
 idx false [.str] (lL s1 0) ((lI s1 2).toNat) fun (e2 : List UInt8 × Unit) =>
 chk (0 ≤ (lI s1 2)) <|
 idx false [.str] (lL s1 1) ((lI s1 2).toNat) fun (e3 : List UInt8 × Unit) =>
 br (!(e2.1 == e3.1)) (
 some (.inr (0, [.b false]))) (
 some (.inl [.l (lL s1 0), .l (lL s1 1), .i (IntKind.wrap .i64 ((lI s1 2) + 1))]))) (
 some (.inr (1, [])))) [.l a, .l b, .i 0] fun (r4 : Nat × List Leaf) =>
 if r4.1 = 0 then
 k (lB r4.2 0)
 else
 k true)
def F88 : T88 := P88 
def X88 : Exits := fun i => lookN i [] [(4, [(.ret, xk 26 [(4, .bool false)] []), (.exit 0, xk 26 [] [])])]
abbrev s88 : List (Bool × List CK) := [(false, [.sl 1 true]), (false, [.sl 1 true])]
def G88 (F : T88) (β : Type) (e : (List V × Unit) × (List V × Unit) × Unit) (k : V → Option β) : Option β := F β e.1.1 e.2.1.1 (fun y1 => k (.bool y1))
abbrev W88 (F : T88) : WT := wrap s88 (G88 F)
theorem k88 (β : Type) (e : argsT s88) (k : V → Option β) : fnK cfg (tabL []) X88 88 Tryz.f88 β (argsEnc s88 e) k = G88 (P88 ) β e k := by kernel_rfl
theorem ok88 : FnOk D 88 (W88 F88) := fn_okW [] X88 (fun _ => rfl) Tryz.func88 rfl (tabL_nil) (k88 )

/-- laws.eqPolicy -/
abbrev T81 : Type 1 := (β : Type) → Bool → List V → List V → List V → List UInt8 → Bool → List V → List V → List V → List UInt8 → (Bool → Option β) → Option β
def P81 (F88 : T88) : T81 := fun β a_Set a_Scripts a_Styles a_Images a_Nonce b_Set b_Scripts b_Styles b_Images b_Nonce k =>
 br (!(a_Set == b_Set)) (
 k false) (
 F88 _ a_Scripts b_Scripts fun b1 =>
 br (!b1) (
 k false) (
 F88 _ a_Styles b_Styles fun b2 =>
 br (!b2) (
 k false) (
 F88 _ a_Images b_Images fun b3 =>
 br (!b3) (
 k false) (
 br (!(a_Nonce == b_Nonce)) (
 k false) (
 k true)))))
def F81 : T81 := P81 F88 
abbrev s81 : List (Bool × List CK) := [(true, [.bool, .sl 1 true, .sl 1 true, .sl 1 true, .str]), (true, [.bool, .sl 1 true, .sl 1 true, .sl 1 true, .str])]
def G81 (F : T81) (β : Type) (e : (Bool × List V × List V × List V × List UInt8 × Unit) × (Bool × List V × List V × List V × List UInt8 × Unit) × Unit) (k : V → Option β) : Option β := let a0_0 := e.1; let a0_1 := a0_0.2; let a0_2 := a0_1.2; let a0_3 := a0_2.2; let a0_4 := a0_3.2; let a1_0 := e.2.1; let a1_1 := a1_0.2; let a1_2 := a1_1.2; let a1_3 := a1_2.2; let a1_4 := a1_3.2; F β a0_0.1 a0_1.1 a0_2.1 a0_3.1 a0_4.1 a1_0.1 a1_1.1 a1_2.1 a1_3.1 a1_4.1 (fun y1 => k (.bool y1))
abbrev W81 (F : T81) : WT := wrap s81 (G81 F)
theorem k81 (F88 : T88) (β : Type) (e : argsT s81) (k : V → Option β) : fnK cfg (tabL [(88, W88 F88)]) noX 81 Tryz.f81 β (argsEnc s81 e) k = G81 (P81 F88 ) β e k := by kernel_rfl
theorem ok81 : FnOk D 81 (W81 F81) := fn_okW [(88, W88 F88)] noX (fun _ => rfl) Tryz.func81 rfl (tabL_cons ok88 tabL_nil) (k81 F88 )

/-- laws.eqTokenizer -/
abbrev T82 : Type 1 := (β : Type) → List UInt8 → List UInt8 → (Bool → Option β) → Option β
def P82 : T82 := fun β a_Rest b_Rest k =>
 br (!(a_Rest == b_Rest)) (
 k false) (
 k true)
def F82 : T82 := P82 
abbrev s82 : List (Bool × List CK) := [(true, [.str]), (true, [.str])]
def G82 (F : T82) (β : Type) (e : (List UInt8 × Unit) × (List UInt8 × Unit) × Unit) (k : V → Option β) : Option β := F β e.1.1 e.2.1.1 (fun y1 => k (.bool y1))
abbrev W82 (F : T82) : WT := wrap s82 (G82 F)
theorem k82 (β : Type) (e : argsT s82) (k : V → Option β) : fnK cfg (tabL []) noX 82 Tryz.f82 β (argsEnc s82 e) k = G82 (P82 ) β e k := by kernel_rfl
theorem ok82 : FnOk D 82 (W82 F82) := fn_okW [] noX (fun _ => rfl) Tryz.func82 rfl (tabL_nil) (k82 )

/-- laws.eqAttr -/
abbrev T197 : Type 1 := (β : Type) → List UInt8 → List UInt8 → List UInt8 → List UInt8 → (Bool → Option β) → Option β
def P197 : T197 := fun β a_Name a_Value b_Name b_Value k =>
 br (!(a_Name == b_Name)) (
 k false) (
 br (!(a_Value == b_Value)) (
 k false) (
 k true))
def F197 : T197 := P197 
abbrev s197 : List (Bool × List CK) := [(true, [.str, .str]), (true, [.str, .str])]
def G197 (F : T197) (β : Type) (e : (List UInt8 × List UInt8 × Unit) × (List UInt8 × List UInt8 × Unit) × Unit) (k : V → Option β) : Option β := F β e.1.1 e.1.2.1 e.2.1.1 e.2.1.2.1 (fun y1 => k (.bool y1))
abbrev W197 (F : T197) : WT := wrap s197 (G197 F)
theorem k197 (β : Type) (e : argsT s197) (k : V → Option β) : fnK cfg (tabL []) noX 197 Tryz.f197 β (argsEnc s197 e) k = G197 (P197 ) β e k := by kernel_rfl
theorem ok197 : FnOk D 197 (W197 F197) := fn_okW [] noX (fun _ => rfl) Tryz.func197 rfl (tabL_nil) (k197 )

/-- laws.eqAttrS -/
abbrev T186 : Type 1 := (β : Type) → List V → List V → (Bool → Option β) → Option β
def P186 (F197 : T197) : T186 := fun β a b k =>
 br ((a.length : Int) != (b.length : Int)) (
 k false) (
 whileK (fun s1 =>
 br (decide ((lI s1 2) < ((lL s1 0).length : Int))) (
 chk (0 ≤ (lI s1 2)) <|
 idx true [.str, .str] (lL s1 0) ((lI s1 2).toNat) fun (e2 : List UInt8 × List UInt8 × Unit) =>
 chk (0 ≤ (lI s1 2)) <|
 idx true [.str, .str] (lL s1 1) ((lI s1 2).toNat) fun (e3 : List UInt8 × List UInt8 × Unit) =>
 F197 _ e2.1 e2.2.1 e3.1 e3.2.1 fun b4 =>
 br (!b4) (
 some (.inr (0, [.b false]))) (
 some (.inl [.l (lL s1 0), .l (lL s1 1), .i (IntKind.wrap .i64 ((lI s1 2) + 1))]))) (
 some (.inr (1, [])))) [.l a, .l b, .i 0] fun (r5 : Nat × List Leaf) =>
 if r5.1 = 0 then
 k (lB r5.2 0)
 else
 k true)
def F186 : T186 := P186 F197 
def X186 : Exits := fun i => lookN i [] [(4, [(.ret, xk 27 [(4, .bool false)] []), (.exit 0, xk 27 [] [])])]
abbrev s186 : List (Bool × List CK) := [(false, [.sl 2 true]), (false, [.sl 2 true])]
def G186 (F : T186) (β : Type) (e : (List V × Unit) × (List V × Unit) × Unit) (k : V → Option β) : Option β := F β e.1.1 e.2.1.1 (fun y1 => k (.bool y1))
abbrev W186 (F : T186) : WT := wrap s186 (G186 F)
theorem k186 (F197 : T197) (β : Type) (e : argsT s186) (k : V → Option β) : fnK cfg (tabL [(197, W197 F197)]) X186 186 Tryz.f186 β (argsEnc s186 e) k = G186 (P186 F197 ) β e k := by kernel_rfl
theorem ok186 : FnOk D 186 (W186 F186) := fn_okW [(197, W197 F197)] X186 (fun _ => rfl) Tryz.func186 rfl (tabL_cons ok197 tabL_nil) (k186 F197 )

/-- laws.eqToken -/
abbrev T146 : Type 1 := (β : Type) → Int → List UInt8 → List V → List UInt8 → Int → List UInt8 → List V → List UInt8 → (Bool → Option β) → Option β
def P146 (F186 : T186) : T146 := fun β a_Kind a_Name a_Attrs a_Text b_Kind b_Name b_Attrs b_Text k =>
 br (a_Kind != b_Kind) (
 k false) (
 br (!(a_Name == b_Name)) (
 k false) (
 F186 _ a_Attrs b_Attrs fun b1 =>
 br (!b1) (
 k false) (
 br (!(a_Text == b_Text)) (
 k false) (
 k true))))
def F146 : T146 := P146 F186 
abbrev s146 : List (Bool × List CK) := [(true, [.int .i64, .str, .sl 2 true, .str]), (true, [.int .i64, .str, .sl 2 true, .str])]
def G146 (F : T146) (β : Type) (e : (Int × List UInt8 × List V × List UInt8 × Unit) × (Int × List UInt8 × List V × List UInt8 × Unit) × Unit) (k : V → Option β) : Option β := F β e.1.1 e.1.2.1 e.1.2.2.1 e.1.2.2.2.1 e.2.1.1 e.2.1.2.1 e.2.1.2.2.1 e.2.1.2.2.2.1 (fun y1 => k (.bool y1))
abbrev W146 (F : T146) : WT := wrap s146 (G146 F)
theorem k146 (F186 : T186) (β : Type) (e : argsT s146) (k : V → Option β) : fnK cfg (tabL [(186, W186 F186)]) noX 146 Tryz.f146 β (argsEnc s146 e) k = G146 (P146 F186 ) β e k := by kernel_rfl
theorem ok146 : FnOk D 146 (W146 F146) := fn_okW [(186, W186 F186)] noX (fun _ => rfl) Tryz.func146 rfl (tabL_cons ok186 tabL_nil) (k146 F186 )

/-- laws.eqTokenS -/
abbrev T83 : Type 1 := (β : Type) → List V → List V → (Bool → Option β) → Option β
def P83 (F146 : T146) : T83 := fun β a b k =>
 br ((a.length : Int) != (b.length : Int)) (
 k false) (
 whileK (fun s1 =>
 br (decide ((lI s1 2) < ((lL s1 0).length : Int))) (
 chk (0 ≤ (lI s1 2)) <|
 idx true [.int .i64, .str, .sl 2 true, .str] (lL s1 0) ((lI s1 2).toNat) fun (e2 : Int × List UInt8 × List V × List UInt8 × Unit) =>
 chk (0 ≤ (lI s1 2)) <|
 idx true [.int .i64, .str, .sl 2 true, .str] (lL s1 1) ((lI s1 2).toNat) fun (e3 : Int × List UInt8 × List V × List UInt8 × Unit) =>
 F146 _ e2.1 e2.2.1 e2.2.2.1 e2.2.2.2.1 e3.1 e3.2.1 e3.2.2.1 e3.2.2.2.1 fun b4 =>
 br (!b4) (
 some (.inr (0, [.b false]))) (
 some (.inl [.l (lL s1 0), .l (lL s1 1), .i (IntKind.wrap .i64 ((lI s1 2) + 1))]))) (
 some (.inr (1, [])))) [.l a, .l b, .i 0] fun (r5 : Nat × List Leaf) =>
 if r5.1 = 0 then
 k (lB r5.2 0)
 else
 k true)
def F83 : T83 := P83 F146 
def X83 : Exits := fun i => lookN i [] [(4, [(.ret, xk 27 [(4, .bool false)] []), (.exit 0, xk 27 [] [])])]
abbrev s83 : List (Bool × List CK) := [(false, [.sl 4 false]), (false, [.sl 4 false])]
def G83 (F : T83) (β : Type) (e : (List V × Unit) × (List V × Unit) × Unit) (k : V → Option β) : Option β := F β e.1.1 e.2.1.1 (fun y1 => k (.bool y1))
abbrev W83 (F : T83) : WT := wrap s83 (G83 F)
theorem k83 (F146 : T146) (β : Type) (e : argsT s83) (k : V → Option β) : fnK cfg (tabL [(146, W146 F146)]) X83 83 Tryz.f83 β (argsEnc s83 e) k = G83 (P83 F146 ) β e k := by kernel_rfl
theorem ok83 : FnOk D 83 (W83 F83) := fn_okW [(146, W146 F146)] X83 (fun _ => rfl) Tryz.func83 rfl (tabL_cons ok146 tabL_nil) (k83 F146 )

/-- laws.eqNode -/
abbrev T187 : Type 1 := (β : Type) → List UInt8 → List UInt8 → Int → List V → List UInt8 → List UInt8 → Int → List V → (Bool → Option β) → Option β
def P187 (F186 : T186) : T187 := fun β a_Name a_Text a_Parent a_Attrs b_Name b_Text b_Parent b_Attrs k =>
 br (!(a_Name == b_Name)) (
 k false) (
 br (!(a_Text == b_Text)) (
 k false) (
 br (a_Parent != b_Parent) (
 k false) (
 F186 _ a_Attrs b_Attrs fun b1 =>
 br (!b1) (
 k false) (
 k true))))
def F187 : T187 := P187 F186 
abbrev s187 : List (Bool × List CK) := [(true, [.str, .str, .int .i64, .sl 2 true]), (true, [.str, .str, .int .i64, .sl 2 true])]
def G187 (F : T187) (β : Type) (e : (List UInt8 × List UInt8 × Int × List V × Unit) × (List UInt8 × List UInt8 × Int × List V × Unit) × Unit) (k : V → Option β) : Option β := F β e.1.1 e.1.2.1 e.1.2.2.1 e.1.2.2.2.1 e.2.1.1 e.2.1.2.1 e.2.1.2.2.1 e.2.1.2.2.2.1 (fun y1 => k (.bool y1))
abbrev W187 (F : T187) : WT := wrap s187 (G187 F)
theorem k187 (F186 : T186) (β : Type) (e : argsT s187) (k : V → Option β) : fnK cfg (tabL [(186, W186 F186)]) noX 187 Tryz.f187 β (argsEnc s187 e) k = G187 (P187 F186 ) β e k := by kernel_rfl
theorem ok187 : FnOk D 187 (W187 F187) := fn_okW [(186, W186 F186)] noX (fun _ => rfl) Tryz.func187 rfl (tabL_cons ok186 tabL_nil) (k187 F186 )

/-- laws.eqNodeS -/
abbrev T147 : Type 1 := (β : Type) → List V → List V → (Bool → Option β) → Option β
def P147 (F187 : T187) : T147 := fun β a b k =>
 br ((a.length : Int) != (b.length : Int)) (
 k false) (
 whileK (fun s1 =>
 br (decide ((lI s1 2) < ((lL s1 0).length : Int))) (
 chk (0 ≤ (lI s1 2)) <|
 idx true [.str, .str, .int .i64, .sl 2 true] (lL s1 0) ((lI s1 2).toNat) fun (e2 : List UInt8 × List UInt8 × Int × List V × Unit) =>
 chk (0 ≤ (lI s1 2)) <|
 idx true [.str, .str, .int .i64, .sl 2 true] (lL s1 1) ((lI s1 2).toNat) fun (e3 : List UInt8 × List UInt8 × Int × List V × Unit) =>
 F187 _ e2.1 e2.2.1 e2.2.2.1 e2.2.2.2.1 e3.1 e3.2.1 e3.2.2.1 e3.2.2.2.1 fun b4 =>
 br (!b4) (
 some (.inr (0, [.b false]))) (
 some (.inl [.l (lL s1 0), .l (lL s1 1), .i (IntKind.wrap .i64 ((lI s1 2) + 1))]))) (
 some (.inr (1, [])))) [.l a, .l b, .i 0] fun (r5 : Nat × List Leaf) =>
 if r5.1 = 0 then
 k (lB r5.2 0)
 else
 k true)
def F147 : T147 := P147 F187 
def X147 : Exits := fun i => lookN i [] [(4, [(.ret, xk 27 [(4, .bool false)] []), (.exit 0, xk 27 [] [])])]
abbrev s147 : List (Bool × List CK) := [(false, [.sl 4 false]), (false, [.sl 4 false])]
def G147 (F : T147) (β : Type) (e : (List V × Unit) × (List V × Unit) × Unit) (k : V → Option β) : Option β := F β e.1.1 e.2.1.1 (fun y1 => k (.bool y1))
abbrev W147 (F : T147) : WT := wrap s147 (G147 F)
theorem k147 (F187 : T187) (β : Type) (e : argsT s147) (k : V → Option β) : fnK cfg (tabL [(187, W187 F187)]) X147 147 Tryz.f147 β (argsEnc s147 e) k = G147 (P147 F187 ) β e k := by kernel_rfl
theorem ok147 : FnOk D 147 (W147 F147) := fn_okW [(187, W187 F187)] X147 (fun _ => rfl) Tryz.func147 rfl (tabL_cons ok187 tabL_nil) (k147 F187 )

/-- laws.eqIntS -/
abbrev T148 : Type 1 := (β : Type) → List V → List V → (Bool → Option β) → Option β
def P148 : T148 := fun β a b k =>
 br ((a.length : Int) != (b.length : Int)) (
 k false) (
 whileK (fun s1 =>
 br (decide ((lI s1 2) < ((lL s1 0).length : Int))) (
 chk (0 ≤ (lI s1 2)) <|
 idx false [.int .i64] (lL s1 0) ((lI s1 2).toNat) fun (e2 : Int × Unit) =>
 chk (0 ≤ (lI s1 2)) <|
 idx false [.int .i64] (lL s1 1) ((lI s1 2).toNat) fun (e3 : Int × Unit) =>
 br (e2.1 != e3.1) (
 some (.inr (0, [.b false]))) (
 some (.inl [.l (lL s1 0), .l (lL s1 1), .i (IntKind.wrap .i64 ((lI s1 2) + 1))]))) (
 some (.inr (1, [])))) [.l a, .l b, .i 0] fun (r4 : Nat × List Leaf) =>
 if r4.1 = 0 then
 k (lB r4.2 0)
 else
 k true)
def F148 : T148 := P148 
def X148 : Exits := fun i => lookN i [] [(4, [(.ret, xk 26 [(4, .bool false)] []), (.exit 0, xk 26 [] [])])]
abbrev s148 : List (Bool × List CK) := [(false, [.sl 1 true]), (false, [.sl 1 true])]
def G148 (F : T148) (β : Type) (e : (List V × Unit) × (List V × Unit) × Unit) (k : V → Option β) : Option β := F β e.1.1 e.2.1.1 (fun y1 => k (.bool y1))
abbrev W148 (F : T148) : WT := wrap s148 (G148 F)
theorem k148 (β : Type) (e : argsT s148) (k : V → Option β) : fnK cfg (tabL []) X148 148 Tryz.f148 β (argsEnc s148 e) k = G148 (P148 ) β e k := by kernel_rfl
theorem ok148 : FnOk D 148 (W148 F148) := fn_okW [] X148 (fun _ => rfl) Tryz.func148 rfl (tabL_nil) (k148 )

/-- laws.eqBuilder -/
abbrev T84 : Type 1 := (β : Type) → List V → List V → List V → List V → (Bool → Option β) → Option β
def P84 (F147 : T147) (F148 : T148) : T84 := fun β a_Nodes a_Open b_Nodes b_Open k =>
 F147 _ a_Nodes b_Nodes fun b1 =>
 br (!b1) (
 k false) (
 F148 _ a_Open b_Open fun b2 =>
 br (!b2) (
 k false) (
 k true))
def F84 : T84 := P84 F147 F148 
abbrev s84 : List (Bool × List CK) := [(true, [.sl 4 false, .sl 1 true]), (true, [.sl 4 false, .sl 1 true])]
def G84 (F : T84) (β : Type) (e : (List V × List V × Unit) × (List V × List V × Unit) × Unit) (k : V → Option β) : Option β := F β e.1.1 e.1.2.1 e.2.1.1 e.2.1.2.1 (fun y1 => k (.bool y1))
abbrev W84 (F : T84) : WT := wrap s84 (G84 F)
theorem k84 (F147 : T147) (F148 : T148) (β : Type) (e : argsT s84) (k : V → Option β) : fnK cfg (tabL [(147, W147 F147), (148, W148 F148)]) noX 84 Tryz.f84 β (argsEnc s84 e) k = G84 (P84 F147 F148 ) β e k := by kernel_rfl
theorem ok84 : FnOk D 84 (W84 F84) := fn_okW [(147, W147 F147), (148, W148 F148)] noX (fun _ => rfl) Tryz.func84 rfl (tabL_cons ok147 (tabL_cons ok148 tabL_nil)) (k84 F147 F148 )

/-- laws.eqSlot -/
abbrev T149 : Type 1 := (β : Type) → Int → List UInt8 → List UInt8 → List UInt8 → Int → Bool → Int → List UInt8 → Int → List UInt8 → List UInt8 → List UInt8 → Int → Bool → Int → List UInt8 → (Bool → Option β) → Option β
def P149 (F80 : T80) : T149 := fun β a_Mode a_To_Host a_To_Path a_Digest a_Node a_Done a_Code a_Body b_Mode b_To_Host b_To_Path b_Digest b_Node b_Done b_Code b_Body k =>
 br (a_Mode != b_Mode) (
 k false) (
 F80 _ a_To_Host a_To_Path b_To_Host b_To_Path fun b1 =>
 br (!b1) (
 k false) (
 br (!(a_Digest == b_Digest)) (
 k false) (
 br (a_Node != b_Node) (
 k false) (
 br (!(a_Done == b_Done)) (
 k false) (
 br (a_Code != b_Code) (
 k false) (
 br (!(a_Body == b_Body)) (
 k false) (
 k true)))))))
def F149 : T149 := P149 F80 
abbrev s149 : List (Bool × List CK) := [(true, [.int .i64, .str, .str, .str, .int .i64, .bool, .int .i64, .str]), (true, [.int .i64, .str, .str, .str, .int .i64, .bool, .int .i64, .str])]
def G149 (F : T149) (β : Type) (e : (Int × List UInt8 × List UInt8 × List UInt8 × Int × Bool × Int × List UInt8 × Unit) × (Int × List UInt8 × List UInt8 × List UInt8 × Int × Bool × Int × List UInt8 × Unit) × Unit) (k : V → Option β) : Option β := let a0_0 := e.1; let a0_1 := a0_0.2; let a0_2 := a0_1.2; let a0_3 := a0_2.2; let a0_4 := a0_3.2; let a0_5 := a0_4.2; let a0_6 := a0_5.2; let a0_7 := a0_6.2; let a1_0 := e.2.1; let a1_1 := a1_0.2; let a1_2 := a1_1.2; let a1_3 := a1_2.2; let a1_4 := a1_3.2; let a1_5 := a1_4.2; let a1_6 := a1_5.2; let a1_7 := a1_6.2; F β a0_0.1 a0_1.1 a0_2.1 a0_3.1 a0_4.1 a0_5.1 a0_6.1 a0_7.1 a1_0.1 a1_1.1 a1_2.1 a1_3.1 a1_4.1 a1_5.1 a1_6.1 a1_7.1 (fun y1 => k (.bool y1))
abbrev W149 (F : T149) : WT := wrap s149 (G149 F)
theorem k149 (F80 : T80) (β : Type) (e : argsT s149) (k : V → Option β) : fnK cfg (tabL [(80, W80 F80)]) noX 149 Tryz.f149 β (argsEnc s149 e) k = G149 (P149 F80 ) β e k := by kernel_rfl
theorem ok149 : FnOk D 149 (W149 F149) := fn_okW [(80, W80 F80)] noX (fun _ => rfl) Tryz.func149 rfl (tabL_cons ok80 tabL_nil) (k149 F80 )

/-- laws.eqSlotS -/
abbrev T85 : Type 1 := (β : Type) → List V → List V → (Bool → Option β) → Option β
def P85 (F149 : T149) : T85 := fun β a b k =>
 br ((a.length : Int) != (b.length : Int)) (
 k false) (
 whileK (fun s1 =>
 br (decide ((lI s1 2) < ((lL s1 0).length : Int))) (
 chk (0 ≤ (lI s1 2)) <|
 idx true [.int .i64, .str, .str, .str, .int .i64, .bool, .int .i64, .str] (lL s1 0) ((lI s1 2).toNat) fun (e2 : Int × List UInt8 × List UInt8 × List UInt8 × Int × Bool × Int × List UInt8 × Unit) =>
 chk (0 ≤ (lI s1 2)) <|
 idx true [.int .i64, .str, .str, .str, .int .i64, .bool, .int .i64, .str] (lL s1 1) ((lI s1 2).toNat) fun (e3 : Int × List UInt8 × List UInt8 × List UInt8 × Int × Bool × Int × List UInt8 × Unit) =>
 F149 _ e2.1 e2.2.1 e2.2.2.1 e2.2.2.2.1 e2.2.2.2.2.1 e2.2.2.2.2.2.1 e2.2.2.2.2.2.2.1 e2.2.2.2.2.2.2.2.1 e3.1 e3.2.1 e3.2.2.1 e3.2.2.2.1 e3.2.2.2.2.1 e3.2.2.2.2.2.1 e3.2.2.2.2.2.2.1 e3.2.2.2.2.2.2.2.1 fun b4 =>
 br (!b4) (
 some (.inr (0, [.b false]))) (
 some (.inl [.l (lL s1 0), .l (lL s1 1), .i (IntKind.wrap .i64 ((lI s1 2) + 1))]))) (
 some (.inr (1, [])))) [.l a, .l b, .i 0] fun (r5 : Nat × List Leaf) =>
 if r5.1 = 0 then
 k (lB r5.2 0)
 else
 k true)
def F85 : T85 := P85 F149 
def X85 : Exits := fun i => lookN i [] [(4, [(.ret, xk 27 [(4, .bool false)] []), (.exit 0, xk 27 [] [])])]
abbrev s85 : List (Bool × List CK) := [(false, [.sl 8 true]), (false, [.sl 8 true])]
def G85 (F : T85) (β : Type) (e : (List V × Unit) × (List V × Unit) × Unit) (k : V → Option β) : Option β := F β e.1.1 e.2.1.1 (fun y1 => k (.bool y1))
abbrev W85 (F : T85) : WT := wrap s85 (G85 F)
theorem k85 (F149 : T149) (β : Type) (e : argsT s85) (k : V → Option β) : fnK cfg (tabL [(149, W149 F149)]) X85 85 Tryz.f85 β (argsEnc s85 e) k = G85 (P85 F149 ) β e k := by kernel_rfl
theorem ok85 : FnOk D 85 (W85 F85) := fn_okW [(149, W149 F149)] X85 (fun _ => rfl) Tryz.func85 rfl (tabL_cons ok149 tabL_nil) (k85 F149 )

/-- laws.eqModule -/
abbrev T150 : Type 1 := (β : Type) → List UInt8 → List UInt8 → Bool → Int → List UInt8 → List UInt8 → List UInt8 → Bool → Int → List UInt8 → (Bool → Option β) → Option β
def P150 (F80 : T80) : T150 := fun β a_To_Host a_To_Path a_Done a_Code a_Body b_To_Host b_To_Path b_Done b_Code b_Body k =>
 F80 _ a_To_Host a_To_Path b_To_Host b_To_Path fun b1 =>
 br (!b1) (
 k false) (
 br (!(a_Done == b_Done)) (
 k false) (
 br (a_Code != b_Code) (
 k false) (
 br (!(a_Body == b_Body)) (
 k false) (
 k true))))
def F150 : T150 := P150 F80 
abbrev s150 : List (Bool × List CK) := [(true, [.str, .str, .bool, .int .i64, .str]), (true, [.str, .str, .bool, .int .i64, .str])]
def G150 (F : T150) (β : Type) (e : (List UInt8 × List UInt8 × Bool × Int × List UInt8 × Unit) × (List UInt8 × List UInt8 × Bool × Int × List UInt8 × Unit) × Unit) (k : V → Option β) : Option β := let a0_0 := e.1; let a0_1 := a0_0.2; let a0_2 := a0_1.2; let a0_3 := a0_2.2; let a0_4 := a0_3.2; let a1_0 := e.2.1; let a1_1 := a1_0.2; let a1_2 := a1_1.2; let a1_3 := a1_2.2; let a1_4 := a1_3.2; F β a0_0.1 a0_1.1 a0_2.1 a0_3.1 a0_4.1 a1_0.1 a1_1.1 a1_2.1 a1_3.1 a1_4.1 (fun y1 => k (.bool y1))
abbrev W150 (F : T150) : WT := wrap s150 (G150 F)
theorem k150 (F80 : T80) (β : Type) (e : argsT s150) (k : V → Option β) : fnK cfg (tabL [(80, W80 F80)]) noX 150 Tryz.f150 β (argsEnc s150 e) k = G150 (P150 F80 ) β e k := by kernel_rfl
theorem ok150 : FnOk D 150 (W150 F150) := fn_okW [(80, W80 F80)] noX (fun _ => rfl) Tryz.func150 rfl (tabL_cons ok80 tabL_nil) (k150 F80 )

/-- laws.eqModuleS -/
abbrev T86 : Type 1 := (β : Type) → List V → List V → (Bool → Option β) → Option β
def P86 (F150 : T150) : T86 := fun β a b k =>
 br ((a.length : Int) != (b.length : Int)) (
 k false) (
 whileK (fun s1 =>
 br (decide ((lI s1 2) < ((lL s1 0).length : Int))) (
 chk (0 ≤ (lI s1 2)) <|
 idx true [.str, .str, .bool, .int .i64, .str] (lL s1 0) ((lI s1 2).toNat) fun (e2 : List UInt8 × List UInt8 × Bool × Int × List UInt8 × Unit) =>
 chk (0 ≤ (lI s1 2)) <|
 idx true [.str, .str, .bool, .int .i64, .str] (lL s1 1) ((lI s1 2).toNat) fun (e3 : List UInt8 × List UInt8 × Bool × Int × List UInt8 × Unit) =>
 F150 _ e2.1 e2.2.1 e2.2.2.1 e2.2.2.2.1 e2.2.2.2.2.1 e3.1 e3.2.1 e3.2.2.1 e3.2.2.2.1 e3.2.2.2.2.1 fun b4 =>
 br (!b4) (
 some (.inr (0, [.b false]))) (
 some (.inl [.l (lL s1 0), .l (lL s1 1), .i (IntKind.wrap .i64 ((lI s1 2) + 1))]))) (
 some (.inr (1, [])))) [.l a, .l b, .i 0] fun (r5 : Nat × List Leaf) =>
 if r5.1 = 0 then
 k (lB r5.2 0)
 else
 k true)
def F86 : T86 := P86 F150 
def X86 : Exits := fun i => lookN i [] [(4, [(.ret, xk 27 [(4, .bool false)] []), (.exit 0, xk 27 [] [])])]
abbrev s86 : List (Bool × List CK) := [(false, [.sl 5 true]), (false, [.sl 5 true])]
def G86 (F : T86) (β : Type) (e : (List V × Unit) × (List V × Unit) × Unit) (k : V → Option β) : Option β := F β e.1.1 e.2.1.1 (fun y1 => k (.bool y1))
abbrev W86 (F : T86) : WT := wrap s86 (G86 F)
theorem k86 (F150 : T150) (β : Type) (e : argsT s86) (k : V → Option β) : fnK cfg (tabL [(150, W150 F150)]) X86 86 Tryz.f86 β (argsEnc s86 e) k = G86 (P86 F150 ) β e k := by kernel_rfl
theorem ok86 : FnOk D 86 (W86 F86) := fn_okW [(150, W150 F150)] X86 (fun _ => rfl) Tryz.func86 rfl (tabL_cons ok150 tabL_nil) (k86 F150 )

/-- laws.eqAddrS -/
abbrev T87 : Type 1 := (β : Type) → List V → List V → (Bool → Option β) → Option β
def P87 (F80 : T80) : T87 := fun β a b k =>
 br ((a.length : Int) != (b.length : Int)) (
 k false) (
 whileK (fun s1 =>
 br (decide ((lI s1 2) < ((lL s1 0).length : Int))) (
 chk (0 ≤ (lI s1 2)) <|
 idx true [.str, .str] (lL s1 0) ((lI s1 2).toNat) fun (e2 : List UInt8 × List UInt8 × Unit) =>
 chk (0 ≤ (lI s1 2)) <|
 idx true [.str, .str] (lL s1 1) ((lI s1 2).toNat) fun (e3 : List UInt8 × List UInt8 × Unit) =>
 F80 _ e2.1 e2.2.1 e3.1 e3.2.1 fun b4 =>
 br (!b4) (
 some (.inr (0, [.b false]))) (
 some (.inl [.l (lL s1 0), .l (lL s1 1), .i (IntKind.wrap .i64 ((lI s1 2) + 1))]))) (
 some (.inr (1, [])))) [.l a, .l b, .i 0] fun (r5 : Nat × List Leaf) =>
 if r5.1 = 0 then
 k (lB r5.2 0)
 else
 k true)
def F87 : T87 := P87 F80 
def X87 : Exits := fun i => lookN i [] [(4, [(.ret, xk 27 [(4, .bool false)] []), (.exit 0, xk 27 [] [])])]
abbrev s87 : List (Bool × List CK) := [(false, [.sl 2 true]), (false, [.sl 2 true])]
def G87 (F : T87) (β : Type) (e : (List V × Unit) × (List V × Unit) × Unit) (k : V → Option β) : Option β := F β e.1.1 e.2.1.1 (fun y1 => k (.bool y1))
abbrev W87 (F : T87) : WT := wrap s87 (G87 F)
theorem k87 (F80 : T80) (β : Type) (e : argsT s87) (k : V → Option β) : fnK cfg (tabL [(80, W80 F80)]) X87 87 Tryz.f87 β (argsEnc s87 e) k = G87 (P87 F80 ) β e k := by kernel_rfl
theorem ok87 : FnOk D 87 (W87 F87) := fn_okW [(80, W80 F80)] X87 (fun _ => rfl) Tryz.func87 rfl (tabL_cons ok80 tabL_nil) (k87 F80 )

/-- laws.eqPage -/
abbrev T22 : Type 1 := (β : Type) → List UInt8 → List UInt8 → Bool → List V → List V → List V → List UInt8 → List UInt8 → List V → Bool → List V → List V → List V → List V → List V → Int → Int → Int → Int → List V → List V → Bool → List UInt8 → List UInt8 → Bool → List V → List V → List V → List UInt8 → List UInt8 → List V → Bool → List V → List V → List V → List V → List V → Int → Int → Int → Int → List V → List V → Bool → (Bool → Option β) → Option β
def P22 (F80 : T80) (F81 : T81) (F82 : T82) (F83 : T83) (F84 : T84) (F85 : T85) (F86 : T86) (F87 : T87) (F88 : T88) : T22 := fun β a_Addr_Host a_Addr_Path a_Policy_Set a_Policy_Scripts a_Policy_Styles a_Policy_Images a_Policy_Nonce a_Tok_Rest a_Queue a_Ended a_Builder_Nodes a_Builder_Open a_Slots a_Mods a_Entries a_Block a_Inline a_Deferred a_Entered a_Ran a_Log a_Loaded b_Addr_Host b_Addr_Path b_Policy_Set b_Policy_Scripts b_Policy_Styles b_Policy_Images b_Policy_Nonce b_Tok_Rest b_Queue b_Ended b_Builder_Nodes b_Builder_Open b_Slots b_Mods b_Entries b_Block b_Inline b_Deferred b_Entered b_Ran b_Log b_Loaded k =>
 F80 _ a_Addr_Host a_Addr_Path b_Addr_Host b_Addr_Path fun b1 =>
 br (!b1) (
 k false) (
 F81 _ a_Policy_Set a_Policy_Scripts a_Policy_Styles a_Policy_Images a_Policy_Nonce b_Policy_Set b_Policy_Scripts b_Policy_Styles b_Policy_Images b_Policy_Nonce fun b2 =>
 br (!b2) (
 k false) (
 F82 _ a_Tok_Rest b_Tok_Rest fun b3 =>
 br (!b3) (
 k false) (
 F83 _ a_Queue b_Queue fun b4 =>
 br (!b4) (
 k false) (
 br (!(a_Ended == b_Ended)) (
 k false) (
 F84 _ a_Builder_Nodes a_Builder_Open b_Builder_Nodes b_Builder_Open fun b5 =>
 br (!b5) (
 k false) (
 F85 _ a_Slots b_Slots fun b6 =>
 br (!b6) (
 k false) (
 F86 _ a_Mods b_Mods fun b7 =>
 br (!b7) (
 k false) (
 F87 _ a_Entries b_Entries fun b8 =>
 br (!b8) (
 k false) (
 br (a_Block != b_Block) (
 k false) (
 br (a_Inline != b_Inline) (
 k false) (
 br (a_Deferred != b_Deferred) (
 k false) (
 br (a_Entered != b_Entered) (
 k false) (
 F87 _ a_Ran b_Ran fun b9 =>
 br (!b9) (
 k false) (
 F88 _ a_Log b_Log fun b10 =>
 br (!b10) (
 k false) (
 br (!(a_Loaded == b_Loaded)) (
 k false) (
 k true))))))))))))))))
def F22 : T22 := P22 F80 F81 F82 F83 F84 F85 F86 F87 F88 
abbrev s22 : List (Bool × List CK) := [(true, [.str, .str, .bool, .sl 1 true, .sl 1 true, .sl 1 true, .str, .str, .sl 4 false, .bool, .sl 4 false, .sl 1 true, .sl 8 true, .sl 5 true, .sl 2 true, .int .i64, .int .i64, .int .i64, .int .i64, .sl 2 true, .sl 1 true, .bool]), (true, [.str, .str, .bool, .sl 1 true, .sl 1 true, .sl 1 true, .str, .str, .sl 4 false, .bool, .sl 4 false, .sl 1 true, .sl 8 true, .sl 5 true, .sl 2 true, .int .i64, .int .i64, .int .i64, .int .i64, .sl 2 true, .sl 1 true, .bool])]
def G22 (F : T22) (β : Type) (e : (List UInt8 × List UInt8 × Bool × List V × List V × List V × List UInt8 × List UInt8 × List V × Bool × List V × List V × List V × List V × List V × Int × Int × Int × Int × List V × List V × Bool × Unit) × (List UInt8 × List UInt8 × Bool × List V × List V × List V × List UInt8 × List UInt8 × List V × Bool × List V × List V × List V × List V × List V × Int × Int × Int × Int × List V × List V × Bool × Unit) × Unit) (k : V → Option β) : Option β := let a0_0 := e.1; let a0_1 := a0_0.2; let a0_2 := a0_1.2; let a0_3 := a0_2.2; let a0_4 := a0_3.2; let a0_5 := a0_4.2; let a0_6 := a0_5.2; let a0_7 := a0_6.2; let a0_8 := a0_7.2; let a0_9 := a0_8.2; let a0_10 := a0_9.2; let a0_11 := a0_10.2; let a0_12 := a0_11.2; let a0_13 := a0_12.2; let a0_14 := a0_13.2; let a0_15 := a0_14.2; let a0_16 := a0_15.2; let a0_17 := a0_16.2; let a0_18 := a0_17.2; let a0_19 := a0_18.2; let a0_20 := a0_19.2; let a0_21 := a0_20.2; let a1_0 := e.2.1; let a1_1 := a1_0.2; let a1_2 := a1_1.2; let a1_3 := a1_2.2; let a1_4 := a1_3.2; let a1_5 := a1_4.2; let a1_6 := a1_5.2; let a1_7 := a1_6.2; let a1_8 := a1_7.2; let a1_9 := a1_8.2; let a1_10 := a1_9.2; let a1_11 := a1_10.2; let a1_12 := a1_11.2; let a1_13 := a1_12.2; let a1_14 := a1_13.2; let a1_15 := a1_14.2; let a1_16 := a1_15.2; let a1_17 := a1_16.2; let a1_18 := a1_17.2; let a1_19 := a1_18.2; let a1_20 := a1_19.2; let a1_21 := a1_20.2; F β a0_0.1 a0_1.1 a0_2.1 a0_3.1 a0_4.1 a0_5.1 a0_6.1 a0_7.1 a0_8.1 a0_9.1 a0_10.1 a0_11.1 a0_12.1 a0_13.1 a0_14.1 a0_15.1 a0_16.1 a0_17.1 a0_18.1 a0_19.1 a0_20.1 a0_21.1 a1_0.1 a1_1.1 a1_2.1 a1_3.1 a1_4.1 a1_5.1 a1_6.1 a1_7.1 a1_8.1 a1_9.1 a1_10.1 a1_11.1 a1_12.1 a1_13.1 a1_14.1 a1_15.1 a1_16.1 a1_17.1 a1_18.1 a1_19.1 a1_20.1 a1_21.1 (fun y1 => k (.bool y1))
abbrev W22 (F : T22) : WT := wrap s22 (G22 F)
theorem k22 (F80 : T80) (F81 : T81) (F82 : T82) (F83 : T83) (F84 : T84) (F85 : T85) (F86 : T86) (F87 : T87) (F88 : T88) (β : Type) (e : argsT s22) (k : V → Option β) : fnK cfg (tabL [(80, W80 F80), (81, W81 F81), (82, W82 F82), (83, W83 F83), (84, W84 F84), (85, W85 F85), (86, W86 F86), (87, W87 F87), (88, W88 F88)]) noX 22 Tryz.f22 β (argsEnc s22 e) k = G22 (P22 F80 F81 F82 F83 F84 F85 F86 F87 F88 ) β e k := by kernel_rfl
theorem ok22 : FnOk D 22 (W22 F22) := fn_okW [(80, W80 F80), (81, W81 F81), (82, W82 F82), (83, W83 F83), (84, W84 F84), (85, W85 F85), (86, W86 F86), (87, W87 F87), (88, W88 F88)] noX (fun _ => rfl) Tryz.func22 rfl (tabL_cons ok80 (tabL_cons ok81 (tabL_cons ok82 (tabL_cons ok83 (tabL_cons ok84 (tabL_cons ok85 (tabL_cons ok86 (tabL_cons ok87 (tabL_cons ok88 tabL_nil))))))))) (k22 F80 F81 F82 F83 F84 F85 F86 F87 F88 )

/-- laws.eqKept -/
abbrev T119 : Type 1 := (β : Type) → List UInt8 → List UInt8 → Int → Int → List UInt8 → Int → Bool → List UInt8 → List UInt8 → List UInt8 → Int → Int → List UInt8 → Int → Bool → List UInt8 → (Bool → Option β) → Option β
def P119 (F80 : T80) (F172 : T172) : T119 := fun β a_To_Host a_To_Path a_Response_Status a_Response_Kind a_Response_Body a_Response_Age a_Response_Shares a_Response_Policy b_To_Host b_To_Path b_Response_Status b_Response_Kind b_Response_Body b_Response_Age b_Response_Shares b_Response_Policy k =>
 F80 _ a_To_Host a_To_Path b_To_Host b_To_Path fun b1 =>
 br (!b1) (
 k false) (
 F172 _ a_Response_Status a_Response_Kind a_Response_Body a_Response_Age a_Response_Shares a_Response_Policy b_Response_Status b_Response_Kind b_Response_Body b_Response_Age b_Response_Shares b_Response_Policy fun b2 =>
 br (!b2) (
 k false) (
 k true))
def F119 : T119 := P119 F80 F172 
abbrev s119 : List (Bool × List CK) := [(true, [.str, .str, .int .i64, .int .i64, .str, .int .i64, .bool, .str]), (true, [.str, .str, .int .i64, .int .i64, .str, .int .i64, .bool, .str])]
def G119 (F : T119) (β : Type) (e : (List UInt8 × List UInt8 × Int × Int × List UInt8 × Int × Bool × List UInt8 × Unit) × (List UInt8 × List UInt8 × Int × Int × List UInt8 × Int × Bool × List UInt8 × Unit) × Unit) (k : V → Option β) : Option β := let a0_0 := e.1; let a0_1 := a0_0.2; let a0_2 := a0_1.2; let a0_3 := a0_2.2; let a0_4 := a0_3.2; let a0_5 := a0_4.2; let a0_6 := a0_5.2; let a0_7 := a0_6.2; let a1_0 := e.2.1; let a1_1 := a1_0.2; let a1_2 := a1_1.2; let a1_3 := a1_2.2; let a1_4 := a1_3.2; let a1_5 := a1_4.2; let a1_6 := a1_5.2; let a1_7 := a1_6.2; F β a0_0.1 a0_1.1 a0_2.1 a0_3.1 a0_4.1 a0_5.1 a0_6.1 a0_7.1 a1_0.1 a1_1.1 a1_2.1 a1_3.1 a1_4.1 a1_5.1 a1_6.1 a1_7.1 (fun y1 => k (.bool y1))
abbrev W119 (F : T119) : WT := wrap s119 (G119 F)
theorem k119 (F80 : T80) (F172 : T172) (β : Type) (e : argsT s119) (k : V → Option β) : fnK cfg (tabL [(80, W80 F80), (172, W172 F172)]) noX 119 Tryz.f119 β (argsEnc s119 e) k = G119 (P119 F80 F172 ) β e k := by kernel_rfl
theorem ok119 : FnOk D 119 (W119 F119) := fn_okW [(80, W80 F80), (172, W172 F172)] noX (fun _ => rfl) Tryz.func119 rfl (tabL_cons ok80 (tabL_cons ok172 tabL_nil)) (k119 F80 F172 )

/-- laws.eqKeptS -/
abbrev T42 : Type 1 := (β : Type) → List V → List V → (Bool → Option β) → Option β
def P42 (F119 : T119) : T42 := fun β a b k =>
 br ((a.length : Int) != (b.length : Int)) (
 k false) (
 whileK (fun s1 =>
 br (decide ((lI s1 2) < ((lL s1 0).length : Int))) (
 chk (0 ≤ (lI s1 2)) <|
 idx true [.str, .str, .int .i64, .int .i64, .str, .int .i64, .bool, .str] (lL s1 0) ((lI s1 2).toNat) fun (e2 : List UInt8 × List UInt8 × Int × Int × List UInt8 × Int × Bool × List UInt8 × Unit) =>
 chk (0 ≤ (lI s1 2)) <|
 idx true [.str, .str, .int .i64, .int .i64, .str, .int .i64, .bool, .str] (lL s1 1) ((lI s1 2).toNat) fun (e3 : List UInt8 × List UInt8 × Int × Int × List UInt8 × Int × Bool × List UInt8 × Unit) =>
 F119 _ e2.1 e2.2.1 e2.2.2.1 e2.2.2.2.1 e2.2.2.2.2.1 e2.2.2.2.2.2.1 e2.2.2.2.2.2.2.1 e2.2.2.2.2.2.2.2.1 e3.1 e3.2.1 e3.2.2.1 e3.2.2.2.1 e3.2.2.2.2.1 e3.2.2.2.2.2.1 e3.2.2.2.2.2.2.1 e3.2.2.2.2.2.2.2.1 fun b4 =>
 br (!b4) (
 some (.inr (0, [.b false]))) (
 some (.inl [.l (lL s1 0), .l (lL s1 1), .i (IntKind.wrap .i64 ((lI s1 2) + 1))]))) (
 some (.inr (1, [])))) [.l a, .l b, .i 0] fun (r5 : Nat × List Leaf) =>
 if r5.1 = 0 then
 k (lB r5.2 0)
 else
 k true)
def F42 : T42 := P42 F119 
def X42 : Exits := fun i => lookN i [] [(4, [(.ret, xk 27 [(4, .bool false)] []), (.exit 0, xk 27 [] [])])]
abbrev s42 : List (Bool × List CK) := [(false, [.sl 8 true]), (false, [.sl 8 true])]
def G42 (F : T42) (β : Type) (e : (List V × Unit) × (List V × Unit) × Unit) (k : V → Option β) : Option β := F β e.1.1 e.2.1.1 (fun y1 => k (.bool y1))
abbrev W42 (F : T42) : WT := wrap s42 (G42 F)
theorem k42 (F119 : T119) (β : Type) (e : argsT s42) (k : V → Option β) : fnK cfg (tabL [(119, W119 F119)]) X42 42 Tryz.f42 β (argsEnc s42 e) k = G42 (P42 F119 ) β e k := by kernel_rfl
theorem ok42 : FnOk D 42 (W42 F42) := fn_okW [(119, W119 F119)] X42 (fun _ => rfl) Tryz.func42 rfl (tabL_cons ok119 tabL_nil) (k42 F119 )

/-- laws.eqHidden -/
abbrev T12 : Type 1 := (β : Type) → Bool → List UInt8 → List UInt8 → Bool → List V → List V → List V → List UInt8 → List UInt8 → List V → Bool → List V → List V → List V → List V → List V → Int → Int → Int → Int → List V → List V → Bool → List V → List V → Int → Bool → List UInt8 → List UInt8 → Bool → List V → List V → List V → List UInt8 → List UInt8 → List V → Bool → List V → List V → List V → List V → List V → Int → Int → Int → Int → List V → List V → Bool → List V → List V → Int → (Bool → Option β) → Option β
def P12 (F22 : T22) (F42 : T42) (F43 : T43) : T12 := fun β a_Ready a_Page_Addr_Host a_Page_Addr_Path a_Page_Policy_Set a_Page_Policy_Scripts a_Page_Policy_Styles a_Page_Policy_Images a_Page_Policy_Nonce a_Page_Tok_Rest a_Page_Queue a_Page_Ended a_Page_Builder_Nodes a_Page_Builder_Open a_Page_Slots a_Page_Mods a_Page_Entries a_Page_Block a_Page_Inline a_Page_Deferred a_Page_Entered a_Page_Ran a_Page_Log a_Page_Loaded a_Taken a_Servers a_Now b_Ready b_Page_Addr_Host b_Page_Addr_Path b_Page_Policy_Set b_Page_Policy_Scripts b_Page_Policy_Styles b_Page_Policy_Images b_Page_Policy_Nonce b_Page_Tok_Rest b_Page_Queue b_Page_Ended b_Page_Builder_Nodes b_Page_Builder_Open b_Page_Slots b_Page_Mods b_Page_Entries b_Page_Block b_Page_Inline b_Page_Deferred b_Page_Entered b_Page_Ran b_Page_Log b_Page_Loaded b_Taken b_Servers b_Now k =>
 br (!(a_Ready == b_Ready)) (
 k false) (
 F22 _ a_Page_Addr_Host a_Page_Addr_Path a_Page_Policy_Set a_Page_Policy_Scripts a_Page_Policy_Styles a_Page_Policy_Images a_Page_Policy_Nonce a_Page_Tok_Rest a_Page_Queue a_Page_Ended a_Page_Builder_Nodes a_Page_Builder_Open a_Page_Slots a_Page_Mods a_Page_Entries a_Page_Block a_Page_Inline a_Page_Deferred a_Page_Entered a_Page_Ran a_Page_Log a_Page_Loaded b_Page_Addr_Host b_Page_Addr_Path b_Page_Policy_Set b_Page_Policy_Scripts b_Page_Policy_Styles b_Page_Policy_Images b_Page_Policy_Nonce b_Page_Tok_Rest b_Page_Queue b_Page_Ended b_Page_Builder_Nodes b_Page_Builder_Open b_Page_Slots b_Page_Mods b_Page_Entries b_Page_Block b_Page_Inline b_Page_Deferred b_Page_Entered b_Page_Ran b_Page_Log b_Page_Loaded fun b1 =>
 br (!b1) (
 k false) (
 F42 _ a_Taken b_Taken fun b2 =>
 br (!b2) (
 k false) (
 F43 _ a_Servers b_Servers fun b3 =>
 br (!b3) (
 k false) (
 br (a_Now != b_Now) (
 k false) (
 k true)))))
def F12 : T12 := P12 F22 F42 F43 
abbrev s12 : List (Bool × List CK) := [(true, [.bool, .str, .str, .bool, .sl 1 true, .sl 1 true, .sl 1 true, .str, .str, .sl 4 false, .bool, .sl 4 false, .sl 1 true, .sl 8 true, .sl 5 true, .sl 2 true, .int .i64, .int .i64, .int .i64, .int .i64, .sl 2 true, .sl 1 true, .bool, .sl 8 true, .sl 2 false, .int .i64]), (true, [.bool, .str, .str, .bool, .sl 1 true, .sl 1 true, .sl 1 true, .str, .str, .sl 4 false, .bool, .sl 4 false, .sl 1 true, .sl 8 true, .sl 5 true, .sl 2 true, .int .i64, .int .i64, .int .i64, .int .i64, .sl 2 true, .sl 1 true, .bool, .sl 8 true, .sl 2 false, .int .i64])]
def G12 (F : T12) (β : Type) (e : (Bool × List UInt8 × List UInt8 × Bool × List V × List V × List V × List UInt8 × List UInt8 × List V × Bool × List V × List V × List V × List V × List V × Int × Int × Int × Int × List V × List V × Bool × List V × List V × Int × Unit) × (Bool × List UInt8 × List UInt8 × Bool × List V × List V × List V × List UInt8 × List UInt8 × List V × Bool × List V × List V × List V × List V × List V × Int × Int × Int × Int × List V × List V × Bool × List V × List V × Int × Unit) × Unit) (k : V → Option β) : Option β := let a0_0 := e.1; let a0_1 := a0_0.2; let a0_2 := a0_1.2; let a0_3 := a0_2.2; let a0_4 := a0_3.2; let a0_5 := a0_4.2; let a0_6 := a0_5.2; let a0_7 := a0_6.2; let a0_8 := a0_7.2; let a0_9 := a0_8.2; let a0_10 := a0_9.2; let a0_11 := a0_10.2; let a0_12 := a0_11.2; let a0_13 := a0_12.2; let a0_14 := a0_13.2; let a0_15 := a0_14.2; let a0_16 := a0_15.2; let a0_17 := a0_16.2; let a0_18 := a0_17.2; let a0_19 := a0_18.2; let a0_20 := a0_19.2; let a0_21 := a0_20.2; let a0_22 := a0_21.2; let a0_23 := a0_22.2; let a0_24 := a0_23.2; let a0_25 := a0_24.2; let a1_0 := e.2.1; let a1_1 := a1_0.2; let a1_2 := a1_1.2; let a1_3 := a1_2.2; let a1_4 := a1_3.2; let a1_5 := a1_4.2; let a1_6 := a1_5.2; let a1_7 := a1_6.2; let a1_8 := a1_7.2; let a1_9 := a1_8.2; let a1_10 := a1_9.2; let a1_11 := a1_10.2; let a1_12 := a1_11.2; let a1_13 := a1_12.2; let a1_14 := a1_13.2; let a1_15 := a1_14.2; let a1_16 := a1_15.2; let a1_17 := a1_16.2; let a1_18 := a1_17.2; let a1_19 := a1_18.2; let a1_20 := a1_19.2; let a1_21 := a1_20.2; let a1_22 := a1_21.2; let a1_23 := a1_22.2; let a1_24 := a1_23.2; let a1_25 := a1_24.2; F β a0_0.1 a0_1.1 a0_2.1 a0_3.1 a0_4.1 a0_5.1 a0_6.1 a0_7.1 a0_8.1 a0_9.1 a0_10.1 a0_11.1 a0_12.1 a0_13.1 a0_14.1 a0_15.1 a0_16.1 a0_17.1 a0_18.1 a0_19.1 a0_20.1 a0_21.1 a0_22.1 a0_23.1 a0_24.1 a0_25.1 a1_0.1 a1_1.1 a1_2.1 a1_3.1 a1_4.1 a1_5.1 a1_6.1 a1_7.1 a1_8.1 a1_9.1 a1_10.1 a1_11.1 a1_12.1 a1_13.1 a1_14.1 a1_15.1 a1_16.1 a1_17.1 a1_18.1 a1_19.1 a1_20.1 a1_21.1 a1_22.1 a1_23.1 a1_24.1 a1_25.1 (fun y1 => k (.bool y1))
abbrev W12 (F : T12) : WT := wrap s12 (G12 F)
theorem k12 (F22 : T22) (F42 : T42) (F43 : T43) (β : Type) (e : argsT s12) (k : V → Option β) : fnK cfg (tabL [(22, W22 F22), (42, W42 F42), (43, W43 F43)]) noX 12 Tryz.f12 β (argsEnc s12 e) k = G12 (P12 F22 F42 F43 ) β e k := by kernel_rfl
theorem ok12 : FnOk D 12 (W12 F12) := fn_okW [(22, W22 F22), (42, W42 F42), (43, W43 F43)] noX (fun _ => rfl) Tryz.func12 rfl (tabL_cons ok22 (tabL_cons ok42 (tabL_cons ok43 tabL_nil))) (k12 F22 F42 F43 )

/-- laws.FnExactIsStale -/
abbrev T4 : Type 1 := (β : Type) → List V → List V → List V → Int → Bool → List UInt8 → List UInt8 → Bool → List V → List V → List V → List UInt8 → List UInt8 → List V → Bool → List V → List V → List V → List V → List V → Int → Int → Int → Int → List V → List V → Bool → List V → List V → Int → (Bool → Option β) → Option β
def P4 (F13 : T13) (F8 : T8) (F15 : T15) (F10 : T10) (F14 : T14) (F16 : T16) (F17 : T17) (F12 : T12) : T4 := fun β aN_Servers aN_Cache_Entries aN_Log aN_Now aH_Ready aH_Page_Addr_Host aH_Page_Addr_Path aH_Page_Policy_Set aH_Page_Policy_Scripts aH_Page_Policy_Styles aH_Page_Policy_Images aH_Page_Policy_Nonce aH_Page_Tok_Rest aH_Page_Queue aH_Page_Ended aH_Page_Builder_Nodes aH_Page_Builder_Open aH_Page_Slots aH_Page_Mods aH_Page_Entries aH_Page_Block aH_Page_Inline aH_Page_Deferred aH_Page_Entered aH_Page_Ran aH_Page_Log aH_Page_Loaded aH_Taken aH_Servers aH_Now k =>
 F13 _ aN_Servers aN_Cache_Entries aN_Log aN_Now 1048576 fun n1 =>
 br (decide (n1 < 0)) (
 k true) (
 F8 _ aH_Ready aH_Page_Addr_Host aH_Page_Addr_Path aH_Page_Policy_Set aH_Page_Policy_Scripts aH_Page_Policy_Styles aH_Page_Policy_Images aH_Page_Policy_Nonce aH_Page_Tok_Rest aH_Page_Queue aH_Page_Ended aH_Page_Builder_Nodes aH_Page_Builder_Open aH_Page_Slots aH_Page_Mods aH_Page_Entries aH_Page_Block aH_Page_Inline aH_Page_Deferred aH_Page_Entered aH_Page_Ran aH_Page_Log aH_Page_Loaded aH_Taken aH_Servers aH_Now n1 fun n2 =>
 br (decide (n2 < 0)) (
 k true) (
 F15 _ aN_Servers aN_Cache_Entries aN_Log aN_Now fun l3 l4 l5 n6 =>
 F10 _ aH_Ready aH_Page_Addr_Host aH_Page_Addr_Path aH_Page_Policy_Set aH_Page_Policy_Scripts aH_Page_Policy_Styles aH_Page_Policy_Images aH_Page_Policy_Nonce aH_Page_Tok_Rest aH_Page_Queue aH_Page_Ended aH_Page_Builder_Nodes aH_Page_Builder_Open aH_Page_Slots aH_Page_Mods aH_Page_Entries aH_Page_Block aH_Page_Inline aH_Page_Deferred aH_Page_Entered aH_Page_Ran aH_Page_Log aH_Page_Loaded aH_Taken aH_Servers aH_Now fun b7 t8 t9 b10 l11 l12 l13 t14 t15 l16 b17 l18 l19 l20 l21 l22 n23 n24 n25 n26 l27 l28 b29 l30 l31 n32 =>
 F14 _ l3 l4 l5 n6 b7 t8 t9 b10 l11 l12 l13 t14 t15 l16 b17 l18 l19 l20 l21 l22 n23 n24 n25 n26 l27 l28 b29 l30 l31 n32 fun b33 =>
 F15 _ aN_Servers aN_Cache_Entries aN_Log aN_Now fun l34 l35 l36 n37 =>
 F10 _ aH_Ready aH_Page_Addr_Host aH_Page_Addr_Path aH_Page_Policy_Set aH_Page_Policy_Scripts aH_Page_Policy_Styles aH_Page_Policy_Images aH_Page_Policy_Nonce aH_Page_Tok_Rest aH_Page_Queue aH_Page_Ended aH_Page_Builder_Nodes aH_Page_Builder_Open aH_Page_Slots aH_Page_Mods aH_Page_Entries aH_Page_Block aH_Page_Inline aH_Page_Deferred aH_Page_Entered aH_Page_Ran aH_Page_Log aH_Page_Loaded aH_Taken aH_Servers aH_Now fun b38 t39 t40 b41 l42 l43 l44 t45 t46 l47 b48 l49 l50 l51 l52 l53 n54 n55 n56 n57 l58 l59 b60 l61 l62 n63 =>
 F16 _ l34 l35 l36 n37 b38 t39 t40 b41 l42 l43 l44 t45 t46 l47 b48 l49 l50 l51 l52 l53 n54 n55 n56 n57 l58 l59 b60 l61 l62 n63 fun b64 =>
 br (!(b64 == b33)) (
 k false) (
 F15 _ aN_Servers aN_Cache_Entries aN_Log aN_Now fun l65 l66 l67 n68 =>
 F17 _ l34 l35 l36 n37 l65 l66 l67 n68 fun b69 =>
 br (!b69) (
 k false) (
 F10 _ aH_Ready aH_Page_Addr_Host aH_Page_Addr_Path aH_Page_Policy_Set aH_Page_Policy_Scripts aH_Page_Policy_Styles aH_Page_Policy_Images aH_Page_Policy_Nonce aH_Page_Tok_Rest aH_Page_Queue aH_Page_Ended aH_Page_Builder_Nodes aH_Page_Builder_Open aH_Page_Slots aH_Page_Mods aH_Page_Entries aH_Page_Block aH_Page_Inline aH_Page_Deferred aH_Page_Entered aH_Page_Ran aH_Page_Log aH_Page_Loaded aH_Taken aH_Servers aH_Now fun b70 t71 t72 b73 l74 l75 l76 t77 t78 l79 b80 l81 l82 l83 l84 l85 n86 n87 n88 n89 l90 l91 b92 l93 l94 n95 =>
 F12 _ b38 t39 t40 b41 l42 l43 l44 t45 t46 l47 b48 l49 l50 l51 l52 l53 n54 n55 n56 n57 l58 l59 b60 l61 l62 n63 b70 t71 t72 b73 l74 l75 l76 t77 t78 l79 b80 l81 l82 l83 l84 l85 n86 n87 n88 n89 l90 l91 b92 l93 l94 n95 fun b96 =>
 br (!b96) (
 k false) (
 k true)))))
def F4 : T4 := P4 F13 F8 F15 F10 F14 F16 F17 F12 
abbrev s4 : List (Bool × List CK) := [(true, [.sl 2 false, .sl 10 true, .sl 4 true, .int .i64]), (true, [.bool, .str, .str, .bool, .sl 1 true, .sl 1 true, .sl 1 true, .str, .str, .sl 4 false, .bool, .sl 4 false, .sl 1 true, .sl 8 true, .sl 5 true, .sl 2 true, .int .i64, .int .i64, .int .i64, .int .i64, .sl 2 true, .sl 1 true, .bool, .sl 8 true, .sl 2 false, .int .i64])]
def G4 (F : T4) (β : Type) (e : (List V × List V × List V × Int × Unit) × (Bool × List UInt8 × List UInt8 × Bool × List V × List V × List V × List UInt8 × List UInt8 × List V × Bool × List V × List V × List V × List V × List V × Int × Int × Int × Int × List V × List V × Bool × List V × List V × Int × Unit) × Unit) (k : V → Option β) : Option β := let a1_0 := e.2.1; let a1_1 := a1_0.2; let a1_2 := a1_1.2; let a1_3 := a1_2.2; let a1_4 := a1_3.2; let a1_5 := a1_4.2; let a1_6 := a1_5.2; let a1_7 := a1_6.2; let a1_8 := a1_7.2; let a1_9 := a1_8.2; let a1_10 := a1_9.2; let a1_11 := a1_10.2; let a1_12 := a1_11.2; let a1_13 := a1_12.2; let a1_14 := a1_13.2; let a1_15 := a1_14.2; let a1_16 := a1_15.2; let a1_17 := a1_16.2; let a1_18 := a1_17.2; let a1_19 := a1_18.2; let a1_20 := a1_19.2; let a1_21 := a1_20.2; let a1_22 := a1_21.2; let a1_23 := a1_22.2; let a1_24 := a1_23.2; let a1_25 := a1_24.2; F β e.1.1 e.1.2.1 e.1.2.2.1 e.1.2.2.2.1 a1_0.1 a1_1.1 a1_2.1 a1_3.1 a1_4.1 a1_5.1 a1_6.1 a1_7.1 a1_8.1 a1_9.1 a1_10.1 a1_11.1 a1_12.1 a1_13.1 a1_14.1 a1_15.1 a1_16.1 a1_17.1 a1_18.1 a1_19.1 a1_20.1 a1_21.1 a1_22.1 a1_23.1 a1_24.1 a1_25.1 (fun y1 => k (.bool y1))
abbrev W4 (F : T4) : WT := wrap s4 (G4 F)
theorem k4 (F13 : T13) (F8 : T8) (F15 : T15) (F10 : T10) (F14 : T14) (F16 : T16) (F17 : T17) (F12 : T12) (β : Type) (e : argsT s4) (k : V → Option β) : fnK cfg (tabL [(13, W13 F13), (8, W8 F8), (15, W15 F15), (10, W10 F10), (14, W14 F14), (16, W16 F16), (17, W17 F17), (12, W12 F12)]) noX 4 Tryz.f4 β (argsEnc s4 e) k = G4 (P4 F13 F8 F15 F10 F14 F16 F17 F12 ) β e k := by kernel_rfl
theorem ok4 : FnOk D 4 (W4 F4) := fn_okW [(13, W13 F13), (8, W8 F8), (15, W15 F15), (10, W10 F10), (14, W14 F14), (16, W16 F16), (17, W17 F17), (12, W12 F12)] noX (fun _ => rfl) Tryz.func4 rfl (tabL_cons ok13 (tabL_cons ok8 (tabL_cons ok15 (tabL_cons ok10 (tabL_cons ok14 (tabL_cons ok16 (tabL_cons ok17 (tabL_cons ok12 tabL_nil)))))))) (k4 F13 F8 F15 F10 F14 F16 F17 F12 )

end
end Go.Am

/-
  Functions of the program, extracted by program (sym.py) out of their code: what each computes, and, by the kernel's reckoning, that the machine's looking form computes just that; so what the machine answers.
-/
import Derived.Test.YtgfiinkdogbelaatAmCfg
import Derived.Test.YtgfiinkdogbelaatAmEvOk2
import Derived.KernelRfl
set_option maxRecDepth 10000
set_option linter.unusedVariables false
namespace Go.Am
open Go Go.Proofs
noncomputable section
abbrev WT : Type 1 := (β : Type) → List V → (V → Option β) → Option β
abbrev T60 : Type 1 := (β : Type) → Int → Int → List UInt8 → Int → Bool → List UInt8 → Int → (Int → Option β) → Option β
def P60 : T60 := fun β a_Status a_Kind a_Body a_Age a_Shares a_Policy left k =>
 br (decide (IntKind.wrap .i64 (left - (a_Body.length : Int)) < 0)) (
 k (-1)) (
 br (decide (IntKind.wrap .i64 ((IntKind.wrap .i64 (left - (a_Body.length : Int))) - (a_Policy.length : Int)) < 0)) (
 k (-1)) (
 k (IntKind.wrap .i64 ((IntKind.wrap .i64 (left - (a_Body.length : Int))) - (a_Policy.length : Int)))))
def F60 : T60 := P60
abbrev s60 : List (Bool × List CK) := [(true, [.int .i64, .int .i64, .str, .int .i64, .bool, .str]), (false, [.int .i64])]
def G60 (F : T60) (β : Type) (e : (Int × Int × List UInt8 × Int × Bool × List UInt8 × Unit) × (Int × Unit) × Unit) (k : V → Option β) : Option β := let a0_0 := e.1; let a0_1 := a0_0.2; let a0_2 := a0_1.2; let a0_3 := a0_2.2; let a0_4 := a0_3.2; let a0_5 := a0_4.2; F β a0_0.1 a0_1.1 a0_2.1 a0_3.1 a0_4.1 a0_5.1 e.2.1.1 (fun y1 => k (.int .i64 y1))
abbrev W60 (F : T60) : WT := wrap s60 (G60 F)
theorem k60 (β : Type) (e : argsT s60) (k : V → Option β) : fnK cfg (tabL []) noX 60 Try.f60 β (argsEnc s60 e) k = G60 (P60 ) β e k := by kernel_rfl
theorem ok60 : FnOk D 60 (W60 F60) := fn_okW [] noX (fun _ => rfl) Try.func60 rfl (tabL_nil) (k60 )
abbrev T59 : Type 1 := (β : Type) → List UInt8 → Int → Int → List UInt8 → Int → Bool → List UInt8 → Int → (Int → Option β) → Option β
def P59 (F60 : T60) : T59 := fun β a_Path a_Response_Status a_Response_Kind a_Response_Body a_Response_Age a_Response_Shares a_Response_Policy left k =>
 br (decide (IntKind.wrap .i64 (left - (a_Path.length : Int)) < 0)) (
 k (-1)) (
 F60 _ a_Response_Status a_Response_Kind a_Response_Body a_Response_Age a_Response_Shares a_Response_Policy (IntKind.wrap .i64 (left - (a_Path.length : Int))) fun n1 =>
 br (decide (n1 < 0)) (
 k (-1)) (
 k n1))
def F59 : T59 := P59 F60
abbrev s59 : List (Bool × List CK) := [(true, [.str, .int .i64, .int .i64, .str, .int .i64, .bool, .str]), (false, [.int .i64])]
def G59 (F : T59) (β : Type) (e : (List UInt8 × Int × Int × List UInt8 × Int × Bool × List UInt8 × Unit) × (Int × Unit) × Unit) (k : V → Option β) : Option β := let a0_0 := e.1; let a0_1 := a0_0.2; let a0_2 := a0_1.2; let a0_3 := a0_2.2; let a0_4 := a0_3.2; let a0_5 := a0_4.2; let a0_6 := a0_5.2; F β a0_0.1 a0_1.1 a0_2.1 a0_3.1 a0_4.1 a0_5.1 a0_6.1 e.2.1.1 (fun y1 => k (.int .i64 y1))
abbrev W59 (F : T59) : WT := wrap s59 (G59 F)
theorem k59 (F60 : T60) (β : Type) (e : argsT s59) (k : V → Option β) : fnK cfg (tabL [(60, W60 F60)]) noX 59 Try.f59 β (argsEnc s59 e) k = G59 (P59 F60 ) β e k := by kernel_rfl
theorem ok59 : FnOk D 59 (W59 F59) := fn_okW [(60, W60 F60)] noX (fun _ => rfl) Try.func59 rfl (tabL_cons ok60 tabL_nil) (k59 F60 )
abbrev T46 : Type 1 := (β : Type) → List V → Int → (Int → Option β) → Option β
def P46 (F59 : T59) : T46 := fun β a left k =>
 br (decide (IntKind.wrap .i64 (left - (a.length : Int)) < 0)) (
 k (-1)) (
 whileK (fun s1 =>
 br (decide ((lI s1 2) < ((lL s1 0).length : Int))) (
 chk (0 ≤ (lI s1 2)) <|
 idx true [.str, .int .i64, .int .i64, .str, .int .i64, .bool, .str] (lL s1 0) ((lI s1 2).toNat) fun (e2 : List UInt8 × Int × Int × List UInt8 × Int × Bool × List UInt8 × Unit) =>
 F59 _ e2.1 e2.2.1 e2.2.2.1 e2.2.2.2.1 e2.2.2.2.2.1 e2.2.2.2.2.2.1 e2.2.2.2.2.2.2.1 (lI s1 1) fun n3 =>
 br (decide (n3 < 0)) (
 some (.inr (0, [.i n3, .i (-1)]))) (
 some (.inl [.l (lL s1 0), .i n3, .i (IntKind.wrap .i64 ((lI s1 2) + 1))]))) (
 some (.inr (1, [.i (lI s1 1)])))) [.l a, .i (IntKind.wrap .i64 (left - (a.length : Int))), .i 0] fun (r4 : Nat × List Leaf) =>
 if r4.1 = 0 then
 k (lI r4.2 1)
 else
 k (lI r4.2 0))
def F46 : T46 := P46 F59
def X46 : Exits := fun i => lookN i [] [(5, [(.ret, xk 27 [(1, .int .i64 0), (4, .int .i64 0)] []), (.exit 0, xk 27 [(1, .int .i64 0)] [])])]
abbrev s46 : List (Bool × List CK) := [(false, [.sl 7 true]), (false, [.int .i64])]
def G46 (F : T46) (β : Type) (e : (List V × Unit) × (Int × Unit) × Unit) (k : V → Option β) : Option β := F β e.1.1 e.2.1.1 (fun y1 => k (.int .i64 y1))
abbrev W46 (F : T46) : WT := wrap s46 (G46 F)
theorem k46 (F59 : T59) (β : Type) (e : argsT s46) (k : V → Option β) : fnK cfg (tabL [(59, W59 F59)]) X46 46 Try.f46 β (argsEnc s46 e) k = G46 (P46 F59 ) β e k := by kernel_rfl
theorem ok46 : FnOk D 46 (W46 F46) := fn_okW [(59, W59 F59)] X46 (fun _ => rfl) Try.func46 rfl (tabL_cons ok59 tabL_nil) (k46 F59 )
abbrev T30 : Type 1 := (β : Type) → List UInt8 → List V → Int → (Int → Option β) → Option β
def P30 (F46 : T46) : T30 := fun β a_Host a_Files left k =>
 br (decide (IntKind.wrap .i64 (left - (a_Host.length : Int)) < 0)) (
 k (-1)) (
 F46 _ a_Files (IntKind.wrap .i64 (left - (a_Host.length : Int))) fun n1 =>
 br (decide (n1 < 0)) (
 k (-1)) (
 k n1))
def F30 : T30 := P30 F46
abbrev s30 : List (Bool × List CK) := [(true, [.str, .sl 7 true]), (false, [.int .i64])]
def G30 (F : T30) (β : Type) (e : (List UInt8 × List V × Unit) × (Int × Unit) × Unit) (k : V → Option β) : Option β := F β e.1.1 e.1.2.1 e.2.1.1 (fun y1 => k (.int .i64 y1))
abbrev W30 (F : T30) : WT := wrap s30 (G30 F)
theorem k30 (F46 : T46) (β : Type) (e : argsT s30) (k : V → Option β) : fnK cfg (tabL [(46, W46 F46)]) noX 30 Try.f30 β (argsEnc s30 e) k = G30 (P30 F46 ) β e k := by kernel_rfl
theorem ok30 : FnOk D 30 (W30 F30) := fn_okW [(46, W46 F46)] noX (fun _ => rfl) Try.func30 rfl (tabL_cons ok46 tabL_nil) (k30 F46 )
abbrev T13 : Type 1 := (β : Type) → List V → Int → (Int → Option β) → Option β
def P13 (F30 : T30) : T13 := fun β a left k =>
 br (decide (IntKind.wrap .i64 (left - (a.length : Int)) < 0)) (
 k (-1)) (
 whileK (fun s1 =>
 br (decide ((lI s1 2) < ((lL s1 0).length : Int))) (
 chk (0 ≤ (lI s1 2)) <|
 idx true [.str, .sl 7 true] (lL s1 0) ((lI s1 2).toNat) fun (e2 : List UInt8 × List V × Unit) =>
 F30 _ e2.1 e2.2.1 (lI s1 1) fun n3 =>
 br (decide (n3 < 0)) (
 some (.inr (0, [.i n3, .i (-1)]))) (
 some (.inl [.l (lL s1 0), .i n3, .i (IntKind.wrap .i64 ((lI s1 2) + 1))]))) (
 some (.inr (1, [.i (lI s1 1)])))) [.l a, .i (IntKind.wrap .i64 (left - (a.length : Int))), .i 0] fun (r4 : Nat × List Leaf) =>
 if r4.1 = 0 then
 k (lI r4.2 1)
 else
 k (lI r4.2 0))
def F13 : T13 := P13 F30
def X13 : Exits := fun i => lookN i [] [(5, [(.ret, xk 27 [(1, .int .i64 0), (4, .int .i64 0)] []), (.exit 0, xk 27 [(1, .int .i64 0)] [])])]
abbrev s13 : List (Bool × List CK) := [(false, [.sl 2 false]), (false, [.int .i64])]
def G13 (F : T13) (β : Type) (e : (List V × Unit) × (Int × Unit) × Unit) (k : V → Option β) : Option β := F β e.1.1 e.2.1.1 (fun y1 => k (.int .i64 y1))
abbrev W13 (F : T13) : WT := wrap s13 (G13 F)
theorem k13 (F30 : T30) (β : Type) (e : argsT s13) (k : V → Option β) : fnK cfg (tabL [(30, W30 F30)]) X13 13 Try.f13 β (argsEnc s13 e) k = G13 (P13 F30 ) β e k := by kernel_rfl
theorem ok13 : FnOk D 13 (W13 F13) := fn_okW [(30, W30 F30)] X13 (fun _ => rfl) Try.func13 rfl (tabL_cons ok30 tabL_nil) (k13 F30 )
abbrev T48 : Type 1 := (β : Type) → List UInt8 → List UInt8 → Int → (Int → Option β) → Option β
def P48 : T48 := fun β a_Host a_Path left k =>
 br (decide (IntKind.wrap .i64 (left - (a_Host.length : Int)) < 0)) (
 k (-1)) (
 br (decide (IntKind.wrap .i64 ((IntKind.wrap .i64 (left - (a_Host.length : Int))) - (a_Path.length : Int)) < 0)) (
 k (-1)) (
 k (IntKind.wrap .i64 ((IntKind.wrap .i64 (left - (a_Host.length : Int))) - (a_Path.length : Int)))))
def F48 : T48 := P48
abbrev s48 : List (Bool × List CK) := [(true, [.str, .str]), (false, [.int .i64])]
def G48 (F : T48) (β : Type) (e : (List UInt8 × List UInt8 × Unit) × (Int × Unit) × Unit) (k : V → Option β) : Option β := F β e.1.1 e.1.2.1 e.2.1.1 (fun y1 => k (.int .i64 y1))
abbrev W48 (F : T48) : WT := wrap s48 (G48 F)
theorem k48 (β : Type) (e : argsT s48) (k : V → Option β) : fnK cfg (tabL []) noX 48 Try.f48 β (argsEnc s48 e) k = G48 (P48 ) β e k := by kernel_rfl
theorem ok48 : FnOk D 48 (W48 F48) := fn_okW [] noX (fun _ => rfl) Try.func48 rfl (tabL_nil) (k48 )
abbrev T47 : Type 1 := (β : Type) → List UInt8 → List UInt8 → List UInt8 → Int → Int → List UInt8 → Int → Bool → List UInt8 → Int → Int → (Int → Option β) → Option β
def P47 (F48 : T48) (F60 : T60) : T47 := fun β a_Top a_To_Host a_To_Path a_Response_Status a_Response_Kind a_Response_Body a_Response_Age a_Response_Shares a_Response_Policy a_Until left k =>
 br (decide (IntKind.wrap .i64 (left - (a_Top.length : Int)) < 0)) (
 k (-1)) (
 F48 _ a_To_Host a_To_Path (IntKind.wrap .i64 (left - (a_Top.length : Int))) fun n1 =>
 br (decide (n1 < 0)) (
 k (-1)) (
 F60 _ a_Response_Status a_Response_Kind a_Response_Body a_Response_Age a_Response_Shares a_Response_Policy n1 fun n2 =>
 br (decide (n2 < 0)) (
 k (-1)) (
 k n2)))
def F47 : T47 := P47 F48 F60
abbrev s47 : List (Bool × List CK) := [(true, [.str, .str, .str, .int .i64, .int .i64, .str, .int .i64, .bool, .str, .int .i64]), (false, [.int .i64])]
def G47 (F : T47) (β : Type) (e : (List UInt8 × List UInt8 × List UInt8 × Int × Int × List UInt8 × Int × Bool × List UInt8 × Int × Unit) × (Int × Unit) × Unit) (k : V → Option β) : Option β := let a0_0 := e.1; let a0_1 := a0_0.2; let a0_2 := a0_1.2; let a0_3 := a0_2.2; let a0_4 := a0_3.2; let a0_5 := a0_4.2; let a0_6 := a0_5.2; let a0_7 := a0_6.2; let a0_8 := a0_7.2; let a0_9 := a0_8.2; F β a0_0.1 a0_1.1 a0_2.1 a0_3.1 a0_4.1 a0_5.1 a0_6.1 a0_7.1 a0_8.1 a0_9.1 e.2.1.1 (fun y1 => k (.int .i64 y1))
abbrev W47 (F : T47) : WT := wrap s47 (G47 F)
theorem k47 (F48 : T48) (F60 : T60) (β : Type) (e : argsT s47) (k : V → Option β) : fnK cfg (tabL [(48, W48 F48), (60, W60 F60)]) noX 47 Try.f47 β (argsEnc s47 e) k = G47 (P47 F48 F60 ) β e k := by kernel_rfl
theorem ok47 : FnOk D 47 (W47 F47) := fn_okW [(48, W48 F48), (60, W60 F60)] noX (fun _ => rfl) Try.func47 rfl (tabL_cons ok48 (tabL_cons ok60 tabL_nil)) (k47 F48 F60 )
abbrev T31 : Type 1 := (β : Type) → List V → Int → (Int → Option β) → Option β
def P31 (F47 : T47) : T31 := fun β a left k =>
 br (decide (IntKind.wrap .i64 (left - (a.length : Int)) < 0)) (
 k (-1)) (
 whileK (fun s1 =>
 br (decide ((lI s1 2) < ((lL s1 0).length : Int))) (
 chk (0 ≤ (lI s1 2)) <|
 idx true [.str, .str, .str, .int .i64, .int .i64, .str, .int .i64, .bool, .str, .int .i64] (lL s1 0) ((lI s1 2).toNat) fun (e2 : List UInt8 × List UInt8 × List UInt8 × Int × Int × List UInt8 × Int × Bool × List UInt8 × Int × Unit) =>
 F47 _ e2.1 e2.2.1 e2.2.2.1 e2.2.2.2.1 e2.2.2.2.2.1 e2.2.2.2.2.2.1 e2.2.2.2.2.2.2.1 e2.2.2.2.2.2.2.2.1 e2.2.2.2.2.2.2.2.2.1 e2.2.2.2.2.2.2.2.2.2.1 (lI s1 1) fun n3 =>
 br (decide (n3 < 0)) (
 some (.inr (0, [.i n3, .i (-1)]))) (
 some (.inl [.l (lL s1 0), .i n3, .i (IntKind.wrap .i64 ((lI s1 2) + 1))]))) (
 some (.inr (1, [.i (lI s1 1)])))) [.l a, .i (IntKind.wrap .i64 (left - (a.length : Int))), .i 0] fun (r4 : Nat × List Leaf) =>
 if r4.1 = 0 then
 k (lI r4.2 1)
 else
 k (lI r4.2 0))
def F31 : T31 := P31 F47
def X31 : Exits := fun i => lookN i [] [(5, [(.ret, xk 27 [(1, .int .i64 0), (4, .int .i64 0)] []), (.exit 0, xk 27 [(1, .int .i64 0)] [])])]
abbrev s31 : List (Bool × List CK) := [(false, [.sl 10 true]), (false, [.int .i64])]
def G31 (F : T31) (β : Type) (e : (List V × Unit) × (Int × Unit) × Unit) (k : V → Option β) : Option β := F β e.1.1 e.2.1.1 (fun y1 => k (.int .i64 y1))
abbrev W31 (F : T31) : WT := wrap s31 (G31 F)
theorem k31 (F47 : T47) (β : Type) (e : argsT s31) (k : V → Option β) : fnK cfg (tabL [(47, W47 F47)]) X31 31 Try.f31 β (argsEnc s31 e) k = G31 (P31 F47 ) β e k := by kernel_rfl
theorem ok31 : FnOk D 31 (W31 F31) := fn_okW [(47, W47 F47)] X31 (fun _ => rfl) Try.func31 rfl (tabL_cons ok47 tabL_nil) (k31 F47 )
abbrev T14 : Type 1 := (β : Type) → List V → Int → (Int → Option β) → Option β
def P14 (F31 : T31) : T14 := fun β a_Entries left k =>
 F31 _ a_Entries left fun n1 =>
 br (decide (n1 < 0)) (
 k (-1)) (
 k n1)
def F14 : T14 := P14 F31
abbrev s14 : List (Bool × List CK) := [(true, [.sl 10 true]), (false, [.int .i64])]
def G14 (F : T14) (β : Type) (e : (List V × Unit) × (Int × Unit) × Unit) (k : V → Option β) : Option β := F β e.1.1 e.2.1.1 (fun y1 => k (.int .i64 y1))
abbrev W14 (F : T14) : WT := wrap s14 (G14 F)
theorem k14 (F31 : T31) (β : Type) (e : argsT s14) (k : V → Option β) : fnK cfg (tabL [(31, W31 F31)]) noX 14 Try.f14 β (argsEnc s14 e) k = G14 (P14 F31 ) β e k := by kernel_rfl
theorem ok14 : FnOk D 14 (W14 F14) := fn_okW [(31, W31 F31)] noX (fun _ => rfl) Try.func14 rfl (tabL_cons ok31 tabL_nil) (k14 F31 )
abbrev T32 : Type 1 := (β : Type) → List UInt8 → List UInt8 → List UInt8 → Bool → Int → (Int → Option β) → Option β
def P32 (F48 : T48) : T32 := fun β a_Top a_To_Host a_To_Path a_Guess left k =>
 br (decide (IntKind.wrap .i64 (left - (a_Top.length : Int)) < 0)) (
 k (-1)) (
 F48 _ a_To_Host a_To_Path (IntKind.wrap .i64 (left - (a_Top.length : Int))) fun n1 =>
 br (decide (n1 < 0)) (
 k (-1)) (
 k n1))
def F32 : T32 := P32 F48
abbrev s32 : List (Bool × List CK) := [(true, [.str, .str, .str, .bool]), (false, [.int .i64])]
def G32 (F : T32) (β : Type) (e : (List UInt8 × List UInt8 × List UInt8 × Bool × Unit) × (Int × Unit) × Unit) (k : V → Option β) : Option β := F β e.1.1 e.1.2.1 e.1.2.2.1 e.1.2.2.2.1 e.2.1.1 (fun y1 => k (.int .i64 y1))
abbrev W32 (F : T32) : WT := wrap s32 (G32 F)
theorem k32 (F48 : T48) (β : Type) (e : argsT s32) (k : V → Option β) : fnK cfg (tabL [(48, W48 F48)]) noX 32 Try.f32 β (argsEnc s32 e) k = G32 (P32 F48 ) β e k := by kernel_rfl
theorem ok32 : FnOk D 32 (W32 F32) := fn_okW [(48, W48 F48)] noX (fun _ => rfl) Try.func32 rfl (tabL_cons ok48 tabL_nil) (k32 F48 )
abbrev T15 : Type 1 := (β : Type) → List V → Int → (Int → Option β) → Option β
def P15 (F32 : T32) : T15 := fun β a left k =>
 br (decide (IntKind.wrap .i64 (left - (a.length : Int)) < 0)) (
 k (-1)) (
 whileK (fun s1 =>
 br (decide ((lI s1 2) < ((lL s1 0).length : Int))) (
 chk (0 ≤ (lI s1 2)) <|
 idx true [.str, .str, .str, .bool] (lL s1 0) ((lI s1 2).toNat) fun (e2 : List UInt8 × List UInt8 × List UInt8 × Bool × Unit) =>
 F32 _ e2.1 e2.2.1 e2.2.2.1 e2.2.2.2.1 (lI s1 1) fun n3 =>
 br (decide (n3 < 0)) (
 some (.inr (0, [.i n3, .i (-1)]))) (
 some (.inl [.l (lL s1 0), .i n3, .i (IntKind.wrap .i64 ((lI s1 2) + 1))]))) (
 some (.inr (1, [.i (lI s1 1)])))) [.l a, .i (IntKind.wrap .i64 (left - (a.length : Int))), .i 0] fun (r4 : Nat × List Leaf) =>
 if r4.1 = 0 then
 k (lI r4.2 1)
 else
 k (lI r4.2 0))
def F15 : T15 := P15 F32
def X15 : Exits := fun i => lookN i [] [(5, [(.ret, xk 27 [(1, .int .i64 0), (4, .int .i64 0)] []), (.exit 0, xk 27 [(1, .int .i64 0)] [])])]
abbrev s15 : List (Bool × List CK) := [(false, [.sl 4 true]), (false, [.int .i64])]
def G15 (F : T15) (β : Type) (e : (List V × Unit) × (Int × Unit) × Unit) (k : V → Option β) : Option β := F β e.1.1 e.2.1.1 (fun y1 => k (.int .i64 y1))
abbrev W15 (F : T15) : WT := wrap s15 (G15 F)
theorem k15 (F32 : T32) (β : Type) (e : argsT s15) (k : V → Option β) : fnK cfg (tabL [(32, W32 F32)]) X15 15 Try.f15 β (argsEnc s15 e) k = G15 (P15 F32 ) β e k := by kernel_rfl
theorem ok15 : FnOk D 15 (W15 F15) := fn_okW [(32, W32 F32)] X15 (fun _ => rfl) Try.func15 rfl (tabL_cons ok32 tabL_nil) (k15 F32 )
abbrev T4 : Type 1 := (β : Type) → List V → List V → List V → Int → Int → (Int → Option β) → Option β
def P4 (F13 : T13) (F14 : T14) (F15 : T15) : T4 := fun β a_Servers a_Cache_Entries a_Log a_Now left k =>
 F13 _ a_Servers left fun n1 =>
 br (decide (n1 < 0)) (
 k (-1)) (
 F14 _ a_Cache_Entries n1 fun n2 =>
 br (decide (n2 < 0)) (
 k (-1)) (
 F15 _ a_Log n2 fun n3 =>
 br (decide (n3 < 0)) (
 k (-1)) (
 k n3)))
def F4 : T4 := P4 F13 F14 F15
abbrev s4 : List (Bool × List CK) := [(true, [.sl 2 false, .sl 10 true, .sl 4 true, .int .i64]), (false, [.int .i64])]
def G4 (F : T4) (β : Type) (e : (List V × List V × List V × Int × Unit) × (Int × Unit) × Unit) (k : V → Option β) : Option β := F β e.1.1 e.1.2.1 e.1.2.2.1 e.1.2.2.2.1 e.2.1.1 (fun y1 => k (.int .i64 y1))
abbrev W4 (F : T4) : WT := wrap s4 (G4 F)
theorem k4 (F13 : T13) (F14 : T14) (F15 : T15) (β : Type) (e : argsT s4) (k : V → Option β) : fnK cfg (tabL [(13, W13 F13), (14, W14 F14), (15, W15 F15)]) noX 4 Try.f4 β (argsEnc s4 e) k = G4 (P4 F13 F14 F15 ) β e k := by kernel_rfl
theorem ok4 : FnOk D 4 (W4 F4) := fn_okW [(13, W13 F13), (14, W14 F14), (15, W15 F15)] noX (fun _ => rfl) Try.func4 rfl (tabL_cons ok13 (tabL_cons ok14 (tabL_cons ok15 tabL_nil))) (k4 F13 F14 F15 )
abbrev T62 : Type 1 := (β : Type) → Int → Int → List UInt8 → Int → Bool → List UInt8 → (Int → Int → List UInt8 → Int → Bool → List UInt8 → Option β) → Option β
def P62 : T62 := fun β a_Status a_Kind a_Body a_Age a_Shares a_Policy k =>
 k a_Status a_Kind a_Body a_Age a_Shares a_Policy
def F62 : T62 := P62
abbrev s62 : List (Bool × List CK) := [(true, [.int .i64, .int .i64, .str, .int .i64, .bool, .str])]
def G62 (F : T62) (β : Type) (e : (Int × Int × List UInt8 × Int × Bool × List UInt8 × Unit) × Unit) (k : V → Option β) : Option β := let a0_0 := e.1; let a0_1 := a0_0.2; let a0_2 := a0_1.2; let a0_3 := a0_2.2; let a0_4 := a0_3.2; let a0_5 := a0_4.2; F β a0_0.1 a0_1.1 a0_2.1 a0_3.1 a0_4.1 a0_5.1 (fun y1 y2 y3 y4 y5 y6 => k (.agg [.int .i64 y1, .int .i64 y2, .str y3, .int .i64 y4, .bool y5, .str y6]))
abbrev W62 (F : T62) : WT := wrap s62 (G62 F)
theorem k62 (β : Type) (e : argsT s62) (k : V → Option β) : fnK cfg (tabL []) noX 62 Try.f62 β (argsEnc s62 e) k = G62 (P62 ) β e k := by kernel_rfl
theorem ok62 : FnOk D 62 (W62 F62) := fn_okW [] noX (fun _ => rfl) Try.func62 rfl (tabL_nil) (k62 )
abbrev T61 : Type 1 := (β : Type) → List UInt8 → Int → Int → List UInt8 → Int → Bool → List UInt8 → (List UInt8 → Int → Int → List UInt8 → Int → Bool → List UInt8 → Option β) → Option β
def P61 (F62 : T62) : T61 := fun β a_Path a_Response_Status a_Response_Kind a_Response_Body a_Response_Age a_Response_Shares a_Response_Policy k =>
 F62 _ a_Response_Status a_Response_Kind a_Response_Body a_Response_Age a_Response_Shares a_Response_Policy fun n1 n2 t3 n4 b5 t6 =>
 k a_Path n1 n2 t3 n4 b5 t6
def F61 : T61 := P61 F62
abbrev s61 : List (Bool × List CK) := [(true, [.str, .int .i64, .int .i64, .str, .int .i64, .bool, .str])]
def G61 (F : T61) (β : Type) (e : (List UInt8 × Int × Int × List UInt8 × Int × Bool × List UInt8 × Unit) × Unit) (k : V → Option β) : Option β := let a0_0 := e.1; let a0_1 := a0_0.2; let a0_2 := a0_1.2; let a0_3 := a0_2.2; let a0_4 := a0_3.2; let a0_5 := a0_4.2; let a0_6 := a0_5.2; F β a0_0.1 a0_1.1 a0_2.1 a0_3.1 a0_4.1 a0_5.1 a0_6.1 (fun y1 y2 y3 y4 y5 y6 y7 => k (.agg [.str y1, .int .i64 y2, .int .i64 y3, .str y4, .int .i64 y5, .bool y6, .str y7]))
abbrev W61 (F : T61) : WT := wrap s61 (G61 F)
theorem k61 (F62 : T62) (β : Type) (e : argsT s61) (k : V → Option β) : fnK cfg (tabL [(62, W62 F62)]) noX 61 Try.f61 β (argsEnc s61 e) k = G61 (P61 F62 ) β e k := by kernel_rfl
theorem ok61 : FnOk D 61 (W61 F61) := fn_okW [(62, W62 F62)] noX (fun _ => rfl) Try.func61 rfl (tabL_cons ok62 tabL_nil) (k61 F62 )
abbrev T49 : Type 1 := (β : Type) → List V → (List V → Option β) → Option β
def P49 (F61 : T61) : T49 := fun β a k =>
 chk (0 ≤ (a.length : Int) ∧ (a.length : Int) ≤ (a.length : Int) ∧ (a.length : Int) * 80 ≤ 140737488355328 ∧ (a.length : Int) ≤ 140737488355328) <|
 whileK (fun s1 =>
 br (decide ((lI s1 2) < ((lL s1 0).length : Int))) (
 chk (0 ≤ (lI s1 2)) <|
 idx true [.str, .int .i64, .int .i64, .str, .int .i64, .bool, .str] (lL s1 0) ((lI s1 2).toNat) fun (e2 : List UInt8 × Int × Int × List UInt8 × Int × Bool × List UInt8 × Unit) =>
 F61 _ e2.1 e2.2.1 e2.2.2.1 e2.2.2.2.1 e2.2.2.2.2.1 e2.2.2.2.2.2.1 e2.2.2.2.2.2.2.1 fun t3 n4 n5 t6 n7 b8 t9 =>
 chk (0 ≤ (lI s1 2) ∧ (lI s1 2).toNat < (lL s1 1).length) <|
 storeO (lL s1 1) ((lI s1 2).toNat) 0 [.str t3, .int .i64 n4, .int .i64 n5, .str t6, .int .i64 n7, .bool b8, .str t9] fun l10 =>
 some (.inl [.l (lL s1 0), .l l10, .i (IntKind.wrap .i64 ((lI s1 2) + 1))])) (
 some (.inr (0, [.l (lL s1 1)])))) [.l a, .l (List.replicate ((a.length : Int).toNat) (.agg [.str [], .int .i64 0, .int .i64 0, .str [], .int .i64 0, .bool false, .str []])), .i 0] fun (r11 : Nat × List Leaf) =>
 k (lL r11.2 0)
def F49 : T49 := P49 F61
def X49 : Exits := fun i => lookN i [] [(3, [(.exit 0, xk 23 [(3, .own 1000000 7 .flat [])] [])])]
abbrev s49 : List (Bool × List CK) := [(false, [.sl 7 true])]
def G49 (F : T49) (β : Type) (e : (List V × Unit) × Unit) (k : V → Option β) : Option β := F β e.1.1 (fun y1 => k (.own 0 7 .flat y1))
abbrev W49 (F : T49) : WT := wrap s49 (G49 F)
theorem k49 (F61 : T61) (β : Type) (e : argsT s49) (k : V → Option β) : fnK cfg (tabL [(61, W61 F61)]) X49 49 Try.f49 β (argsEnc s49 e) k = G49 (P49 F61 ) β e k := by kernel_rfl
theorem ok49 : FnOk D 49 (W49 F49) := fn_okW [(61, W61 F61)] X49 (fun _ => rfl) Try.func49 rfl (tabL_cons ok61 tabL_nil) (k49 F61 )
abbrev T35 : Type 1 := (β : Type) → List UInt8 → List V → (List UInt8 → List V → Option β) → Option β
def P35 (F49 : T49) : T35 := fun β a_Host a_Files k =>
 F49 _ a_Files fun l1 =>
 k a_Host l1
def F35 : T35 := P35 F49
abbrev s35 : List (Bool × List CK) := [(true, [.str, .sl 7 true])]
def G35 (F : T35) (β : Type) (e : (List UInt8 × List V × Unit) × Unit) (k : V → Option β) : Option β := F β e.1.1 e.1.2.1 (fun y1 y2 => k (.agg [.str y1, .own 1 7 .flat y2]))
abbrev W35 (F : T35) : WT := wrap s35 (G35 F)
theorem k35 (F49 : T49) (β : Type) (e : argsT s35) (k : V → Option β) : fnK cfg (tabL [(49, W49 F49)]) noX 35 Try.f35 β (argsEnc s35 e) k = G35 (P35 F49 ) β e k := by kernel_rfl
theorem ok35 : FnOk D 35 (W35 F35) := fn_okW [(49, W49 F49)] noX (fun _ => rfl) Try.func35 rfl (tabL_cons ok49 tabL_nil) (k35 F49 )
abbrev T17 : Type 1 := (β : Type) → List V → (List V → Option β) → Option β
def P17 (F35 : T35) : T17 := fun β a k =>
 chk (0 ≤ (a.length : Int) ∧ (a.length : Int) ≤ (a.length : Int) ∧ (a.length : Int) * 40 ≤ 140737488355328 ∧ (a.length : Int) ≤ 140737488355328) <|
 whileK (fun s1 =>
 br (decide ((lI s1 2) < ((lL s1 0).length : Int))) (
 chk (0 ≤ (lI s1 2)) <|
 idx true [.str, .sl 7 true] (lL s1 0) ((lI s1 2).toNat) fun (e2 : List UInt8 × List V × Unit) =>
 F35 _ e2.1 e2.2.1 fun t3 l4 =>
 chk (0 ≤ (lI s1 2) ∧ (lI s1 2).toNat < (lL s1 1).length) <|
 storeO (lL s1 1) ((lI s1 2).toNat) 0 [.str t3, .sl 7 true l4] fun l5 =>
 some (.inl [.l (lL s1 0), .l l5, .i (IntKind.wrap .i64 ((lI s1 2) + 1))])) (
 some (.inr (0, [.l (lL s1 1)])))) [.l a, .l (List.replicate ((a.length : Int).toNat) (.agg [.str [], .sl 7 true []])), .i 0] fun (r6 : Nat × List Leaf) =>
 k (lL r6.2 0)
def F17 : T17 := P17 F35
def X17 : Exits := fun i => lookN i [] [(3, [(.exit 0, xk 23 [(3, .own 1000000 2 .clean [])] [])])]
abbrev s17 : List (Bool × List CK) := [(false, [.sl 2 false])]
def G17 (F : T17) (β : Type) (e : (List V × Unit) × Unit) (k : V → Option β) : Option β := F β e.1.1 (fun y1 => k (.own 0 2 .clean y1))
abbrev W17 (F : T17) : WT := wrap s17 (G17 F)
theorem k17 (F35 : T35) (β : Type) (e : argsT s17) (k : V → Option β) : fnK cfg (tabL [(35, W35 F35)]) X17 17 Try.f17 β (argsEnc s17 e) k = G17 (P17 F35 ) β e k := by kernel_rfl
theorem ok17 : FnOk D 17 (W17 F17) := fn_okW [(35, W35 F35)] X17 (fun _ => rfl) Try.func17 rfl (tabL_cons ok35 tabL_nil) (k17 F35 )
abbrev T51 : Type 1 := (β : Type) → List UInt8 → List UInt8 → (List UInt8 → List UInt8 → Option β) → Option β
def P51 : T51 := fun β a_Host a_Path k =>
 k a_Host a_Path
def F51 : T51 := P51
abbrev s51 : List (Bool × List CK) := [(true, [.str, .str])]
def G51 (F : T51) (β : Type) (e : (List UInt8 × List UInt8 × Unit) × Unit) (k : V → Option β) : Option β := F β e.1.1 e.1.2.1 (fun y1 y2 => k (.agg [.str y1, .str y2]))
abbrev W51 (F : T51) : WT := wrap s51 (G51 F)
theorem k51 (β : Type) (e : argsT s51) (k : V → Option β) : fnK cfg (tabL []) noX 51 Try.f51 β (argsEnc s51 e) k = G51 (P51 ) β e k := by kernel_rfl
theorem ok51 : FnOk D 51 (W51 F51) := fn_okW [] noX (fun _ => rfl) Try.func51 rfl (tabL_nil) (k51 )
abbrev T50 : Type 1 := (β : Type) → List UInt8 → List UInt8 → List UInt8 → Int → Int → List UInt8 → Int → Bool → List UInt8 → Int → (List UInt8 → List UInt8 → List UInt8 → Int → Int → List UInt8 → Int → Bool → List UInt8 → Int → Option β) → Option β
def P50 (F51 : T51) (F62 : T62) : T50 := fun β a_Top a_To_Host a_To_Path a_Response_Status a_Response_Kind a_Response_Body a_Response_Age a_Response_Shares a_Response_Policy a_Until k =>
 F51 _ a_To_Host a_To_Path fun t1 t2 =>
 F62 _ a_Response_Status a_Response_Kind a_Response_Body a_Response_Age a_Response_Shares a_Response_Policy fun n3 n4 t5 n6 b7 t8 =>
 k a_Top t1 t2 n3 n4 t5 n6 b7 t8 a_Until
def F50 : T50 := P50 F51 F62
abbrev s50 : List (Bool × List CK) := [(true, [.str, .str, .str, .int .i64, .int .i64, .str, .int .i64, .bool, .str, .int .i64])]
def G50 (F : T50) (β : Type) (e : (List UInt8 × List UInt8 × List UInt8 × Int × Int × List UInt8 × Int × Bool × List UInt8 × Int × Unit) × Unit) (k : V → Option β) : Option β := let a0_0 := e.1; let a0_1 := a0_0.2; let a0_2 := a0_1.2; let a0_3 := a0_2.2; let a0_4 := a0_3.2; let a0_5 := a0_4.2; let a0_6 := a0_5.2; let a0_7 := a0_6.2; let a0_8 := a0_7.2; let a0_9 := a0_8.2; F β a0_0.1 a0_1.1 a0_2.1 a0_3.1 a0_4.1 a0_5.1 a0_6.1 a0_7.1 a0_8.1 a0_9.1 (fun y1 y2 y3 y4 y5 y6 y7 y8 y9 y10 => k (.agg [.str y1, .str y2, .str y3, .int .i64 y4, .int .i64 y5, .str y6, .int .i64 y7, .bool y8, .str y9, .int .i64 y10]))
abbrev W50 (F : T50) : WT := wrap s50 (G50 F)
theorem k50 (F51 : T51) (F62 : T62) (β : Type) (e : argsT s50) (k : V → Option β) : fnK cfg (tabL [(51, W51 F51), (62, W62 F62)]) noX 50 Try.f50 β (argsEnc s50 e) k = G50 (P50 F51 F62 ) β e k := by kernel_rfl
theorem ok50 : FnOk D 50 (W50 F50) := fn_okW [(51, W51 F51), (62, W62 F62)] noX (fun _ => rfl) Try.func50 rfl (tabL_cons ok51 (tabL_cons ok62 tabL_nil)) (k50 F51 F62 )
abbrev T36 : Type 1 := (β : Type) → List V → (List V → Option β) → Option β
def P36 (F50 : T50) : T36 := fun β a k =>
 chk (0 ≤ (a.length : Int) ∧ (a.length : Int) ≤ (a.length : Int) ∧ (a.length : Int) * 120 ≤ 140737488355328 ∧ (a.length : Int) ≤ 140737488355328) <|
 whileK (fun s1 =>
 br (decide ((lI s1 2) < ((lL s1 0).length : Int))) (
 chk (0 ≤ (lI s1 2)) <|
 idx true [.str, .str, .str, .int .i64, .int .i64, .str, .int .i64, .bool, .str, .int .i64] (lL s1 0) ((lI s1 2).toNat) fun (e2 : List UInt8 × List UInt8 × List UInt8 × Int × Int × List UInt8 × Int × Bool × List UInt8 × Int × Unit) =>
 F50 _ e2.1 e2.2.1 e2.2.2.1 e2.2.2.2.1 e2.2.2.2.2.1 e2.2.2.2.2.2.1 e2.2.2.2.2.2.2.1 e2.2.2.2.2.2.2.2.1 e2.2.2.2.2.2.2.2.2.1 e2.2.2.2.2.2.2.2.2.2.1 fun t3 t4 t5 n6 n7 t8 n9 b10 t11 n12 =>
 chk (0 ≤ (lI s1 2) ∧ (lI s1 2).toNat < (lL s1 1).length) <|
 storeO (lL s1 1) ((lI s1 2).toNat) 0 [.str t3, .str t4, .str t5, .int .i64 n6, .int .i64 n7, .str t8, .int .i64 n9, .bool b10, .str t11, .int .i64 n12] fun l13 =>
 some (.inl [.l (lL s1 0), .l l13, .i (IntKind.wrap .i64 ((lI s1 2) + 1))])) (
 some (.inr (0, [.l (lL s1 1)])))) [.l a, .l (List.replicate ((a.length : Int).toNat) (.agg [.str [], .str [], .str [], .int .i64 0, .int .i64 0, .str [], .int .i64 0, .bool false, .str [], .int .i64 0])), .i 0] fun (r14 : Nat × List Leaf) =>
 k (lL r14.2 0)
def F36 : T36 := P36 F50
def X36 : Exits := fun i => lookN i [] [(3, [(.exit 0, xk 23 [(3, .own 1000000 10 .flat [])] [])])]
abbrev s36 : List (Bool × List CK) := [(false, [.sl 10 true])]
def G36 (F : T36) (β : Type) (e : (List V × Unit) × Unit) (k : V → Option β) : Option β := F β e.1.1 (fun y1 => k (.own 0 10 .flat y1))
abbrev W36 (F : T36) : WT := wrap s36 (G36 F)
theorem k36 (F50 : T50) (β : Type) (e : argsT s36) (k : V → Option β) : fnK cfg (tabL [(50, W50 F50)]) X36 36 Try.f36 β (argsEnc s36 e) k = G36 (P36 F50 ) β e k := by kernel_rfl
theorem ok36 : FnOk D 36 (W36 F36) := fn_okW [(50, W50 F50)] X36 (fun _ => rfl) Try.func36 rfl (tabL_cons ok50 tabL_nil) (k36 F50 )
abbrev T18 : Type 1 := (β : Type) → List V → (List V → Option β) → Option β
def P18 (F36 : T36) : T18 := fun β a_Entries k =>
 F36 _ a_Entries fun l1 =>
 k l1
def F18 : T18 := P18 F36
abbrev s18 : List (Bool × List CK) := [(true, [.sl 10 true])]
def G18 (F : T18) (β : Type) (e : (List V × Unit) × Unit) (k : V → Option β) : Option β := F β e.1.1 (fun y1 => k (.agg [.own 0 10 .flat y1]))
abbrev W18 (F : T18) : WT := wrap s18 (G18 F)
theorem k18 (F36 : T36) (β : Type) (e : argsT s18) (k : V → Option β) : fnK cfg (tabL [(36, W36 F36)]) noX 18 Try.f18 β (argsEnc s18 e) k = G18 (P18 F36 ) β e k := by kernel_rfl
theorem ok18 : FnOk D 18 (W18 F18) := fn_okW [(36, W36 F36)] noX (fun _ => rfl) Try.func18 rfl (tabL_cons ok36 tabL_nil) (k18 F36 )
abbrev T37 : Type 1 := (β : Type) → List UInt8 → List UInt8 → List UInt8 → Bool → (List UInt8 → List UInt8 → List UInt8 → Bool → Option β) → Option β
def P37 (F51 : T51) : T37 := fun β a_Top a_To_Host a_To_Path a_Guess k =>
 F51 _ a_To_Host a_To_Path fun t1 t2 =>
 k a_Top t1 t2 a_Guess
def F37 : T37 := P37 F51
abbrev s37 : List (Bool × List CK) := [(true, [.str, .str, .str, .bool])]
def G37 (F : T37) (β : Type) (e : (List UInt8 × List UInt8 × List UInt8 × Bool × Unit) × Unit) (k : V → Option β) : Option β := F β e.1.1 e.1.2.1 e.1.2.2.1 e.1.2.2.2.1 (fun y1 y2 y3 y4 => k (.agg [.str y1, .str y2, .str y3, .bool y4]))
abbrev W37 (F : T37) : WT := wrap s37 (G37 F)
theorem k37 (F51 : T51) (β : Type) (e : argsT s37) (k : V → Option β) : fnK cfg (tabL [(51, W51 F51)]) noX 37 Try.f37 β (argsEnc s37 e) k = G37 (P37 F51 ) β e k := by kernel_rfl
theorem ok37 : FnOk D 37 (W37 F37) := fn_okW [(51, W51 F51)] noX (fun _ => rfl) Try.func37 rfl (tabL_cons ok51 tabL_nil) (k37 F51 )
abbrev T19 : Type 1 := (β : Type) → List V → (List V → Option β) → Option β
def P19 (F37 : T37) : T19 := fun β a k =>
 chk (0 ≤ (a.length : Int) ∧ (a.length : Int) ≤ (a.length : Int) ∧ (a.length : Int) * 56 ≤ 140737488355328 ∧ (a.length : Int) ≤ 140737488355328) <|
 whileK (fun s1 =>
 br (decide ((lI s1 2) < ((lL s1 0).length : Int))) (
 chk (0 ≤ (lI s1 2)) <|
 idx true [.str, .str, .str, .bool] (lL s1 0) ((lI s1 2).toNat) fun (e2 : List UInt8 × List UInt8 × List UInt8 × Bool × Unit) =>
 F37 _ e2.1 e2.2.1 e2.2.2.1 e2.2.2.2.1 fun t3 t4 t5 b6 =>
 chk (0 ≤ (lI s1 2) ∧ (lI s1 2).toNat < (lL s1 1).length) <|
 storeO (lL s1 1) ((lI s1 2).toNat) 0 [.str t3, .str t4, .str t5, .bool b6] fun l7 =>
 some (.inl [.l (lL s1 0), .l l7, .i (IntKind.wrap .i64 ((lI s1 2) + 1))])) (
 some (.inr (0, [.l (lL s1 1)])))) [.l a, .l (List.replicate ((a.length : Int).toNat) (.agg [.str [], .str [], .str [], .bool false])), .i 0] fun (r8 : Nat × List Leaf) =>
 k (lL r8.2 0)
def F19 : T19 := P19 F37
def X19 : Exits := fun i => lookN i [] [(3, [(.exit 0, xk 23 [(3, .own 1000000 4 .flat [])] [])])]
abbrev s19 : List (Bool × List CK) := [(false, [.sl 4 true])]
def G19 (F : T19) (β : Type) (e : (List V × Unit) × Unit) (k : V → Option β) : Option β := F β e.1.1 (fun y1 => k (.own 0 4 .flat y1))
abbrev W19 (F : T19) : WT := wrap s19 (G19 F)
theorem k19 (F37 : T37) (β : Type) (e : argsT s19) (k : V → Option β) : fnK cfg (tabL [(37, W37 F37)]) X19 19 Try.f19 β (argsEnc s19 e) k = G19 (P19 F37 ) β e k := by kernel_rfl
theorem ok19 : FnOk D 19 (W19 F19) := fn_okW [(37, W37 F37)] X19 (fun _ => rfl) Try.func19 rfl (tabL_cons ok37 tabL_nil) (k19 F37 )
abbrev T6 : Type 1 := (β : Type) → List V → List V → List V → Int → (List V → List V → List V → Int → Option β) → Option β
def P6 (F17 : T17) (F18 : T18) (F19 : T19) : T6 := fun β a_Servers a_Cache_Entries a_Log a_Now k =>
 F17 _ a_Servers fun l1 =>
 F18 _ a_Cache_Entries fun l2 =>
 F19 _ a_Log fun l3 =>
 k l1 l2 l3 a_Now
def F6 : T6 := P6 F17 F18 F19
abbrev s6 : List (Bool × List CK) := [(true, [.sl 2 false, .sl 10 true, .sl 4 true, .int .i64])]
def G6 (F : T6) (β : Type) (e : (List V × List V × List V × Int × Unit) × Unit) (k : V → Option β) : Option β := F β e.1.1 e.1.2.1 e.1.2.2.1 e.1.2.2.2.1 (fun y1 y2 y3 y4 => k (.agg [.own 0 2 .clean y1, .own 1 10 .flat y2, .own 2 4 .flat y3, .int .i64 y4]))
abbrev W6 (F : T6) : WT := wrap s6 (G6 F)
theorem k6 (F17 : T17) (F18 : T18) (F19 : T19) (β : Type) (e : argsT s6) (k : V → Option β) : fnK cfg (tabL [(17, W17 F17), (18, W18 F18), (19, W19 F19)]) noX 6 Try.f6 β (argsEnc s6 e) k = G6 (P6 F17 F18 F19 ) β e k := by kernel_rfl
theorem ok6 : FnOk D 6 (W6 F6) := fn_okW [(17, W17 F17), (18, W18 F18), (19, W19 F19)] noX (fun _ => rfl) Try.func6 rfl (tabL_cons ok17 (tabL_cons ok18 (tabL_cons ok19 tabL_nil))) (k6 F17 F18 F19 )
abbrev T8 : Type 1 := (β : Type) → List V → List V → (Bool → Option β) → Option β
def P8 : T8 := fun β a b k =>
 br ((a.length : Int) != (b.length : Int)) (
 k false) (
 whileK (fun s1 =>
 br (decide ((lI s1 2) < ((lL s1 0).length : Int))) (
 chk (0 ≤ (lI s1 2)) <|
 idx false [.str] (lL s1 0) ((lI s1 2).toNat) fun (e2 : List UInt8 × Unit) =>
 chk (0 ≤ (lI s1 2)) <|
 idx false [.str] (lL s1 1) ((lI s1 2).toNat) fun (e3 : List UInt8 × Unit) =>
 br (!(e2.1 == e3.1)) (
 some (.inr (0, [.b false]))) (
 some (.inl [.l (lL s1 0), .l (lL s1 1), .i (IntKind.wrap .i64 ((lI s1 2) + 1))]))) (
 some (.inr (1, [])))) [.l a, .l b, .i 0] fun (r4 : Nat × List Leaf) =>
 if r4.1 = 0 then
 k (lB r4.2 0)
 else
 k true)
def F8 : T8 := P8
def X8 : Exits := fun i => lookN i [] [(4, [(.ret, xk 26 [(4, .bool false)] []), (.exit 0, xk 26 [] [])])]
abbrev s8 : List (Bool × List CK) := [(false, [.sl 1 true]), (false, [.sl 1 true])]
def G8 (F : T8) (β : Type) (e : (List V × Unit) × (List V × Unit) × Unit) (k : V → Option β) : Option β := F β e.1.1 e.2.1.1 (fun y1 => k (.bool y1))
abbrev W8 (F : T8) : WT := wrap s8 (G8 F)
theorem k8 (β : Type) (e : argsT s8) (k : V → Option β) : fnK cfg (tabL []) X8 8 Try.f8 β (argsEnc s8 e) k = G8 (P8 ) β e k := by kernel_rfl
theorem ok8 : FnOk D 8 (W8 F8) := fn_okW [] X8 (fun _ => rfl) Try.func8 rfl (tabL_nil) (k8 )
abbrev T76 : Type 1 := (β : Type) → Int → Int → List UInt8 → Int → Bool → List UInt8 → Int → Int → List UInt8 → Int → Bool → List UInt8 → (Bool → Option β) → Option β
def P76 : T76 := fun β a_Status a_Kind a_Body a_Age a_Shares a_Policy b_Status b_Kind b_Body b_Age b_Shares b_Policy k =>
 br (a_Status != b_Status) (
 k false) (
 br (a_Kind != b_Kind) (
 k false) (
 br (!(a_Body == b_Body)) (
 k false) (
 br (a_Age != b_Age) (
 k false) (
 br (!(a_Shares == b_Shares)) (
 k false) (
 br (!(a_Policy == b_Policy)) (
 k false) (
 k true))))))
def F76 : T76 := P76
abbrev s76 : List (Bool × List CK) := [(true, [.int .i64, .int .i64, .str, .int .i64, .bool, .str]), (true, [.int .i64, .int .i64, .str, .int .i64, .bool, .str])]
def G76 (F : T76) (β : Type) (e : (Int × Int × List UInt8 × Int × Bool × List UInt8 × Unit) × (Int × Int × List UInt8 × Int × Bool × List UInt8 × Unit) × Unit) (k : V → Option β) : Option β := let a0_0 := e.1; let a0_1 := a0_0.2; let a0_2 := a0_1.2; let a0_3 := a0_2.2; let a0_4 := a0_3.2; let a0_5 := a0_4.2; let a1_0 := e.2.1; let a1_1 := a1_0.2; let a1_2 := a1_1.2; let a1_3 := a1_2.2; let a1_4 := a1_3.2; let a1_5 := a1_4.2; F β a0_0.1 a0_1.1 a0_2.1 a0_3.1 a0_4.1 a0_5.1 a1_0.1 a1_1.1 a1_2.1 a1_3.1 a1_4.1 a1_5.1 (fun y1 => k (.bool y1))
abbrev W76 (F : T76) : WT := wrap s76 (G76 F)
theorem k76 (β : Type) (e : argsT s76) (k : V → Option β) : fnK cfg (tabL []) noX 76 Try.f76 β (argsEnc s76 e) k = G76 (P76 ) β e k := by kernel_rfl
theorem ok76 : FnOk D 76 (W76 F76) := fn_okW [] noX (fun _ => rfl) Try.func76 rfl (tabL_nil) (k76 )
abbrev T75 : Type 1 := (β : Type) → List UInt8 → Int → Int → List UInt8 → Int → Bool → List UInt8 → List UInt8 → Int → Int → List UInt8 → Int → Bool → List UInt8 → (Bool → Option β) → Option β
def P75 (F76 : T76) : T75 := fun β a_Path a_Response_Status a_Response_Kind a_Response_Body a_Response_Age a_Response_Shares a_Response_Policy b_Path b_Response_Status b_Response_Kind b_Response_Body b_Response_Age b_Response_Shares b_Response_Policy k =>
 br (!(a_Path == b_Path)) (
 k false) (
 F76 _ a_Response_Status a_Response_Kind a_Response_Body a_Response_Age a_Response_Shares a_Response_Policy b_Response_Status b_Response_Kind b_Response_Body b_Response_Age b_Response_Shares b_Response_Policy fun b1 =>
 br (!b1) (
 k false) (
 k true))
def F75 : T75 := P75 F76
abbrev s75 : List (Bool × List CK) := [(true, [.str, .int .i64, .int .i64, .str, .int .i64, .bool, .str]), (true, [.str, .int .i64, .int .i64, .str, .int .i64, .bool, .str])]
def G75 (F : T75) (β : Type) (e : (List UInt8 × Int × Int × List UInt8 × Int × Bool × List UInt8 × Unit) × (List UInt8 × Int × Int × List UInt8 × Int × Bool × List UInt8 × Unit) × Unit) (k : V → Option β) : Option β := let a0_0 := e.1; let a0_1 := a0_0.2; let a0_2 := a0_1.2; let a0_3 := a0_2.2; let a0_4 := a0_3.2; let a0_5 := a0_4.2; let a0_6 := a0_5.2; let a1_0 := e.2.1; let a1_1 := a1_0.2; let a1_2 := a1_1.2; let a1_3 := a1_2.2; let a1_4 := a1_3.2; let a1_5 := a1_4.2; let a1_6 := a1_5.2; F β a0_0.1 a0_1.1 a0_2.1 a0_3.1 a0_4.1 a0_5.1 a0_6.1 a1_0.1 a1_1.1 a1_2.1 a1_3.1 a1_4.1 a1_5.1 a1_6.1 (fun y1 => k (.bool y1))
abbrev W75 (F : T75) : WT := wrap s75 (G75 F)
theorem k75 (F76 : T76) (β : Type) (e : argsT s75) (k : V → Option β) : fnK cfg (tabL [(76, W76 F76)]) noX 75 Try.f75 β (argsEnc s75 e) k = G75 (P75 F76 ) β e k := by kernel_rfl
theorem ok75 : FnOk D 75 (W75 F75) := fn_okW [(76, W76 F76)] noX (fun _ => rfl) Try.func75 rfl (tabL_cons ok76 tabL_nil) (k75 F76 )
abbrev T56 : Type 1 := (β : Type) → List V → List V → (Bool → Option β) → Option β
def P56 (F75 : T75) : T56 := fun β a b k =>
 br ((a.length : Int) != (b.length : Int)) (
 k false) (
 whileK (fun s1 =>
 br (decide ((lI s1 2) < ((lL s1 0).length : Int))) (
 chk (0 ≤ (lI s1 2)) <|
 idx true [.str, .int .i64, .int .i64, .str, .int .i64, .bool, .str] (lL s1 0) ((lI s1 2).toNat) fun (e2 : List UInt8 × Int × Int × List UInt8 × Int × Bool × List UInt8 × Unit) =>
 chk (0 ≤ (lI s1 2)) <|
 idx true [.str, .int .i64, .int .i64, .str, .int .i64, .bool, .str] (lL s1 1) ((lI s1 2).toNat) fun (e3 : List UInt8 × Int × Int × List UInt8 × Int × Bool × List UInt8 × Unit) =>
 F75 _ e2.1 e2.2.1 e2.2.2.1 e2.2.2.2.1 e2.2.2.2.2.1 e2.2.2.2.2.2.1 e2.2.2.2.2.2.2.1 e3.1 e3.2.1 e3.2.2.1 e3.2.2.2.1 e3.2.2.2.2.1 e3.2.2.2.2.2.1 e3.2.2.2.2.2.2.1 fun b4 =>
 br (!b4) (
 some (.inr (0, [.b false]))) (
 some (.inl [.l (lL s1 0), .l (lL s1 1), .i (IntKind.wrap .i64 ((lI s1 2) + 1))]))) (
 some (.inr (1, [])))) [.l a, .l b, .i 0] fun (r5 : Nat × List Leaf) =>
 if r5.1 = 0 then
 k (lB r5.2 0)
 else
 k true)
def F56 : T56 := P56 F75
def X56 : Exits := fun i => lookN i [] [(4, [(.ret, xk 27 [(4, .bool false)] []), (.exit 0, xk 27 [] [])])]
abbrev s56 : List (Bool × List CK) := [(false, [.sl 7 true]), (false, [.sl 7 true])]
def G56 (F : T56) (β : Type) (e : (List V × Unit) × (List V × Unit) × Unit) (k : V → Option β) : Option β := F β e.1.1 e.2.1.1 (fun y1 => k (.bool y1))
abbrev W56 (F : T56) : WT := wrap s56 (G56 F)
theorem k56 (F75 : T75) (β : Type) (e : argsT s56) (k : V → Option β) : fnK cfg (tabL [(75, W75 F75)]) X56 56 Try.f56 β (argsEnc s56 e) k = G56 (P56 F75 ) β e k := by kernel_rfl
theorem ok56 : FnOk D 56 (W56 F56) := fn_okW [(75, W75 F75)] X56 (fun _ => rfl) Try.func56 rfl (tabL_cons ok75 tabL_nil) (k56 F75 )
abbrev T41 : Type 1 := (β : Type) → List UInt8 → List V → List UInt8 → List V → (Bool → Option β) → Option β
def P41 (F56 : T56) : T41 := fun β a_Host a_Files b_Host b_Files k =>
 br (!(a_Host == b_Host)) (
 k false) (
 F56 _ a_Files b_Files fun b1 =>
 br (!b1) (
 k false) (
 k true))
def F41 : T41 := P41 F56
abbrev s41 : List (Bool × List CK) := [(true, [.str, .sl 7 true]), (true, [.str, .sl 7 true])]
def G41 (F : T41) (β : Type) (e : (List UInt8 × List V × Unit) × (List UInt8 × List V × Unit) × Unit) (k : V → Option β) : Option β := F β e.1.1 e.1.2.1 e.2.1.1 e.2.1.2.1 (fun y1 => k (.bool y1))
abbrev W41 (F : T41) : WT := wrap s41 (G41 F)
theorem k41 (F56 : T56) (β : Type) (e : argsT s41) (k : V → Option β) : fnK cfg (tabL [(56, W56 F56)]) noX 41 Try.f41 β (argsEnc s41 e) k = G41 (P41 F56 ) β e k := by kernel_rfl
theorem ok41 : FnOk D 41 (W41 F41) := fn_okW [(56, W56 F56)] noX (fun _ => rfl) Try.func41 rfl (tabL_cons ok56 tabL_nil) (k41 F56 )
abbrev T23 : Type 1 := (β : Type) → List V → List V → (Bool → Option β) → Option β
def P23 (F41 : T41) : T23 := fun β a b k =>
 br ((a.length : Int) != (b.length : Int)) (
 k false) (
 whileK (fun s1 =>
 br (decide ((lI s1 2) < ((lL s1 0).length : Int))) (
 chk (0 ≤ (lI s1 2)) <|
 idx true [.str, .sl 7 true] (lL s1 0) ((lI s1 2).toNat) fun (e2 : List UInt8 × List V × Unit) =>
 chk (0 ≤ (lI s1 2)) <|
 idx true [.str, .sl 7 true] (lL s1 1) ((lI s1 2).toNat) fun (e3 : List UInt8 × List V × Unit) =>
 F41 _ e2.1 e2.2.1 e3.1 e3.2.1 fun b4 =>
 br (!b4) (
 some (.inr (0, [.b false]))) (
 some (.inl [.l (lL s1 0), .l (lL s1 1), .i (IntKind.wrap .i64 ((lI s1 2) + 1))]))) (
 some (.inr (1, [])))) [.l a, .l b, .i 0] fun (r5 : Nat × List Leaf) =>
 if r5.1 = 0 then
 k (lB r5.2 0)
 else
 k true)
def F23 : T23 := P23 F41
def X23 : Exits := fun i => lookN i [] [(4, [(.ret, xk 27 [(4, .bool false)] []), (.exit 0, xk 27 [] [])])]
abbrev s23 : List (Bool × List CK) := [(false, [.sl 2 false]), (false, [.sl 2 false])]
def G23 (F : T23) (β : Type) (e : (List V × Unit) × (List V × Unit) × Unit) (k : V → Option β) : Option β := F β e.1.1 e.2.1.1 (fun y1 => k (.bool y1))
abbrev W23 (F : T23) : WT := wrap s23 (G23 F)
theorem k23 (F41 : T41) (β : Type) (e : argsT s23) (k : V → Option β) : fnK cfg (tabL [(41, W41 F41)]) X23 23 Try.f23 β (argsEnc s23 e) k = G23 (P23 F41 ) β e k := by kernel_rfl
theorem ok23 : FnOk D 23 (W23 F23) := fn_okW [(41, W41 F41)] X23 (fun _ => rfl) Try.func23 rfl (tabL_cons ok41 tabL_nil) (k23 F41 )
abbrev T58 : Type 1 := (β : Type) → List UInt8 → List UInt8 → List UInt8 → List UInt8 → (Bool → Option β) → Option β
def P58 : T58 := fun β a_Host a_Path b_Host b_Path k =>
 br (!(a_Host == b_Host)) (
 k false) (
 br (!(a_Path == b_Path)) (
 k false) (
 k true))
def F58 : T58 := P58
abbrev s58 : List (Bool × List CK) := [(true, [.str, .str]), (true, [.str, .str])]
def G58 (F : T58) (β : Type) (e : (List UInt8 × List UInt8 × Unit) × (List UInt8 × List UInt8 × Unit) × Unit) (k : V → Option β) : Option β := F β e.1.1 e.1.2.1 e.2.1.1 e.2.1.2.1 (fun y1 => k (.bool y1))
abbrev W58 (F : T58) : WT := wrap s58 (G58 F)
theorem k58 (β : Type) (e : argsT s58) (k : V → Option β) : fnK cfg (tabL []) noX 58 Try.f58 β (argsEnc s58 e) k = G58 (P58 ) β e k := by kernel_rfl
theorem ok58 : FnOk D 58 (W58 F58) := fn_okW [] noX (fun _ => rfl) Try.func58 rfl (tabL_nil) (k58 )
abbrev T57 : Type 1 := (β : Type) → List UInt8 → List UInt8 → List UInt8 → Int → Int → List UInt8 → Int → Bool → List UInt8 → Int → List UInt8 → List UInt8 → List UInt8 → Int → Int → List UInt8 → Int → Bool → List UInt8 → Int → (Bool → Option β) → Option β
def P57 (F58 : T58) (F76 : T76) : T57 := fun β a_Top a_To_Host a_To_Path a_Response_Status a_Response_Kind a_Response_Body a_Response_Age a_Response_Shares a_Response_Policy a_Until b_Top b_To_Host b_To_Path b_Response_Status b_Response_Kind b_Response_Body b_Response_Age b_Response_Shares b_Response_Policy b_Until k =>
 br (!(a_Top == b_Top)) (
 k false) (
 F58 _ a_To_Host a_To_Path b_To_Host b_To_Path fun b1 =>
 br (!b1) (
 k false) (
 F76 _ a_Response_Status a_Response_Kind a_Response_Body a_Response_Age a_Response_Shares a_Response_Policy b_Response_Status b_Response_Kind b_Response_Body b_Response_Age b_Response_Shares b_Response_Policy fun b2 =>
 br (!b2) (
 k false) (
 br (a_Until != b_Until) (
 k false) (
 k true))))
def F57 : T57 := P57 F58 F76
abbrev s57 : List (Bool × List CK) := [(true, [.str, .str, .str, .int .i64, .int .i64, .str, .int .i64, .bool, .str, .int .i64]), (true, [.str, .str, .str, .int .i64, .int .i64, .str, .int .i64, .bool, .str, .int .i64])]
def G57 (F : T57) (β : Type) (e : (List UInt8 × List UInt8 × List UInt8 × Int × Int × List UInt8 × Int × Bool × List UInt8 × Int × Unit) × (List UInt8 × List UInt8 × List UInt8 × Int × Int × List UInt8 × Int × Bool × List UInt8 × Int × Unit) × Unit) (k : V → Option β) : Option β := let a0_0 := e.1; let a0_1 := a0_0.2; let a0_2 := a0_1.2; let a0_3 := a0_2.2; let a0_4 := a0_3.2; let a0_5 := a0_4.2; let a0_6 := a0_5.2; let a0_7 := a0_6.2; let a0_8 := a0_7.2; let a0_9 := a0_8.2; let a1_0 := e.2.1; let a1_1 := a1_0.2; let a1_2 := a1_1.2; let a1_3 := a1_2.2; let a1_4 := a1_3.2; let a1_5 := a1_4.2; let a1_6 := a1_5.2; let a1_7 := a1_6.2; let a1_8 := a1_7.2; let a1_9 := a1_8.2; F β a0_0.1 a0_1.1 a0_2.1 a0_3.1 a0_4.1 a0_5.1 a0_6.1 a0_7.1 a0_8.1 a0_9.1 a1_0.1 a1_1.1 a1_2.1 a1_3.1 a1_4.1 a1_5.1 a1_6.1 a1_7.1 a1_8.1 a1_9.1 (fun y1 => k (.bool y1))
abbrev W57 (F : T57) : WT := wrap s57 (G57 F)
theorem k57 (F58 : T58) (F76 : T76) (β : Type) (e : argsT s57) (k : V → Option β) : fnK cfg (tabL [(58, W58 F58), (76, W76 F76)]) noX 57 Try.f57 β (argsEnc s57 e) k = G57 (P57 F58 F76 ) β e k := by kernel_rfl
theorem ok57 : FnOk D 57 (W57 F57) := fn_okW [(58, W58 F58), (76, W76 F76)] noX (fun _ => rfl) Try.func57 rfl (tabL_cons ok58 (tabL_cons ok76 tabL_nil)) (k57 F58 F76 )
abbrev T42 : Type 1 := (β : Type) → List V → List V → (Bool → Option β) → Option β
def P42 (F57 : T57) : T42 := fun β a b k =>
 br ((a.length : Int) != (b.length : Int)) (
 k false) (
 whileK (fun s1 =>
 br (decide ((lI s1 2) < ((lL s1 0).length : Int))) (
 chk (0 ≤ (lI s1 2)) <|
 idx true [.str, .str, .str, .int .i64, .int .i64, .str, .int .i64, .bool, .str, .int .i64] (lL s1 0) ((lI s1 2).toNat) fun (e2 : List UInt8 × List UInt8 × List UInt8 × Int × Int × List UInt8 × Int × Bool × List UInt8 × Int × Unit) =>
 chk (0 ≤ (lI s1 2)) <|
 idx true [.str, .str, .str, .int .i64, .int .i64, .str, .int .i64, .bool, .str, .int .i64] (lL s1 1) ((lI s1 2).toNat) fun (e3 : List UInt8 × List UInt8 × List UInt8 × Int × Int × List UInt8 × Int × Bool × List UInt8 × Int × Unit) =>
 F57 _ e2.1 e2.2.1 e2.2.2.1 e2.2.2.2.1 e2.2.2.2.2.1 e2.2.2.2.2.2.1 e2.2.2.2.2.2.2.1 e2.2.2.2.2.2.2.2.1 e2.2.2.2.2.2.2.2.2.1 e2.2.2.2.2.2.2.2.2.2.1 e3.1 e3.2.1 e3.2.2.1 e3.2.2.2.1 e3.2.2.2.2.1 e3.2.2.2.2.2.1 e3.2.2.2.2.2.2.1 e3.2.2.2.2.2.2.2.1 e3.2.2.2.2.2.2.2.2.1 e3.2.2.2.2.2.2.2.2.2.1 fun b4 =>
 br (!b4) (
 some (.inr (0, [.b false]))) (
 some (.inl [.l (lL s1 0), .l (lL s1 1), .i (IntKind.wrap .i64 ((lI s1 2) + 1))]))) (
 some (.inr (1, [])))) [.l a, .l b, .i 0] fun (r5 : Nat × List Leaf) =>
 if r5.1 = 0 then
 k (lB r5.2 0)
 else
 k true)
def F42 : T42 := P42 F57
def X42 : Exits := fun i => lookN i [] [(4, [(.ret, xk 27 [(4, .bool false)] []), (.exit 0, xk 27 [] [])])]
abbrev s42 : List (Bool × List CK) := [(false, [.sl 10 true]), (false, [.sl 10 true])]
def G42 (F : T42) (β : Type) (e : (List V × Unit) × (List V × Unit) × Unit) (k : V → Option β) : Option β := F β e.1.1 e.2.1.1 (fun y1 => k (.bool y1))
abbrev W42 (F : T42) : WT := wrap s42 (G42 F)
theorem k42 (F57 : T57) (β : Type) (e : argsT s42) (k : V → Option β) : fnK cfg (tabL [(57, W57 F57)]) X42 42 Try.f42 β (argsEnc s42 e) k = G42 (P42 F57 ) β e k := by kernel_rfl
theorem ok42 : FnOk D 42 (W42 F42) := fn_okW [(57, W57 F57)] X42 (fun _ => rfl) Try.func42 rfl (tabL_cons ok57 tabL_nil) (k42 F57 )
abbrev T24 : Type 1 := (β : Type) → List V → List V → (Bool → Option β) → Option β
def P24 (F42 : T42) : T24 := fun β a_Entries b_Entries k =>
 F42 _ a_Entries b_Entries fun b1 =>
 br (!b1) (
 k false) (
 k true)
def F24 : T24 := P24 F42
abbrev s24 : List (Bool × List CK) := [(true, [.sl 10 true]), (true, [.sl 10 true])]
def G24 (F : T24) (β : Type) (e : (List V × Unit) × (List V × Unit) × Unit) (k : V → Option β) : Option β := F β e.1.1 e.2.1.1 (fun y1 => k (.bool y1))
abbrev W24 (F : T24) : WT := wrap s24 (G24 F)
theorem k24 (F42 : T42) (β : Type) (e : argsT s24) (k : V → Option β) : fnK cfg (tabL [(42, W42 F42)]) noX 24 Try.f24 β (argsEnc s24 e) k = G24 (P24 F42 ) β e k := by kernel_rfl
theorem ok24 : FnOk D 24 (W24 F24) := fn_okW [(42, W42 F42)] noX (fun _ => rfl) Try.func24 rfl (tabL_cons ok42 tabL_nil) (k24 F42 )
abbrev T43 : Type 1 := (β : Type) → List UInt8 → List UInt8 → List UInt8 → Bool → List UInt8 → List UInt8 → List UInt8 → Bool → (Bool → Option β) → Option β
def P43 (F58 : T58) : T43 := fun β a_Top a_To_Host a_To_Path a_Guess b_Top b_To_Host b_To_Path b_Guess k =>
 br (!(a_Top == b_Top)) (
 k false) (
 F58 _ a_To_Host a_To_Path b_To_Host b_To_Path fun b1 =>
 br (!b1) (
 k false) (
 br (!(a_Guess == b_Guess)) (
 k false) (
 k true)))
def F43 : T43 := P43 F58
abbrev s43 : List (Bool × List CK) := [(true, [.str, .str, .str, .bool]), (true, [.str, .str, .str, .bool])]
def G43 (F : T43) (β : Type) (e : (List UInt8 × List UInt8 × List UInt8 × Bool × Unit) × (List UInt8 × List UInt8 × List UInt8 × Bool × Unit) × Unit) (k : V → Option β) : Option β := F β e.1.1 e.1.2.1 e.1.2.2.1 e.1.2.2.2.1 e.2.1.1 e.2.1.2.1 e.2.1.2.2.1 e.2.1.2.2.2.1 (fun y1 => k (.bool y1))
abbrev W43 (F : T43) : WT := wrap s43 (G43 F)
theorem k43 (F58 : T58) (β : Type) (e : argsT s43) (k : V → Option β) : fnK cfg (tabL [(58, W58 F58)]) noX 43 Try.f43 β (argsEnc s43 e) k = G43 (P43 F58 ) β e k := by kernel_rfl
theorem ok43 : FnOk D 43 (W43 F43) := fn_okW [(58, W58 F58)] noX (fun _ => rfl) Try.func43 rfl (tabL_cons ok58 tabL_nil) (k43 F58 )
abbrev T25 : Type 1 := (β : Type) → List V → List V → (Bool → Option β) → Option β
def P25 (F43 : T43) : T25 := fun β a b k =>
 br ((a.length : Int) != (b.length : Int)) (
 k false) (
 whileK (fun s1 =>
 br (decide ((lI s1 2) < ((lL s1 0).length : Int))) (
 chk (0 ≤ (lI s1 2)) <|
 idx true [.str, .str, .str, .bool] (lL s1 0) ((lI s1 2).toNat) fun (e2 : List UInt8 × List UInt8 × List UInt8 × Bool × Unit) =>
 chk (0 ≤ (lI s1 2)) <|
 idx true [.str, .str, .str, .bool] (lL s1 1) ((lI s1 2).toNat) fun (e3 : List UInt8 × List UInt8 × List UInt8 × Bool × Unit) =>
 F43 _ e2.1 e2.2.1 e2.2.2.1 e2.2.2.2.1 e3.1 e3.2.1 e3.2.2.1 e3.2.2.2.1 fun b4 =>
 br (!b4) (
 some (.inr (0, [.b false]))) (
 some (.inl [.l (lL s1 0), .l (lL s1 1), .i (IntKind.wrap .i64 ((lI s1 2) + 1))]))) (
 some (.inr (1, [])))) [.l a, .l b, .i 0] fun (r5 : Nat × List Leaf) =>
 if r5.1 = 0 then
 k (lB r5.2 0)
 else
 k true)
def F25 : T25 := P25 F43
def X25 : Exits := fun i => lookN i [] [(4, [(.ret, xk 27 [(4, .bool false)] []), (.exit 0, xk 27 [] [])])]
abbrev s25 : List (Bool × List CK) := [(false, [.sl 4 true]), (false, [.sl 4 true])]
def G25 (F : T25) (β : Type) (e : (List V × Unit) × (List V × Unit) × Unit) (k : V → Option β) : Option β := F β e.1.1 e.2.1.1 (fun y1 => k (.bool y1))
abbrev W25 (F : T25) : WT := wrap s25 (G25 F)
theorem k25 (F43 : T43) (β : Type) (e : argsT s25) (k : V → Option β) : fnK cfg (tabL [(43, W43 F43)]) X25 25 Try.f25 β (argsEnc s25 e) k = G25 (P25 F43 ) β e k := by kernel_rfl
theorem ok25 : FnOk D 25 (W25 F25) := fn_okW [(43, W43 F43)] X25 (fun _ => rfl) Try.func25 rfl (tabL_cons ok43 tabL_nil) (k25 F43 )
abbrev T9 : Type 1 := (β : Type) → List V → List V → List V → Int → List V → List V → List V → Int → (Bool → Option β) → Option β
def P9 (F23 : T23) (F24 : T24) (F25 : T25) : T9 := fun β a_Servers a_Cache_Entries a_Log a_Now b_Servers b_Cache_Entries b_Log b_Now k =>
 F23 _ a_Servers b_Servers fun b1 =>
 br (!b1) (
 k false) (
 F24 _ a_Cache_Entries b_Cache_Entries fun b2 =>
 br (!b2) (
 k false) (
 F25 _ a_Log b_Log fun b3 =>
 br (!b3) (
 k false) (
 br (a_Now != b_Now) (
 k false) (
 k true))))
def F9 : T9 := P9 F23 F24 F25
abbrev s9 : List (Bool × List CK) := [(true, [.sl 2 false, .sl 10 true, .sl 4 true, .int .i64]), (true, [.sl 2 false, .sl 10 true, .sl 4 true, .int .i64])]
def G9 (F : T9) (β : Type) (e : (List V × List V × List V × Int × Unit) × (List V × List V × List V × Int × Unit) × Unit) (k : V → Option β) : Option β := F β e.1.1 e.1.2.1 e.1.2.2.1 e.1.2.2.2.1 e.2.1.1 e.2.1.2.1 e.2.1.2.2.1 e.2.1.2.2.2.1 (fun y1 => k (.bool y1))
abbrev W9 (F : T9) : WT := wrap s9 (G9 F)
theorem k9 (F23 : T23) (F24 : T24) (F25 : T25) (β : Type) (e : argsT s9) (k : V → Option β) : fnK cfg (tabL [(23, W23 F23), (24, W24 F24), (25, W25 F25)]) noX 9 Try.f9 β (argsEnc s9 e) k = G9 (P9 F23 F24 F25 ) β e k := by kernel_rfl
theorem ok9 : FnOk D 9 (W9 F9) := fn_okW [(23, W23 F23), (24, W24 F24), (25, W25 F25)] noX (fun _ => rfl) Try.func9 rfl (tabL_cons ok23 (tabL_cons ok24 (tabL_cons ok25 tabL_nil))) (k9 F23 F24 F25 )
abbrev T33 : Type 1 := (β : Type) → List V → List V → List V → Int → List UInt8 → (List V → Option β) → Option β
def P33 : T33 := fun β n_Servers n_Cache_Entries n_Log n_Now host k =>
 whileK (fun s1 =>
 br (decide ((lI s1 2) < ((lL s1 5).length : Int))) (
 chk (0 ≤ (lI s1 2)) <|
 idx true [.str, .str, .str, .bool] (lL s1 5) ((lI s1 2).toNat) fun (e2 : List UInt8 × List UInt8 × List UInt8 × Bool × Unit) =>
 br (e2.2.1 == (lS s1 0)) (
 chk (0 ≤ (lI s1 2)) <|
 idx true [.str, .str, .str, .bool] (lL s1 5) ((lI s1 2).toNat) fun (e3 : List UInt8 × List UInt8 × List UInt8 × Bool × Unit) =>
 chk (((lL s1 1).length + ([.agg [.str e3.1, .str e3.2.1, .str e3.2.2.1, .bool e3.2.2.2.1]] : List V).length) * 56 ≤ 140737488355328 ∧ (lL s1 1).length + ([.agg [.str e3.1, .str e3.2.1, .str e3.2.2.1, .bool e3.2.2.2.1]] : List V).length ≤ 140737488355328) <|
 some (.inl [.s (lS s1 0), .l ((lL s1 1) ++ ([.agg [.str e3.1, .str e3.2.1, .str e3.2.2.1, .bool e3.2.2.2.1]] : List V)), .i (IntKind.wrap .i64 ((lI s1 2) + 1)), .l (lL s1 3), .l (lL s1 4), .l (lL s1 5), .i (lI s1 6)])) (
 some (.inl [.s (lS s1 0), .l (lL s1 1), .i (IntKind.wrap .i64 ((lI s1 2) + 1)), .l (lL s1 3), .l (lL s1 4), .l (lL s1 5), .i (lI s1 6)]))) (
 some (.inr (0, [.l (lL s1 1)])))) [.s host, .l [], .i 0, .l n_Servers, .l n_Cache_Entries, .l n_Log, .i n_Now] fun (r4 : Nat × List Leaf) =>
 k (lL r4.2 0)
def F33 : T33 := P33
def X33 : Exits := fun i => lookN i [] [(3, [(.exit 0, xk 33 [(5, .own 1000000 4 .flat [])] [])])]
abbrev s33 : List (Bool × List CK) := [(true, [.sl 2 false, .sl 10 true, .sl 4 true, .int .i64]), (false, [.str])]
def G33 (F : T33) (β : Type) (e : (List V × List V × List V × Int × Unit) × (List UInt8 × Unit) × Unit) (k : V → Option β) : Option β := F β e.1.1 e.1.2.1 e.1.2.2.1 e.1.2.2.2.1 e.2.1.1 (fun y1 => k (.own 0 4 .flat y1))
abbrev W33 (F : T33) : WT := wrap s33 (G33 F)
theorem k33 (β : Type) (e : argsT s33) (k : V → Option β) : fnK cfg (tabL []) X33 33 Try.f33 β (argsEnc s33 e) k = G33 (P33 ) β e k := by kernel_rfl
theorem ok33 : FnOk D 33 (W33 F33) := fn_okW [] X33 (fun _ => rfl) Try.func33 rfl (tabL_nil) (k33 )
abbrev T34 : Type 1 := (β : Type) → List V → List UInt8 → (Bool → Option β) → Option β
def P34 : T34 := fun β l s k =>
 whileK (fun s1 =>
 br (decide ((lI s1 2) < ((lL s1 0).length : Int))) (
 chk (0 ≤ (lI s1 2)) <|
 idx false [.str] (lL s1 0) ((lI s1 2).toNat) fun (e2 : List UInt8 × Unit) =>
 br (e2.1 == (lS s1 1)) (
 some (.inr (0, [.b true]))) (
 some (.inl [.l (lL s1 0), .s (lS s1 1), .i (IntKind.wrap .i64 ((lI s1 2) + 1))]))) (
 some (.inr (1, [])))) [.l l, .s s, .i 0] fun (r3 : Nat × List Leaf) =>
 if r3.1 = 0 then
 k (lB r3.2 0)
 else
 k false
def F34 : T34 := P34
def X34 : Exits := fun i => lookN i [] [(2, [(.ret, xk 18 [(4, .bool false)] []), (.exit 0, xk 18 [] [])])]
abbrev s34 : List (Bool × List CK) := [(false, [.sl 1 true]), (false, [.str])]
def G34 (F : T34) (β : Type) (e : (List V × Unit) × (List UInt8 × Unit) × Unit) (k : V → Option β) : Option β := F β e.1.1 e.2.1.1 (fun y1 => k (.bool y1))
abbrev W34 (F : T34) : WT := wrap s34 (G34 F)
theorem k34 (β : Type) (e : argsT s34) (k : V → Option β) : fnK cfg (tabL []) X34 34 Try.f34 β (argsEnc s34 e) k = G34 (P34 ) β e k := by kernel_rfl
theorem ok34 : FnOk D 34 (W34 F34) := fn_okW [] X34 (fun _ => rfl) Try.func34 rfl (tabL_nil) (k34 )
abbrev T16 : Type 1 := (β : Type) → List V → List V → List V → Int → List UInt8 → (List V → Option β) → Option β
def P16 (F33 : T33) (F34 : T34) : T16 := fun β n_Servers n_Cache_Entries n_Log n_Now host k =>
 F33 _ n_Servers n_Cache_Entries n_Log n_Now host fun l1 =>
 whileK (fun s2 =>
 br (decide ((lI s2 2) < ((lL s2 1).length : Int))) (
 chk (0 ≤ (lI s2 2) ∧ (lI s2 2).toNat < (lL s2 1).length) <|
 idxAt [.str] (lL s2 1) ((lI s2 2).toNat) 0 fun (e3 : List UInt8 × Unit) =>
 F34 _ (lL s2 0) e3.1 fun b4 =>
 br (!b4) (
 chk (0 ≤ (lI s2 2) ∧ (lI s2 2).toNat < (lL s2 1).length) <|
 idxAt [.str] (lL s2 1) ((lI s2 2).toNat) 0 fun (e5 : List UInt8 × Unit) =>
 chk (((lL s2 0).length + ([.str e5.1] : List V).length) * 16 ≤ 140737488355328 ∧ (lL s2 0).length + ([.str e5.1] : List V).length ≤ 140737488355328) <|
 some (.inl [.l ((lL s2 0) ++ ([.str e5.1] : List V)), .l (lL s2 1), .i (IntKind.wrap .i64 ((lI s2 2) + 1))])) (
 some (.inl [.l (lL s2 0), .l (lL s2 1), .i (IntKind.wrap .i64 ((lI s2 2) + 1))]))) (
 some (.inr (0, [.l (lL s2 0)])))) [.l [], .l l1, .i 0] fun (r6 : Nat × List Leaf) =>
 k (lL r6.2 0)
def F16 : T16 := P16 F33 F34
def X16 : Exits := fun i => lookN i [] [(4, [(.exit 0, xk 35 [(5, .own 1000000 1 .flat [])] [])])]
abbrev s16 : List (Bool × List CK) := [(true, [.sl 2 false, .sl 10 true, .sl 4 true, .int .i64]), (false, [.str])]
def G16 (F : T16) (β : Type) (e : (List V × List V × List V × Int × Unit) × (List UInt8 × Unit) × Unit) (k : V → Option β) : Option β := F β e.1.1 e.1.2.1 e.1.2.2.1 e.1.2.2.2.1 e.2.1.1 (fun y1 => k (.own 0 1 .flat y1))
abbrev W16 (F : T16) : WT := wrap s16 (G16 F)
theorem k16 (F33 : T33) (F34 : T34) (β : Type) (e : argsT s16) (k : V → Option β) : fnK cfg (tabL [(33, W33 F33), (34, W34 F34)]) X16 16 Try.f16 β (argsEnc s16 e) k = G16 (P16 F33 F34 ) β e k := by kernel_rfl
theorem ok16 : FnOk D 16 (W16 F16) := fn_okW [(33, W33 F33), (34, W34 F34)] X16 (fun _ => rfl) Try.func16 rfl (tabL_cons ok33 (tabL_cons ok34 tabL_nil)) (k16 F33 F34 )
abbrev T5 : Type 1 := (β : Type) → List V → List V → List V → Int → List UInt8 → (List V → Option β) → Option β
def P5 (F16 : T16) : T5 := fun β n_Servers n_Cache_Entries n_Log n_Now host k =>
 F16 _ n_Servers n_Cache_Entries n_Log n_Now host fun l1 =>
 whileK (fun s2 =>
 br (decide ((lI s2 3) < ((lL s2 2).length : Int))) (
 chk (0 ≤ (lI s2 3) ∧ (lI s2 3).toNat < (lL s2 2).length) <|
 idxAt [.str] (lL s2 2) ((lI s2 3).toNat) 0 fun (e3 : List UInt8 × Unit) =>
 br (e3.1 == (lS s2 0)) (
 some (.inl [.s (lS s2 0), .l (lL s2 1), .l (lL s2 2), .i (IntKind.wrap .i64 ((lI s2 3) + 1))])) (
 whileK (fun s4 =>
 br (decide ((lI s4 4) > 0)) (
 chk (0 ≤ (lI s4 3) ∧ (lI s4 3).toNat < (lL s4 2).length) <|
 idxAt [.str] (lL s4 2) ((lI s4 3).toNat) 0 fun (e5 : List UInt8 × Unit) =>
 chk (0 ≤ IntKind.wrap .i64 ((lI s4 4) - 1) ∧ (IntKind.wrap .i64 ((lI s4 4) - 1)).toNat < (lL s4 1).length) <|
 idxAt [.str] (lL s4 1) ((IntKind.wrap .i64 ((lI s4 4) - 1)).toNat) 0 fun (e6 : List UInt8 × Unit) =>
 br (less e5.1 e6.1) (
 some (.inl [.s (lS s4 0), .l (lL s4 1), .l (lL s4 2), .i (lI s4 3), .i (IntKind.wrap .i64 ((lI s4 4) - 1))])) (
 some (.inr (0, [.s (lS s4 0), .l (lL s4 1), .l (lL s4 2), .i (lI s4 3), .i (lI s4 4)])))) (
 some (.inr (0, [.s (lS s4 0), .l (lL s4 1), .l (lL s4 2), .i (lI s4 3), .i (lI s4 4)])))) [.s (lS s2 0), .l (lL s2 1), .l (lL s2 2), .i (lI s2 3), .i ((lL s2 1).length : Int)] fun (r7 : Nat × List Leaf) =>
 chk (0 ≤ (0 : Int) ∧ (0 : Int) ≤ (lI r7.2 4) ∧ (lI r7.2 4) ≤ ((lL r7.2 1).length : Int)) <|
 chk ((([] : List V).length + (((lL r7.2 1).take ((lI r7.2 4).toNat)).drop 0).length) * 16 ≤ 140737488355328 ∧ ([] : List V).length + (((lL r7.2 1).take ((lI r7.2 4).toNat)).drop 0).length ≤ 140737488355328) <|
 chk (0 ≤ (lI r7.2 3) ∧ (lI r7.2 3).toNat < (lL r7.2 2).length) <|
 idxAt [.str] (lL r7.2 2) ((lI r7.2 3).toNat) 0 fun (e8 : List UInt8 × Unit) =>
 chk (((([] : List V) ++ (((lL r7.2 1).take ((lI r7.2 4).toNat)).drop 0)).length + ([.str e8.1] : List V).length) * 16 ≤ 140737488355328 ∧ (([] : List V) ++ (((lL r7.2 1).take ((lI r7.2 4).toNat)).drop 0)).length + ([.str e8.1] : List V).length ≤ 140737488355328) <|
 chk (0 ≤ (lI r7.2 4) ∧ (lI r7.2 4) ≤ ((lL r7.2 1).length : Int) ∧ ((lL r7.2 1).length : Int) ≤ ((lL r7.2 1).length : Int)) <|
 chk ((((([] : List V) ++ (((lL r7.2 1).take ((lI r7.2 4).toNat)).drop 0)) ++ ([.str e8.1] : List V)).length + (((lL r7.2 1).take (((lL r7.2 1).length : Int).toNat)).drop ((lI r7.2 4).toNat)).length) * 16 ≤ 140737488355328 ∧ ((([] : List V) ++ (((lL r7.2 1).take ((lI r7.2 4).toNat)).drop 0)) ++ ([.str e8.1] : List V)).length + (((lL r7.2 1).take (((lL r7.2 1).length : Int).toNat)).drop ((lI r7.2 4).toNat)).length ≤ 140737488355328) <|
 some (.inl [.s (lS r7.2 0), .l (((([] : List V) ++ (((lL r7.2 1).take ((lI r7.2 4).toNat)).drop 0)) ++ ([.str e8.1] : List V)) ++ (((lL r7.2 1).take (((lL r7.2 1).length : Int).toNat)).drop ((lI r7.2 4).toNat))), .l (lL r7.2 2), .i (IntKind.wrap .i64 ((lI r7.2 3) + 1))]))) (
 some (.inr (0, [.l (lL s2 1)])))) [.s host, .l [], .l l1, .i 0] fun (r9 : Nat × List Leaf) =>
 k (lL r9.2 0)
def F5 : T5 := P5 F16
def X5 : Exits := fun i => lookN i [] [(4, [(.exit 0, xk 59 [(5, .own 1000000 1 .flat [])] [])]), (8, [(.exit 2, xk 59 [(1, .str []), (5, .own 1000000 1 .flat []), (6, .own 1000001 1 .flat []), (7, .int .i64 0), (8, .int .i64 0)] [])])]
abbrev s5 : List (Bool × List CK) := [(true, [.sl 2 false, .sl 10 true, .sl 4 true, .int .i64]), (false, [.str])]
def G5 (F : T5) (β : Type) (e : (List V × List V × List V × Int × Unit) × (List UInt8 × Unit) × Unit) (k : V → Option β) : Option β := F β e.1.1 e.1.2.1 e.1.2.2.1 e.1.2.2.2.1 e.2.1.1 (fun y1 => k (.own 0 1 .flat y1))
abbrev W5 (F : T5) : WT := wrap s5 (G5 F)
theorem k5 (F16 : T16) (β : Type) (e : argsT s5) (k : V → Option β) : fnK cfg (tabL [(16, W16 F16)]) X5 5 Try.f5 β (argsEnc s5 e) k = G5 (P5 F16 ) β e k := by kernel_rfl
theorem ok5 : FnOk D 5 (W5 F5) := fn_okW [(16, W16 F16)] X5 (fun _ => rfl) Try.func5 rfl (tabL_cons ok16 tabL_nil) (k5 F16 )
abbrev T52 : Type 1 := (β : Type) → List V → List V → List V → Int → List UInt8 → (List V → Option β) → Option β
def P52 : T52 := fun β n_Servers n_Cache_Entries n_Log n_Now host k =>
 whileK (fun s1 =>
 br (decide ((lI s1 4) < (lI s1 3))) (
 chk (0 ≤ (lI s1 4)) <|
 idx true [.str, .str, .str, .bool] (lL s1 2) ((lI s1 4).toNat) fun (e2 : List UInt8 × List UInt8 × List UInt8 × Bool × Unit) =>
 br (e2.2.1 == (lS s1 0)) (
 chk (((lL s1 1).length + ([.agg [.str e2.1, .str e2.2.1, .str e2.2.2.1, .bool e2.2.2.2.1]] : List V).length) * 56 ≤ 140737488355328 ∧ (lL s1 1).length + ([.agg [.str e2.1, .str e2.2.1, .str e2.2.2.1, .bool e2.2.2.2.1]] : List V).length ≤ 140737488355328) <|
 some (.inl [.s (lS s1 0), .l ((lL s1 1) ++ ([.agg [.str e2.1, .str e2.2.1, .str e2.2.2.1, .bool e2.2.2.2.1]] : List V)), .l (lL s1 2), .i (lI s1 3), .i (IntKind.wrap .i64 ((lI s1 4) + 1))])) (
 some (.inl [.s (lS s1 0), .l (lL s1 1), .l (lL s1 2), .i (lI s1 3), .i (IntKind.wrap .i64 ((lI s1 4) + 1))]))) (
 some (.inr (0, [.l (lL s1 1)])))) [.s host, .l [], .l n_Log, .i (n_Log.length : Int), .i 0] fun (r3 : Nat × List Leaf) =>
 k (lL r3.2 0)
def F52 : T52 := P52
def X52 : Exits := fun i => lookN i [] [(3, [(.exit 0, xk 27 [(5, .own 1000000 4 .flat [])] [])])]
abbrev s52 : List (Bool × List CK) := [(true, [.sl 2 false, .sl 10 true, .sl 4 true, .int .i64]), (false, [.str])]
def G52 (F : T52) (β : Type) (e : (List V × List V × List V × Int × Unit) × (List UInt8 × Unit) × Unit) (k : V → Option β) : Option β := F β e.1.1 e.1.2.1 e.1.2.2.1 e.1.2.2.2.1 e.2.1.1 (fun y1 => k (.own 0 4 .flat y1))
abbrev W52 (F : T52) : WT := wrap s52 (G52 F)
theorem k52 (β : Type) (e : argsT s52) (k : V → Option β) : fnK cfg (tabL []) X52 52 Try.f52 β (argsEnc s52 e) k = G52 (P52 ) β e k := by kernel_rfl
theorem okd52 : FnOk D1 52 (W52 F52) := fn_okW [] X52 (fun _ => rfl) Try.func52 rfl (tabL_nil) (k52 )
abbrev T63 : Type 1 := (β : Type) → List V → List UInt8 → (Int → Option β) → Option β
def P63 : T63 := fun β s v k =>
 whileK (fun s1 =>
 br (decide ((lI s1 3) < (lI s1 2))) (
 chk (0 ≤ (lI s1 3)) <|
 idx false [.str] (lL s1 0) ((lI s1 3).toNat) fun (e2 : List UInt8 × Unit) =>
 br ((lS s1 1) == e2.1) (
 some (.inr (0, [.i (lI s1 3)]))) (
 some (.inl [.l (lL s1 0), .s (lS s1 1), .i (lI s1 2), .i (IntKind.wrap .i64 ((lI s1 3) + 1))]))) (
 some (.inr (1, [])))) [.l s, .s v, .i (s.length : Int), .i 0] fun (r3 : Nat × List Leaf) =>
 if r3.1 = 0 then
 k (lI r3.2 0)
 else
 k (-1)
def F63 : T63 := P63
def X63 : Exits := fun i => lookN i [] [(2, [(.ret, xk 19 [(4, .int .i64 0)] []), (.exit 0, xk 19 [] [])])]
abbrev s63 : List (Bool × List CK) := [(false, [.sl 1 true]), (false, [.str])]
def G63 (F : T63) (β : Type) (e : (List V × Unit) × (List UInt8 × Unit) × Unit) (k : V → Option β) : Option β := F β e.1.1 e.2.1.1 (fun y1 => k (.int .i64 y1))
abbrev W63 (F : T63) : WT := wrap s63 (G63 F)
theorem k63 (β : Type) (e : argsT s63) (k : V → Option β) : fnK cfg (tabL []) X63 63 Try.f63 β (argsEnc s63 e) k = G63 (P63 ) β e k := by kernel_rfl
theorem okd63 : FnOk D1 63 (W63 F63) := fn_okW [] X63 (fun _ => rfl) Try.func63 rfl (tabL_nil) (k63 )
abbrev T53 : Type 1 := (β : Type) → List V → List UInt8 → (Bool → Option β) → Option β
def P53 (F63 : T63) : T53 := fun β s v k =>
 F63 _ s v fun n1 =>
 k (decide (n1 ≥ 0))
def F53 : T53 := P53 F63
abbrev s53 : List (Bool × List CK) := [(false, [.sl 1 true]), (false, [.str])]
def G53 (F : T53) (β : Type) (e : (List V × Unit) × (List UInt8 × Unit) × Unit) (k : V → Option β) : Option β := F β e.1.1 e.2.1.1 (fun y1 => k (.bool y1))
abbrev W53 (F : T53) : WT := wrap s53 (G53 F)
theorem k53 (F63 : T63) (β : Type) (e : argsT s53) (k : V → Option β) : fnK cfg (tabL [(63, W63 F63)]) noX 53 Try.f53 β (argsEnc s53 e) k = G53 (P53 F63 ) β e k := by kernel_rfl
theorem okd53 : FnOk D1 53 (W53 F53) := fn_okW [(63, W63 F63)] noX (fun _ => rfl) Try.func53 rfl (tabL_cons okd63 tabL_nil) (k53 F63 )
abbrev T39 : Type 1 := (β : Type) → List V → List V → List V → Int → List UInt8 → (List V → Option β) → Option β
def P39 (F52 : T52) (F53 : T53) : T39 := fun β n_Servers n_Cache_Entries n_Log n_Now host k =>
 F52 _ n_Servers n_Cache_Entries n_Log n_Now host fun l1 =>
 whileK (fun s2 =>
 br (decide ((lI s2 3) < (lI s2 2))) (
 chk (0 ≤ (lI s2 3) ∧ (lI s2 3).toNat < (lL s2 1).length) <|
 idxAt [.str, .str, .str, .bool] (lL s2 1) ((lI s2 3).toNat) 0 fun (e3 : List UInt8 × List UInt8 × List UInt8 × Bool × Unit) =>
 F53 _ (lL s2 0) e3.1 fun b4 =>
 br (!b4) (
 chk (((lL s2 0).length + ([.str e3.1] : List V).length) * 16 ≤ 140737488355328 ∧ (lL s2 0).length + ([.str e3.1] : List V).length ≤ 140737488355328) <|
 some (.inl [.l ((lL s2 0) ++ ([.str e3.1] : List V)), .l (lL s2 1), .i (lI s2 2), .i (IntKind.wrap .i64 ((lI s2 3) + 1))])) (
 some (.inl [.l (lL s2 0), .l (lL s2 1), .i (lI s2 2), .i (IntKind.wrap .i64 ((lI s2 3) + 1))]))) (
 some (.inr (0, [.l (lL s2 0)])))) [.l [], .l l1, .i (l1.length : Int), .i 0] fun (r5 : Nat × List Leaf) =>
 k (lL r5.2 0)
def F39 : T39 := P39 F52 F53
def X39 : Exits := fun i => lookN i [] [(3, [(.exit 0, xk 29 [(5, .own 1000000 1 .flat [])] [])])]
abbrev s39 : List (Bool × List CK) := [(true, [.sl 2 false, .sl 10 true, .sl 4 true, .int .i64]), (false, [.str])]
def G39 (F : T39) (β : Type) (e : (List V × List V × List V × Int × Unit) × (List UInt8 × Unit) × Unit) (k : V → Option β) : Option β := F β e.1.1 e.1.2.1 e.1.2.2.1 e.1.2.2.2.1 e.2.1.1 (fun y1 => k (.own 0 1 .flat y1))
abbrev W39 (F : T39) : WT := wrap s39 (G39 F)
theorem k39 (F52 : T52) (F53 : T53) (β : Type) (e : argsT s39) (k : V → Option β) : fnK cfg (tabL [(52, W52 F52), (53, W53 F53)]) X39 39 Try.f39 β (argsEnc s39 e) k = G39 (P39 F52 F53 ) β e k := by kernel_rfl
theorem okd39 : FnOk D1 39 (W39 F39) := fn_okW [(52, W52 F52), (53, W53 F53)] X39 (fun _ => rfl) Try.func39 rfl (tabL_cons okd52 (tabL_cons okd53 tabL_nil)) (k39 F52 F53 )
abbrev T21 : Type 1 := (β : Type) → List V → List V → List V → Int → List UInt8 → (List V → Option β) → Option β
def F21 : T21 := fun β a0_Servers a0_Cache_Entries a0_Log a0_Now a1 k => F39 β a0_Servers a0_Cache_Entries a0_Log a0_Now a1 (fun y => sortStrK β y k)
abbrev s21 : List (Bool × List CK) := [(true, [.sl 2 false, .sl 10 true, .sl 4 true, .int .i64]), (false, [.str])]
def G21 (F : T21) (β : Type) (e : (List V × List V × List V × Int × Unit) × (List UInt8 × Unit) × Unit) (k : V → Option β) : Option β := F β e.1.1 e.1.2.1 e.1.2.2.1 e.1.2.2.2.1 e.2.1.1 (fun y1 => k (.own 0 1 .flat y1))
abbrev W21 (F : T21) : WT := wrap s21 (G21 F)
theorem ok21 : FnOk D 21 (W21 F21) := ok_tops (sh := s21) (Fg := fun β e k => F39 β e.1.1 e.1.2.1 e.1.2.2.1 e.1.2.2.2.1 e.2.1.1 k) (fun _ => rfl) okd39 (fun x => by obtain ⟨⟨x0_0, x0_1, x0_2, x0_3, _⟩, ⟨x1_0, _⟩, _⟩ := x; exact ⟨_, _, _, _, _, _, _, _, _, _, _, _, rfl⟩) (fun β x G k => by obtain ⟨⟨x0_0, x0_1, x0_2, x0_3, _⟩, ⟨x1_0, _⟩, _⟩ := x; rfl)
abbrev T29 : Type 1 := (β : Type) → Int → (List UInt8 → Option β) → Option β
def P29 : T29 := fun β xk k =>
 br (decide (xk ≤ 0)) (
 k [109, 48]) (
 whileK (fun s1 =>
 br (decide ((lI s1 0) > 0)) (
 strO [.int .u8 (IntKind.wrap .u8 (IntKind.wrap .i64 (48 + (Int.tmod (lI s1 0) 10))))] fun t2 =>
 chk (t2.length + (lS s1 1).length ≤ 9223372036854775807) <|
 some (.inl [.i (IntKind.wrap .i64 (Int.tdiv (lI s1 0) 10)), .s (t2 ++ (lS s1 1))])) (
 some (.inr (0, [.s (lS s1 1)])))) [.i xk, .s []] fun (r3 : Nat × List Leaf) =>
 chk (([109] : List UInt8).length + (lS r3.2 0).length ≤ 9223372036854775807) <|
 k ([109] ++ (lS r3.2 0)))
def F29 : T29 := P29
def X29 : Exits := fun i => lookN i [] [(4, [(.exit 0, xk 20 [(3, .str [])] [])])]
abbrev s29 : List (Bool × List CK) := [(false, [.int .i64])]
def G29 (F : T29) (β : Type) (e : (Int × Unit) × Unit) (k : V → Option β) : Option β := F β e.1.1 (fun y1 => k (.str y1))
abbrev W29 (F : T29) : WT := wrap s29 (G29 F)
theorem k29 (β : Type) (e : argsT s29) (k : V → Option β) : fnK cfg (tabL []) X29 29 Try.f29 β (argsEnc s29 e) k = G29 (P29 ) β e k := by kernel_rfl
theorem ok29 : FnOk D 29 (W29 F29) := fn_okW [] X29 (fun _ => rfl) Try.func29 rfl (tabL_nil) (k29 )
end
end Go.Am

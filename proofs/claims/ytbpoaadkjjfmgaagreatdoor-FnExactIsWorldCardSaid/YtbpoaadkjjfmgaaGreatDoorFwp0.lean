/-
  Functions of the program, extracted by program (sym.py) out of their code: what each computes, and, by the kernel's reckoning, that the machine's looking form computes just that; so what the machine answers.
-/
import Derived.Test.YtbpoaadkjjfmgaaGreatDoorAmCfg
import Derived.Test.YtbpoaadkjjfmgaaGreatDoorAmEvOk2
import Derived.KernelRfl
set_option maxRecDepth 10000
set_option linter.unusedVariables false
namespace Go.Am
open Go Go.Proofs
noncomputable section
abbrev WT : Type 1 := (β : Type) → List V → (V → Option β) → Option β
abbrev T142 : Type 1 := (β : Type) → Int → Int → List UInt8 → Int → Bool → List UInt8 → Int → (Int → Option β) → Option β
def P142 : T142 := fun β a_Status a_Kind a_Body a_Age a_Shares a_Policy left k =>
 br (decide (IntKind.wrap .i64 (left - (a_Body.length : Int)) < 0)) (
 k (-1)) (
 br (decide (IntKind.wrap .i64 ((IntKind.wrap .i64 (left - (a_Body.length : Int))) - (a_Policy.length : Int)) < 0)) (
 k (-1)) (
 k (IntKind.wrap .i64 ((IntKind.wrap .i64 (left - (a_Body.length : Int))) - (a_Policy.length : Int)))))
def F142 : T142 := P142
abbrev s142 : List (Bool × List CK) := [(true, [.int .i64, .int .i64, .str, .int .i64, .bool, .str]), (false, [.int .i64])]
def G142 (F : T142) (β : Type) (e : (Int × Int × List UInt8 × Int × Bool × List UInt8 × Unit) × (Int × Unit) × Unit) (k : V → Option β) : Option β := let a0_0 := e.1; let a0_1 := a0_0.2; let a0_2 := a0_1.2; let a0_3 := a0_2.2; let a0_4 := a0_3.2; let a0_5 := a0_4.2; F β a0_0.1 a0_1.1 a0_2.1 a0_3.1 a0_4.1 a0_5.1 e.2.1.1 (fun y1 => k (.int .i64 y1))
abbrev W142 (F : T142) : WT := wrap s142 (G142 F)
theorem k142 (β : Type) (e : argsT s142) (k : V → Option β) : fnK cfg (tabL []) noX 142 Tryz.f142 β (argsEnc s142 e) k = G142 (P142 ) β e k := by kernel_rfl
theorem ok142 : FnOk D 142 (W142 F142) := fn_okW [] noX (fun _ => rfl) Tryz.func142 rfl (tabL_nil) (k142 )
abbrev T170 : Type 1 := (β : Type) → List UInt8 → Int → Int → List UInt8 → Int → Bool → List UInt8 → Int → (Int → Option β) → Option β
def P170 (F142 : T142) : T170 := fun β a_Path a_Response_Status a_Response_Kind a_Response_Body a_Response_Age a_Response_Shares a_Response_Policy left k =>
 br (decide (IntKind.wrap .i64 (left - (a_Path.length : Int)) < 0)) (
 k (-1)) (
 F142 _ a_Response_Status a_Response_Kind a_Response_Body a_Response_Age a_Response_Shares a_Response_Policy (IntKind.wrap .i64 (left - (a_Path.length : Int))) fun n1 =>
 br (decide (n1 < 0)) (
 k (-1)) (
 k n1))
def F170 : T170 := P170 F142
abbrev s170 : List (Bool × List CK) := [(true, [.str, .int .i64, .int .i64, .str, .int .i64, .bool, .str]), (false, [.int .i64])]
def G170 (F : T170) (β : Type) (e : (List UInt8 × Int × Int × List UInt8 × Int × Bool × List UInt8 × Unit) × (Int × Unit) × Unit) (k : V → Option β) : Option β := let a0_0 := e.1; let a0_1 := a0_0.2; let a0_2 := a0_1.2; let a0_3 := a0_2.2; let a0_4 := a0_3.2; let a0_5 := a0_4.2; let a0_6 := a0_5.2; F β a0_0.1 a0_1.1 a0_2.1 a0_3.1 a0_4.1 a0_5.1 a0_6.1 e.2.1.1 (fun y1 => k (.int .i64 y1))
abbrev W170 (F : T170) : WT := wrap s170 (G170 F)
theorem k170 (F142 : T142) (β : Type) (e : argsT s170) (k : V → Option β) : fnK cfg (tabL [(142, W142 F142)]) noX 170 Tryz.f170 β (argsEnc s170 e) k = G170 (P170 F142 ) β e k := by kernel_rfl
theorem ok170 : FnOk D 170 (W170 F170) := fn_okW [(142, W142 F142)] noX (fun _ => rfl) Tryz.func170 rfl (tabL_cons ok142 tabL_nil) (k170 F142 )
abbrev T135 : Type 1 := (β : Type) → List V → Int → (Int → Option β) → Option β
def P135 (F170 : T170) : T135 := fun β a left k =>
 br (decide (IntKind.wrap .i64 (left - (a.length : Int)) < 0)) (
 k (-1)) (
 whileK (fun s1 =>
 br (decide ((lI s1 2) < ((lL s1 0).length : Int))) (
 chk (0 ≤ (lI s1 2)) <|
 idx true [.str, .int .i64, .int .i64, .str, .int .i64, .bool, .str] (lL s1 0) ((lI s1 2).toNat) fun (e2 : List UInt8 × Int × Int × List UInt8 × Int × Bool × List UInt8 × Unit) =>
 F170 _ e2.1 e2.2.1 e2.2.2.1 e2.2.2.2.1 e2.2.2.2.2.1 e2.2.2.2.2.2.1 e2.2.2.2.2.2.2.1 (lI s1 1) fun n3 =>
 br (decide (n3 < 0)) (
 some (.inr (0, [.i n3, .i (-1)]))) (
 some (.inl [.l (lL s1 0), .i n3, .i (IntKind.wrap .i64 ((lI s1 2) + 1))]))) (
 some (.inr (1, [.i (lI s1 1)])))) [.l a, .i (IntKind.wrap .i64 (left - (a.length : Int))), .i 0] fun (r4 : Nat × List Leaf) =>
 if r4.1 = 0 then
 k (lI r4.2 1)
 else
 k (lI r4.2 0))
def F135 : T135 := P135 F170
def X135 : Exits := fun i => lookN i [] [(5, [(.ret, xk 27 [(1, .int .i64 0), (4, .int .i64 0)] []), (.exit 0, xk 27 [(1, .int .i64 0)] [])])]
abbrev s135 : List (Bool × List CK) := [(false, [.sl 7 true]), (false, [.int .i64])]
def G135 (F : T135) (β : Type) (e : (List V × Unit) × (Int × Unit) × Unit) (k : V → Option β) : Option β := F β e.1.1 e.2.1.1 (fun y1 => k (.int .i64 y1))
abbrev W135 (F : T135) : WT := wrap s135 (G135 F)
theorem k135 (F170 : T170) (β : Type) (e : argsT s135) (k : V → Option β) : fnK cfg (tabL [(170, W170 F170)]) X135 135 Tryz.f135 β (argsEnc s135 e) k = G135 (P135 F170 ) β e k := by kernel_rfl
theorem ok135 : FnOk D 135 (W135 F135) := fn_okW [(170, W170 F170)] X135 (fun _ => rfl) Tryz.func135 rfl (tabL_cons ok170 tabL_nil) (k135 F170 )
abbrev T74 : Type 1 := (β : Type) → List UInt8 → List V → Int → (Int → Option β) → Option β
def P74 (F135 : T135) : T74 := fun β a_Host a_Files left k =>
 br (decide (IntKind.wrap .i64 (left - (a_Host.length : Int)) < 0)) (
 k (-1)) (
 F135 _ a_Files (IntKind.wrap .i64 (left - (a_Host.length : Int))) fun n1 =>
 br (decide (n1 < 0)) (
 k (-1)) (
 k n1))
def F74 : T74 := P74 F135
abbrev s74 : List (Bool × List CK) := [(true, [.str, .sl 7 true]), (false, [.int .i64])]
def G74 (F : T74) (β : Type) (e : (List UInt8 × List V × Unit) × (Int × Unit) × Unit) (k : V → Option β) : Option β := F β e.1.1 e.1.2.1 e.2.1.1 (fun y1 => k (.int .i64 y1))
abbrev W74 (F : T74) : WT := wrap s74 (G74 F)
theorem k74 (F135 : T135) (β : Type) (e : argsT s74) (k : V → Option β) : fnK cfg (tabL [(135, W135 F135)]) noX 74 Tryz.f74 β (argsEnc s74 e) k = G74 (P74 F135 ) β e k := by kernel_rfl
theorem ok74 : FnOk D 74 (W74 F74) := fn_okW [(135, W135 F135)] noX (fun _ => rfl) Tryz.func74 rfl (tabL_cons ok135 tabL_nil) (k74 F135 )
abbrev T33 : Type 1 := (β : Type) → List V → Int → (Int → Option β) → Option β
def P33 (F74 : T74) : T33 := fun β a left k =>
 br (decide (IntKind.wrap .i64 (left - (a.length : Int)) < 0)) (
 k (-1)) (
 whileK (fun s1 =>
 br (decide ((lI s1 2) < ((lL s1 0).length : Int))) (
 chk (0 ≤ (lI s1 2)) <|
 idx true [.str, .sl 7 true] (lL s1 0) ((lI s1 2).toNat) fun (e2 : List UInt8 × List V × Unit) =>
 F74 _ e2.1 e2.2.1 (lI s1 1) fun n3 =>
 br (decide (n3 < 0)) (
 some (.inr (0, [.i n3, .i (-1)]))) (
 some (.inl [.l (lL s1 0), .i n3, .i (IntKind.wrap .i64 ((lI s1 2) + 1))]))) (
 some (.inr (1, [.i (lI s1 1)])))) [.l a, .i (IntKind.wrap .i64 (left - (a.length : Int))), .i 0] fun (r4 : Nat × List Leaf) =>
 if r4.1 = 0 then
 k (lI r4.2 1)
 else
 k (lI r4.2 0))
def F33 : T33 := P33 F74
def X33 : Exits := fun i => lookN i [] [(5, [(.ret, xk 27 [(1, .int .i64 0), (4, .int .i64 0)] []), (.exit 0, xk 27 [(1, .int .i64 0)] [])])]
abbrev s33 : List (Bool × List CK) := [(false, [.sl 2 false]), (false, [.int .i64])]
def G33 (F : T33) (β : Type) (e : (List V × Unit) × (Int × Unit) × Unit) (k : V → Option β) : Option β := F β e.1.1 e.2.1.1 (fun y1 => k (.int .i64 y1))
abbrev W33 (F : T33) : WT := wrap s33 (G33 F)
theorem k33 (F74 : T74) (β : Type) (e : argsT s33) (k : V → Option β) : fnK cfg (tabL [(74, W74 F74)]) X33 33 Tryz.f33 β (argsEnc s33 e) k = G33 (P33 F74 ) β e k := by kernel_rfl
theorem ok33 : FnOk D 33 (W33 F33) := fn_okW [(74, W74 F74)] X33 (fun _ => rfl) Tryz.func33 rfl (tabL_cons ok74 tabL_nil) (k33 F74 )
abbrev T78 : Type 1 := (β : Type) → List UInt8 → List UInt8 → Int → (Int → Option β) → Option β
def P78 : T78 := fun β a_Host a_Path left k =>
 br (decide (IntKind.wrap .i64 (left - (a_Host.length : Int)) < 0)) (
 k (-1)) (
 br (decide (IntKind.wrap .i64 ((IntKind.wrap .i64 (left - (a_Host.length : Int))) - (a_Path.length : Int)) < 0)) (
 k (-1)) (
 k (IntKind.wrap .i64 ((IntKind.wrap .i64 (left - (a_Host.length : Int))) - (a_Path.length : Int)))))
def F78 : T78 := P78
abbrev s78 : List (Bool × List CK) := [(true, [.str, .str]), (false, [.int .i64])]
def G78 (F : T78) (β : Type) (e : (List UInt8 × List UInt8 × Unit) × (Int × Unit) × Unit) (k : V → Option β) : Option β := F β e.1.1 e.1.2.1 e.2.1.1 (fun y1 => k (.int .i64 y1))
abbrev W78 (F : T78) : WT := wrap s78 (G78 F)
theorem k78 (β : Type) (e : argsT s78) (k : V → Option β) : fnK cfg (tabL []) noX 78 Tryz.f78 β (argsEnc s78 e) k = G78 (P78 ) β e k := by kernel_rfl
theorem ok78 : FnOk D 78 (W78 F78) := fn_okW [] noX (fun _ => rfl) Tryz.func78 rfl (tabL_nil) (k78 )
abbrev T136 : Type 1 := (β : Type) → List UInt8 → List UInt8 → List UInt8 → Int → Int → List UInt8 → Int → Bool → List UInt8 → Int → Int → (Int → Option β) → Option β
def P136 (F78 : T78) (F142 : T142) : T136 := fun β a_Top a_To_Host a_To_Path a_Response_Status a_Response_Kind a_Response_Body a_Response_Age a_Response_Shares a_Response_Policy a_Until left k =>
 br (decide (IntKind.wrap .i64 (left - (a_Top.length : Int)) < 0)) (
 k (-1)) (
 F78 _ a_To_Host a_To_Path (IntKind.wrap .i64 (left - (a_Top.length : Int))) fun n1 =>
 br (decide (n1 < 0)) (
 k (-1)) (
 F142 _ a_Response_Status a_Response_Kind a_Response_Body a_Response_Age a_Response_Shares a_Response_Policy n1 fun n2 =>
 br (decide (n2 < 0)) (
 k (-1)) (
 k n2)))
def F136 : T136 := P136 F78 F142
abbrev s136 : List (Bool × List CK) := [(true, [.str, .str, .str, .int .i64, .int .i64, .str, .int .i64, .bool, .str, .int .i64]), (false, [.int .i64])]
def G136 (F : T136) (β : Type) (e : (List UInt8 × List UInt8 × List UInt8 × Int × Int × List UInt8 × Int × Bool × List UInt8 × Int × Unit) × (Int × Unit) × Unit) (k : V → Option β) : Option β := let a0_0 := e.1; let a0_1 := a0_0.2; let a0_2 := a0_1.2; let a0_3 := a0_2.2; let a0_4 := a0_3.2; let a0_5 := a0_4.2; let a0_6 := a0_5.2; let a0_7 := a0_6.2; let a0_8 := a0_7.2; let a0_9 := a0_8.2; F β a0_0.1 a0_1.1 a0_2.1 a0_3.1 a0_4.1 a0_5.1 a0_6.1 a0_7.1 a0_8.1 a0_9.1 e.2.1.1 (fun y1 => k (.int .i64 y1))
abbrev W136 (F : T136) : WT := wrap s136 (G136 F)
theorem k136 (F78 : T78) (F142 : T142) (β : Type) (e : argsT s136) (k : V → Option β) : fnK cfg (tabL [(78, W78 F78), (142, W142 F142)]) noX 136 Tryz.f136 β (argsEnc s136 e) k = G136 (P136 F78 F142 ) β e k := by kernel_rfl
theorem ok136 : FnOk D 136 (W136 F136) := fn_okW [(78, W78 F78), (142, W142 F142)] noX (fun _ => rfl) Tryz.func136 rfl (tabL_cons ok78 (tabL_cons ok142 tabL_nil)) (k136 F78 F142 )
abbrev T75 : Type 1 := (β : Type) → List V → Int → (Int → Option β) → Option β
def P75 (F136 : T136) : T75 := fun β a left k =>
 br (decide (IntKind.wrap .i64 (left - (a.length : Int)) < 0)) (
 k (-1)) (
 whileK (fun s1 =>
 br (decide ((lI s1 2) < ((lL s1 0).length : Int))) (
 chk (0 ≤ (lI s1 2)) <|
 idx true [.str, .str, .str, .int .i64, .int .i64, .str, .int .i64, .bool, .str, .int .i64] (lL s1 0) ((lI s1 2).toNat) fun (e2 : List UInt8 × List UInt8 × List UInt8 × Int × Int × List UInt8 × Int × Bool × List UInt8 × Int × Unit) =>
 F136 _ e2.1 e2.2.1 e2.2.2.1 e2.2.2.2.1 e2.2.2.2.2.1 e2.2.2.2.2.2.1 e2.2.2.2.2.2.2.1 e2.2.2.2.2.2.2.2.1 e2.2.2.2.2.2.2.2.2.1 e2.2.2.2.2.2.2.2.2.2.1 (lI s1 1) fun n3 =>
 br (decide (n3 < 0)) (
 some (.inr (0, [.i n3, .i (-1)]))) (
 some (.inl [.l (lL s1 0), .i n3, .i (IntKind.wrap .i64 ((lI s1 2) + 1))]))) (
 some (.inr (1, [.i (lI s1 1)])))) [.l a, .i (IntKind.wrap .i64 (left - (a.length : Int))), .i 0] fun (r4 : Nat × List Leaf) =>
 if r4.1 = 0 then
 k (lI r4.2 1)
 else
 k (lI r4.2 0))
def F75 : T75 := P75 F136
def X75 : Exits := fun i => lookN i [] [(5, [(.ret, xk 27 [(1, .int .i64 0), (4, .int .i64 0)] []), (.exit 0, xk 27 [(1, .int .i64 0)] [])])]
abbrev s75 : List (Bool × List CK) := [(false, [.sl 10 true]), (false, [.int .i64])]
def G75 (F : T75) (β : Type) (e : (List V × Unit) × (Int × Unit) × Unit) (k : V → Option β) : Option β := F β e.1.1 e.2.1.1 (fun y1 => k (.int .i64 y1))
abbrev W75 (F : T75) : WT := wrap s75 (G75 F)
theorem k75 (F136 : T136) (β : Type) (e : argsT s75) (k : V → Option β) : fnK cfg (tabL [(136, W136 F136)]) X75 75 Tryz.f75 β (argsEnc s75 e) k = G75 (P75 F136 ) β e k := by kernel_rfl
theorem ok75 : FnOk D 75 (W75 F75) := fn_okW [(136, W136 F136)] X75 (fun _ => rfl) Tryz.func75 rfl (tabL_cons ok136 tabL_nil) (k75 F136 )
abbrev T34 : Type 1 := (β : Type) → List V → Int → (Int → Option β) → Option β
def P34 (F75 : T75) : T34 := fun β a_Entries left k =>
 F75 _ a_Entries left fun n1 =>
 br (decide (n1 < 0)) (
 k (-1)) (
 k n1)
def F34 : T34 := P34 F75
abbrev s34 : List (Bool × List CK) := [(true, [.sl 10 true]), (false, [.int .i64])]
def G34 (F : T34) (β : Type) (e : (List V × Unit) × (Int × Unit) × Unit) (k : V → Option β) : Option β := F β e.1.1 e.2.1.1 (fun y1 => k (.int .i64 y1))
abbrev W34 (F : T34) : WT := wrap s34 (G34 F)
theorem k34 (F75 : T75) (β : Type) (e : argsT s34) (k : V → Option β) : fnK cfg (tabL [(75, W75 F75)]) noX 34 Tryz.f34 β (argsEnc s34 e) k = G34 (P34 F75 ) β e k := by kernel_rfl
theorem ok34 : FnOk D 34 (W34 F34) := fn_okW [(75, W75 F75)] noX (fun _ => rfl) Tryz.func34 rfl (tabL_cons ok75 tabL_nil) (k34 F75 )
abbrev T76 : Type 1 := (β : Type) → List UInt8 → List UInt8 → List UInt8 → Bool → Int → (Int → Option β) → Option β
def P76 (F78 : T78) : T76 := fun β a_Top a_To_Host a_To_Path a_Guess left k =>
 br (decide (IntKind.wrap .i64 (left - (a_Top.length : Int)) < 0)) (
 k (-1)) (
 F78 _ a_To_Host a_To_Path (IntKind.wrap .i64 (left - (a_Top.length : Int))) fun n1 =>
 br (decide (n1 < 0)) (
 k (-1)) (
 k n1))
def F76 : T76 := P76 F78
abbrev s76 : List (Bool × List CK) := [(true, [.str, .str, .str, .bool]), (false, [.int .i64])]
def G76 (F : T76) (β : Type) (e : (List UInt8 × List UInt8 × List UInt8 × Bool × Unit) × (Int × Unit) × Unit) (k : V → Option β) : Option β := F β e.1.1 e.1.2.1 e.1.2.2.1 e.1.2.2.2.1 e.2.1.1 (fun y1 => k (.int .i64 y1))
abbrev W76 (F : T76) : WT := wrap s76 (G76 F)
theorem k76 (F78 : T78) (β : Type) (e : argsT s76) (k : V → Option β) : fnK cfg (tabL [(78, W78 F78)]) noX 76 Tryz.f76 β (argsEnc s76 e) k = G76 (P76 F78 ) β e k := by kernel_rfl
theorem ok76 : FnOk D 76 (W76 F76) := fn_okW [(78, W78 F78)] noX (fun _ => rfl) Tryz.func76 rfl (tabL_cons ok78 tabL_nil) (k76 F78 )
abbrev T35 : Type 1 := (β : Type) → List V → Int → (Int → Option β) → Option β
def P35 (F76 : T76) : T35 := fun β a left k =>
 br (decide (IntKind.wrap .i64 (left - (a.length : Int)) < 0)) (
 k (-1)) (
 whileK (fun s1 =>
 br (decide ((lI s1 2) < ((lL s1 0).length : Int))) (
 chk (0 ≤ (lI s1 2)) <|
 idx true [.str, .str, .str, .bool] (lL s1 0) ((lI s1 2).toNat) fun (e2 : List UInt8 × List UInt8 × List UInt8 × Bool × Unit) =>
 F76 _ e2.1 e2.2.1 e2.2.2.1 e2.2.2.2.1 (lI s1 1) fun n3 =>
 br (decide (n3 < 0)) (
 some (.inr (0, [.i n3, .i (-1)]))) (
 some (.inl [.l (lL s1 0), .i n3, .i (IntKind.wrap .i64 ((lI s1 2) + 1))]))) (
 some (.inr (1, [.i (lI s1 1)])))) [.l a, .i (IntKind.wrap .i64 (left - (a.length : Int))), .i 0] fun (r4 : Nat × List Leaf) =>
 if r4.1 = 0 then
 k (lI r4.2 1)
 else
 k (lI r4.2 0))
def F35 : T35 := P35 F76
def X35 : Exits := fun i => lookN i [] [(5, [(.ret, xk 27 [(1, .int .i64 0), (4, .int .i64 0)] []), (.exit 0, xk 27 [(1, .int .i64 0)] [])])]
abbrev s35 : List (Bool × List CK) := [(false, [.sl 4 true]), (false, [.int .i64])]
def G35 (F : T35) (β : Type) (e : (List V × Unit) × (Int × Unit) × Unit) (k : V → Option β) : Option β := F β e.1.1 e.2.1.1 (fun y1 => k (.int .i64 y1))
abbrev W35 (F : T35) : WT := wrap s35 (G35 F)
theorem k35 (F76 : T76) (β : Type) (e : argsT s35) (k : V → Option β) : fnK cfg (tabL [(76, W76 F76)]) X35 35 Tryz.f35 β (argsEnc s35 e) k = G35 (P35 F76 ) β e k := by kernel_rfl
theorem ok35 : FnOk D 35 (W35 F35) := fn_okW [(76, W76 F76)] X35 (fun _ => rfl) Tryz.func35 rfl (tabL_cons ok76 tabL_nil) (k35 F76 )
abbrev T12 : Type 1 := (β : Type) → List V → List V → List V → Int → Int → (Int → Option β) → Option β
def P12 (F33 : T33) (F34 : T34) (F35 : T35) : T12 := fun β a_Servers a_Cache_Entries a_Log a_Now left k =>
 F33 _ a_Servers left fun n1 =>
 br (decide (n1 < 0)) (
 k (-1)) (
 F34 _ a_Cache_Entries n1 fun n2 =>
 br (decide (n2 < 0)) (
 k (-1)) (
 F35 _ a_Log n2 fun n3 =>
 br (decide (n3 < 0)) (
 k (-1)) (
 k n3)))
def F12 : T12 := P12 F33 F34 F35
abbrev s12 : List (Bool × List CK) := [(true, [.sl 2 false, .sl 10 true, .sl 4 true, .int .i64]), (false, [.int .i64])]
def G12 (F : T12) (β : Type) (e : (List V × List V × List V × Int × Unit) × (Int × Unit) × Unit) (k : V → Option β) : Option β := F β e.1.1 e.1.2.1 e.1.2.2.1 e.1.2.2.2.1 e.2.1.1 (fun y1 => k (.int .i64 y1))
abbrev W12 (F : T12) : WT := wrap s12 (G12 F)
theorem k12 (F33 : T33) (F34 : T34) (F35 : T35) (β : Type) (e : argsT s12) (k : V → Option β) : fnK cfg (tabL [(33, W33 F33), (34, W34 F34), (35, W35 F35)]) noX 12 Tryz.f12 β (argsEnc s12 e) k = G12 (P12 F33 F34 F35 ) β e k := by kernel_rfl
theorem ok12 : FnOk D 12 (W12 F12) := fn_okW [(33, W33 F33), (34, W34 F34), (35, W35 F35)] noX (fun _ => rfl) Tryz.func12 rfl (tabL_cons ok33 (tabL_cons ok34 (tabL_cons ok35 tabL_nil))) (k12 F33 F34 F35 )
abbrev T86 : Type 1 := (β : Type) → List V → Int → (Int → Option β) → Option β
def P86 : T86 := fun β a left k =>
 br (decide (IntKind.wrap .i64 (left - (a.length : Int)) < 0)) (
 k (-1)) (
 whileK (fun s1 =>
 br (decide ((lI s1 2) < ((lL s1 0).length : Int))) (
 chk (0 ≤ (lI s1 2)) <|
 idx false [.str] (lL s1 0) ((lI s1 2).toNat) fun (e2 : List UInt8 × Unit) =>
 br (decide (IntKind.wrap .i64 ((lI s1 1) - (e2.1.length : Int)) < 0)) (
 some (.inr (0, [.i (IntKind.wrap .i64 ((lI s1 1) - (e2.1.length : Int))), .i (-1)]))) (
 some (.inl [.l (lL s1 0), .i (IntKind.wrap .i64 ((lI s1 1) - (e2.1.length : Int))), .i (IntKind.wrap .i64 ((lI s1 2) + 1))]))) (
 some (.inr (1, [.i (lI s1 1)])))) [.l a, .i (IntKind.wrap .i64 (left - (a.length : Int))), .i 0] fun (r3 : Nat × List Leaf) =>
 if r3.1 = 0 then
 k (lI r3.2 1)
 else
 k (lI r3.2 0))
def F86 : T86 := P86
def X86 : Exits := fun i => lookN i [] [(5, [(.ret, xk 28 [(1, .int .i64 0), (4, .int .i64 0)] []), (.exit 0, xk 28 [(1, .int .i64 0)] [])])]
abbrev s86 : List (Bool × List CK) := [(false, [.sl 1 true]), (false, [.int .i64])]
def G86 (F : T86) (β : Type) (e : (List V × Unit) × (Int × Unit) × Unit) (k : V → Option β) : Option β := F β e.1.1 e.2.1.1 (fun y1 => k (.int .i64 y1))
abbrev W86 (F : T86) : WT := wrap s86 (G86 F)
theorem k86 (β : Type) (e : argsT s86) (k : V → Option β) : fnK cfg (tabL []) X86 86 Tryz.f86 β (argsEnc s86 e) k = G86 (P86 ) β e k := by kernel_rfl
theorem ok86 : FnOk D 86 (W86 F86) := fn_okW [] X86 (fun _ => rfl) Tryz.func86 rfl (tabL_nil) (k86 )
abbrev T79 : Type 1 := (β : Type) → Bool → List V → List V → List V → List UInt8 → Int → (Int → Option β) → Option β
def P79 (F86 : T86) : T79 := fun β a_Set a_Scripts a_Styles a_Images a_Nonce left k =>
 F86 _ a_Scripts left fun n1 =>
 br (decide (n1 < 0)) (
 k (-1)) (
 F86 _ a_Styles n1 fun n2 =>
 br (decide (n2 < 0)) (
 k (-1)) (
 F86 _ a_Images n2 fun n3 =>
 br (decide (n3 < 0)) (
 k (-1)) (
 br (decide (IntKind.wrap .i64 (n3 - (a_Nonce.length : Int)) < 0)) (
 k (-1)) (
 k (IntKind.wrap .i64 (n3 - (a_Nonce.length : Int)))))))
def F79 : T79 := P79 F86
abbrev s79 : List (Bool × List CK) := [(true, [.bool, .sl 1 true, .sl 1 true, .sl 1 true, .str]), (false, [.int .i64])]
def G79 (F : T79) (β : Type) (e : (Bool × List V × List V × List V × List UInt8 × Unit) × (Int × Unit) × Unit) (k : V → Option β) : Option β := let a0_0 := e.1; let a0_1 := a0_0.2; let a0_2 := a0_1.2; let a0_3 := a0_2.2; let a0_4 := a0_3.2; F β a0_0.1 a0_1.1 a0_2.1 a0_3.1 a0_4.1 e.2.1.1 (fun y1 => k (.int .i64 y1))
abbrev W79 (F : T79) : WT := wrap s79 (G79 F)
theorem k79 (F86 : T86) (β : Type) (e : argsT s79) (k : V → Option β) : fnK cfg (tabL [(86, W86 F86)]) noX 79 Tryz.f79 β (argsEnc s79 e) k = G79 (P79 F86 ) β e k := by kernel_rfl
theorem ok79 : FnOk D 79 (W79 F79) := fn_okW [(86, W86 F86)] noX (fun _ => rfl) Tryz.func79 rfl (tabL_cons ok86 tabL_nil) (k79 F86 )
abbrev T80 : Type 1 := (β : Type) → List UInt8 → Int → (Int → Option β) → Option β
def P80 : T80 := fun β a_Rest left k =>
 br (decide (IntKind.wrap .i64 (left - (a_Rest.length : Int)) < 0)) (
 k (-1)) (
 k (IntKind.wrap .i64 (left - (a_Rest.length : Int))))
def F80 : T80 := P80
abbrev s80 : List (Bool × List CK) := [(true, [.str]), (false, [.int .i64])]
def G80 (F : T80) (β : Type) (e : (List UInt8 × Unit) × (Int × Unit) × Unit) (k : V → Option β) : Option β := F β e.1.1 e.2.1.1 (fun y1 => k (.int .i64 y1))
abbrev W80 (F : T80) : WT := wrap s80 (G80 F)
theorem k80 (β : Type) (e : argsT s80) (k : V → Option β) : fnK cfg (tabL []) noX 80 Tryz.f80 β (argsEnc s80 e) k = G80 (P80 ) β e k := by kernel_rfl
theorem ok80 : FnOk D 80 (W80 F80) := fn_okW [] noX (fun _ => rfl) Tryz.func80 rfl (tabL_nil) (k80 )
abbrev T190 : Type 1 := (β : Type) → List UInt8 → List UInt8 → Int → (Int → Option β) → Option β
def P190 : T190 := fun β a_Name a_Value left k =>
 br (decide (IntKind.wrap .i64 (left - (a_Name.length : Int)) < 0)) (
 k (-1)) (
 br (decide (IntKind.wrap .i64 ((IntKind.wrap .i64 (left - (a_Name.length : Int))) - (a_Value.length : Int)) < 0)) (
 k (-1)) (
 k (IntKind.wrap .i64 ((IntKind.wrap .i64 (left - (a_Name.length : Int))) - (a_Value.length : Int)))))
def F190 : T190 := P190
abbrev s190 : List (Bool × List CK) := [(true, [.str, .str]), (false, [.int .i64])]
def G190 (F : T190) (β : Type) (e : (List UInt8 × List UInt8 × Unit) × (Int × Unit) × Unit) (k : V → Option β) : Option β := F β e.1.1 e.1.2.1 e.2.1.1 (fun y1 => k (.int .i64 y1))
abbrev W190 (F : T190) : WT := wrap s190 (G190 F)
theorem k190 (β : Type) (e : argsT s190) (k : V → Option β) : fnK cfg (tabL []) noX 190 Tryz.f190 β (argsEnc s190 e) k = G190 (P190 ) β e k := by kernel_rfl
theorem ok190 : FnOk D 190 (W190 F190) := fn_okW [] noX (fun _ => rfl) Tryz.func190 rfl (tabL_nil) (k190 )
abbrev T171 : Type 1 := (β : Type) → List V → Int → (Int → Option β) → Option β
def P171 (F190 : T190) : T171 := fun β a left k =>
 br (decide (IntKind.wrap .i64 (left - (a.length : Int)) < 0)) (
 k (-1)) (
 whileK (fun s1 =>
 br (decide ((lI s1 2) < ((lL s1 0).length : Int))) (
 chk (0 ≤ (lI s1 2)) <|
 idx true [.str, .str] (lL s1 0) ((lI s1 2).toNat) fun (e2 : List UInt8 × List UInt8 × Unit) =>
 F190 _ e2.1 e2.2.1 (lI s1 1) fun n3 =>
 br (decide (n3 < 0)) (
 some (.inr (0, [.i n3, .i (-1)]))) (
 some (.inl [.l (lL s1 0), .i n3, .i (IntKind.wrap .i64 ((lI s1 2) + 1))]))) (
 some (.inr (1, [.i (lI s1 1)])))) [.l a, .i (IntKind.wrap .i64 (left - (a.length : Int))), .i 0] fun (r4 : Nat × List Leaf) =>
 if r4.1 = 0 then
 k (lI r4.2 1)
 else
 k (lI r4.2 0))
def F171 : T171 := P171 F190
def X171 : Exits := fun i => lookN i [] [(5, [(.ret, xk 27 [(1, .int .i64 0), (4, .int .i64 0)] []), (.exit 0, xk 27 [(1, .int .i64 0)] [])])]
abbrev s171 : List (Bool × List CK) := [(false, [.sl 2 true]), (false, [.int .i64])]
def G171 (F : T171) (β : Type) (e : (List V × Unit) × (Int × Unit) × Unit) (k : V → Option β) : Option β := F β e.1.1 e.2.1.1 (fun y1 => k (.int .i64 y1))
abbrev W171 (F : T171) : WT := wrap s171 (G171 F)
theorem k171 (F190 : T190) (β : Type) (e : argsT s171) (k : V → Option β) : fnK cfg (tabL [(190, W190 F190)]) X171 171 Tryz.f171 β (argsEnc s171 e) k = G171 (P171 F190 ) β e k := by kernel_rfl
theorem ok171 : FnOk D 171 (W171 F171) := fn_okW [(190, W190 F190)] X171 (fun _ => rfl) Tryz.func171 rfl (tabL_cons ok190 tabL_nil) (k171 F190 )
abbrev T137 : Type 1 := (β : Type) → Int → List UInt8 → List V → List UInt8 → Int → (Int → Option β) → Option β
def P137 (F171 : T171) : T137 := fun β a_Kind a_Name a_Attrs a_Text left k =>
 br (decide (IntKind.wrap .i64 (left - (a_Name.length : Int)) < 0)) (
 k (-1)) (
 F171 _ a_Attrs (IntKind.wrap .i64 (left - (a_Name.length : Int))) fun n1 =>
 br (decide (n1 < 0)) (
 k (-1)) (
 br (decide (IntKind.wrap .i64 (n1 - (a_Text.length : Int)) < 0)) (
 k (-1)) (
 k (IntKind.wrap .i64 (n1 - (a_Text.length : Int))))))
def F137 : T137 := P137 F171
abbrev s137 : List (Bool × List CK) := [(true, [.int .i64, .str, .sl 2 true, .str]), (false, [.int .i64])]
def G137 (F : T137) (β : Type) (e : (Int × List UInt8 × List V × List UInt8 × Unit) × (Int × Unit) × Unit) (k : V → Option β) : Option β := F β e.1.1 e.1.2.1 e.1.2.2.1 e.1.2.2.2.1 e.2.1.1 (fun y1 => k (.int .i64 y1))
abbrev W137 (F : T137) : WT := wrap s137 (G137 F)
theorem k137 (F171 : T171) (β : Type) (e : argsT s137) (k : V → Option β) : fnK cfg (tabL [(171, W171 F171)]) noX 137 Tryz.f137 β (argsEnc s137 e) k = G137 (P137 F171 ) β e k := by kernel_rfl
theorem ok137 : FnOk D 137 (W137 F137) := fn_okW [(171, W171 F171)] noX (fun _ => rfl) Tryz.func137 rfl (tabL_cons ok171 tabL_nil) (k137 F171 )
abbrev T81 : Type 1 := (β : Type) → List V → Int → (Int → Option β) → Option β
def P81 (F137 : T137) : T81 := fun β a left k =>
 br (decide (IntKind.wrap .i64 (left - (a.length : Int)) < 0)) (
 k (-1)) (
 whileK (fun s1 =>
 br (decide ((lI s1 2) < ((lL s1 0).length : Int))) (
 chk (0 ≤ (lI s1 2)) <|
 idx true [.int .i64, .str, .sl 2 true, .str] (lL s1 0) ((lI s1 2).toNat) fun (e2 : Int × List UInt8 × List V × List UInt8 × Unit) =>
 F137 _ e2.1 e2.2.1 e2.2.2.1 e2.2.2.2.1 (lI s1 1) fun n3 =>
 br (decide (n3 < 0)) (
 some (.inr (0, [.i n3, .i (-1)]))) (
 some (.inl [.l (lL s1 0), .i n3, .i (IntKind.wrap .i64 ((lI s1 2) + 1))]))) (
 some (.inr (1, [.i (lI s1 1)])))) [.l a, .i (IntKind.wrap .i64 (left - (a.length : Int))), .i 0] fun (r4 : Nat × List Leaf) =>
 if r4.1 = 0 then
 k (lI r4.2 1)
 else
 k (lI r4.2 0))
def F81 : T81 := P81 F137
def X81 : Exits := fun i => lookN i [] [(5, [(.ret, xk 27 [(1, .int .i64 0), (4, .int .i64 0)] []), (.exit 0, xk 27 [(1, .int .i64 0)] [])])]
abbrev s81 : List (Bool × List CK) := [(false, [.sl 4 false]), (false, [.int .i64])]
def G81 (F : T81) (β : Type) (e : (List V × Unit) × (Int × Unit) × Unit) (k : V → Option β) : Option β := F β e.1.1 e.2.1.1 (fun y1 => k (.int .i64 y1))
abbrev W81 (F : T81) : WT := wrap s81 (G81 F)
theorem k81 (F137 : T137) (β : Type) (e : argsT s81) (k : V → Option β) : fnK cfg (tabL [(137, W137 F137)]) X81 81 Tryz.f81 β (argsEnc s81 e) k = G81 (P81 F137 ) β e k := by kernel_rfl
theorem ok81 : FnOk D 81 (W81 F81) := fn_okW [(137, W137 F137)] X81 (fun _ => rfl) Tryz.func81 rfl (tabL_cons ok137 tabL_nil) (k81 F137 )
abbrev T172 : Type 1 := (β : Type) → List UInt8 → List UInt8 → Int → List V → Int → (Int → Option β) → Option β
def P172 (F171 : T171) : T172 := fun β a_Name a_Text a_Parent a_Attrs left k =>
 br (decide (IntKind.wrap .i64 (left - (a_Name.length : Int)) < 0)) (
 k (-1)) (
 br (decide (IntKind.wrap .i64 ((IntKind.wrap .i64 (left - (a_Name.length : Int))) - (a_Text.length : Int)) < 0)) (
 k (-1)) (
 F171 _ a_Attrs (IntKind.wrap .i64 ((IntKind.wrap .i64 (left - (a_Name.length : Int))) - (a_Text.length : Int))) fun n1 =>
 br (decide (n1 < 0)) (
 k (-1)) (
 k n1)))
def F172 : T172 := P172 F171
abbrev s172 : List (Bool × List CK) := [(true, [.str, .str, .int .i64, .sl 2 true]), (false, [.int .i64])]
def G172 (F : T172) (β : Type) (e : (List UInt8 × List UInt8 × Int × List V × Unit) × (Int × Unit) × Unit) (k : V → Option β) : Option β := F β e.1.1 e.1.2.1 e.1.2.2.1 e.1.2.2.2.1 e.2.1.1 (fun y1 => k (.int .i64 y1))
abbrev W172 (F : T172) : WT := wrap s172 (G172 F)
theorem k172 (F171 : T171) (β : Type) (e : argsT s172) (k : V → Option β) : fnK cfg (tabL [(171, W171 F171)]) noX 172 Tryz.f172 β (argsEnc s172 e) k = G172 (P172 F171 ) β e k := by kernel_rfl
theorem ok172 : FnOk D 172 (W172 F172) := fn_okW [(171, W171 F171)] noX (fun _ => rfl) Tryz.func172 rfl (tabL_cons ok171 tabL_nil) (k172 F171 )
abbrev T138 : Type 1 := (β : Type) → List V → Int → (Int → Option β) → Option β
def P138 (F172 : T172) : T138 := fun β a left k =>
 br (decide (IntKind.wrap .i64 (left - (a.length : Int)) < 0)) (
 k (-1)) (
 whileK (fun s1 =>
 br (decide ((lI s1 2) < ((lL s1 0).length : Int))) (
 chk (0 ≤ (lI s1 2)) <|
 idx true [.str, .str, .int .i64, .sl 2 true] (lL s1 0) ((lI s1 2).toNat) fun (e2 : List UInt8 × List UInt8 × Int × List V × Unit) =>
 F172 _ e2.1 e2.2.1 e2.2.2.1 e2.2.2.2.1 (lI s1 1) fun n3 =>
 br (decide (n3 < 0)) (
 some (.inr (0, [.i n3, .i (-1)]))) (
 some (.inl [.l (lL s1 0), .i n3, .i (IntKind.wrap .i64 ((lI s1 2) + 1))]))) (
 some (.inr (1, [.i (lI s1 1)])))) [.l a, .i (IntKind.wrap .i64 (left - (a.length : Int))), .i 0] fun (r4 : Nat × List Leaf) =>
 if r4.1 = 0 then
 k (lI r4.2 1)
 else
 k (lI r4.2 0))
def F138 : T138 := P138 F172
def X138 : Exits := fun i => lookN i [] [(5, [(.ret, xk 27 [(1, .int .i64 0), (4, .int .i64 0)] []), (.exit 0, xk 27 [(1, .int .i64 0)] [])])]
abbrev s138 : List (Bool × List CK) := [(false, [.sl 4 false]), (false, [.int .i64])]
def G138 (F : T138) (β : Type) (e : (List V × Unit) × (Int × Unit) × Unit) (k : V → Option β) : Option β := F β e.1.1 e.2.1.1 (fun y1 => k (.int .i64 y1))
abbrev W138 (F : T138) : WT := wrap s138 (G138 F)
theorem k138 (F172 : T172) (β : Type) (e : argsT s138) (k : V → Option β) : fnK cfg (tabL [(172, W172 F172)]) X138 138 Tryz.f138 β (argsEnc s138 e) k = G138 (P138 F172 ) β e k := by kernel_rfl
theorem ok138 : FnOk D 138 (W138 F138) := fn_okW [(172, W172 F172)] X138 (fun _ => rfl) Tryz.func138 rfl (tabL_cons ok172 tabL_nil) (k138 F172 )
abbrev T139 : Type 1 := (β : Type) → List V → Int → (Int → Option β) → Option β
def P139 : T139 := fun β a left k =>
 br (decide (IntKind.wrap .i64 (left - (a.length : Int)) < 0)) (
 k (-1)) (
 k (IntKind.wrap .i64 (left - (a.length : Int))))
def F139 : T139 := P139
abbrev s139 : List (Bool × List CK) := [(false, [.sl 1 true]), (false, [.int .i64])]
def G139 (F : T139) (β : Type) (e : (List V × Unit) × (Int × Unit) × Unit) (k : V → Option β) : Option β := F β e.1.1 e.2.1.1 (fun y1 => k (.int .i64 y1))
abbrev W139 (F : T139) : WT := wrap s139 (G139 F)
theorem k139 (β : Type) (e : argsT s139) (k : V → Option β) : fnK cfg (tabL []) noX 139 Tryz.f139 β (argsEnc s139 e) k = G139 (P139 ) β e k := by kernel_rfl
theorem ok139 : FnOk D 139 (W139 F139) := fn_okW [] noX (fun _ => rfl) Tryz.func139 rfl (tabL_nil) (k139 )
abbrev T82 : Type 1 := (β : Type) → List V → List V → Int → (Int → Option β) → Option β
def P82 (F138 : T138) (F139 : T139) : T82 := fun β a_Nodes a_Open left k =>
 F138 _ a_Nodes left fun n1 =>
 br (decide (n1 < 0)) (
 k (-1)) (
 F139 _ a_Open n1 fun n2 =>
 br (decide (n2 < 0)) (
 k (-1)) (
 k n2))
def F82 : T82 := P82 F138 F139
abbrev s82 : List (Bool × List CK) := [(true, [.sl 4 false, .sl 1 true]), (false, [.int .i64])]
def G82 (F : T82) (β : Type) (e : (List V × List V × Unit) × (Int × Unit) × Unit) (k : V → Option β) : Option β := F β e.1.1 e.1.2.1 e.2.1.1 (fun y1 => k (.int .i64 y1))
abbrev W82 (F : T82) : WT := wrap s82 (G82 F)
theorem k82 (F138 : T138) (F139 : T139) (β : Type) (e : argsT s82) (k : V → Option β) : fnK cfg (tabL [(138, W138 F138), (139, W139 F139)]) noX 82 Tryz.f82 β (argsEnc s82 e) k = G82 (P82 F138 F139 ) β e k := by kernel_rfl
theorem ok82 : FnOk D 82 (W82 F82) := fn_okW [(138, W138 F138), (139, W139 F139)] noX (fun _ => rfl) Tryz.func82 rfl (tabL_cons ok138 (tabL_cons ok139 tabL_nil)) (k82 F138 F139 )
abbrev T140 : Type 1 := (β : Type) → Int → List UInt8 → List UInt8 → List UInt8 → Int → Bool → Int → List UInt8 → Int → (Int → Option β) → Option β
def P140 (F78 : T78) : T140 := fun β a_Mode a_To_Host a_To_Path a_Digest a_Node a_Done a_Code a_Body left k =>
 F78 _ a_To_Host a_To_Path left fun n1 =>
 br (decide (n1 < 0)) (
 k (-1)) (
 br (decide (IntKind.wrap .i64 (n1 - (a_Digest.length : Int)) < 0)) (
 k (-1)) (
 br (decide (IntKind.wrap .i64 ((IntKind.wrap .i64 (n1 - (a_Digest.length : Int))) - (a_Body.length : Int)) < 0)) (
 k (-1)) (
 k (IntKind.wrap .i64 ((IntKind.wrap .i64 (n1 - (a_Digest.length : Int))) - (a_Body.length : Int))))))
def F140 : T140 := P140 F78
abbrev s140 : List (Bool × List CK) := [(true, [.int .i64, .str, .str, .str, .int .i64, .bool, .int .i64, .str]), (false, [.int .i64])]
def G140 (F : T140) (β : Type) (e : (Int × List UInt8 × List UInt8 × List UInt8 × Int × Bool × Int × List UInt8 × Unit) × (Int × Unit) × Unit) (k : V → Option β) : Option β := let a0_0 := e.1; let a0_1 := a0_0.2; let a0_2 := a0_1.2; let a0_3 := a0_2.2; let a0_4 := a0_3.2; let a0_5 := a0_4.2; let a0_6 := a0_5.2; let a0_7 := a0_6.2; F β a0_0.1 a0_1.1 a0_2.1 a0_3.1 a0_4.1 a0_5.1 a0_6.1 a0_7.1 e.2.1.1 (fun y1 => k (.int .i64 y1))
abbrev W140 (F : T140) : WT := wrap s140 (G140 F)
theorem k140 (F78 : T78) (β : Type) (e : argsT s140) (k : V → Option β) : fnK cfg (tabL [(78, W78 F78)]) noX 140 Tryz.f140 β (argsEnc s140 e) k = G140 (P140 F78 ) β e k := by kernel_rfl
theorem ok140 : FnOk D 140 (W140 F140) := fn_okW [(78, W78 F78)] noX (fun _ => rfl) Tryz.func140 rfl (tabL_cons ok78 tabL_nil) (k140 F78 )
abbrev T83 : Type 1 := (β : Type) → List V → Int → (Int → Option β) → Option β
def P83 (F140 : T140) : T83 := fun β a left k =>
 br (decide (IntKind.wrap .i64 (left - (a.length : Int)) < 0)) (
 k (-1)) (
 whileK (fun s1 =>
 br (decide ((lI s1 2) < ((lL s1 0).length : Int))) (
 chk (0 ≤ (lI s1 2)) <|
 idx true [.int .i64, .str, .str, .str, .int .i64, .bool, .int .i64, .str] (lL s1 0) ((lI s1 2).toNat) fun (e2 : Int × List UInt8 × List UInt8 × List UInt8 × Int × Bool × Int × List UInt8 × Unit) =>
 F140 _ e2.1 e2.2.1 e2.2.2.1 e2.2.2.2.1 e2.2.2.2.2.1 e2.2.2.2.2.2.1 e2.2.2.2.2.2.2.1 e2.2.2.2.2.2.2.2.1 (lI s1 1) fun n3 =>
 br (decide (n3 < 0)) (
 some (.inr (0, [.i n3, .i (-1)]))) (
 some (.inl [.l (lL s1 0), .i n3, .i (IntKind.wrap .i64 ((lI s1 2) + 1))]))) (
 some (.inr (1, [.i (lI s1 1)])))) [.l a, .i (IntKind.wrap .i64 (left - (a.length : Int))), .i 0] fun (r4 : Nat × List Leaf) =>
 if r4.1 = 0 then
 k (lI r4.2 1)
 else
 k (lI r4.2 0))
def F83 : T83 := P83 F140
def X83 : Exits := fun i => lookN i [] [(5, [(.ret, xk 27 [(1, .int .i64 0), (4, .int .i64 0)] []), (.exit 0, xk 27 [(1, .int .i64 0)] [])])]
abbrev s83 : List (Bool × List CK) := [(false, [.sl 8 true]), (false, [.int .i64])]
def G83 (F : T83) (β : Type) (e : (List V × Unit) × (Int × Unit) × Unit) (k : V → Option β) : Option β := F β e.1.1 e.2.1.1 (fun y1 => k (.int .i64 y1))
abbrev W83 (F : T83) : WT := wrap s83 (G83 F)
theorem k83 (F140 : T140) (β : Type) (e : argsT s83) (k : V → Option β) : fnK cfg (tabL [(140, W140 F140)]) X83 83 Tryz.f83 β (argsEnc s83 e) k = G83 (P83 F140 ) β e k := by kernel_rfl
theorem ok83 : FnOk D 83 (W83 F83) := fn_okW [(140, W140 F140)] X83 (fun _ => rfl) Tryz.func83 rfl (tabL_cons ok140 tabL_nil) (k83 F140 )
abbrev T141 : Type 1 := (β : Type) → List UInt8 → List UInt8 → Bool → Int → List UInt8 → Int → (Int → Option β) → Option β
def P141 (F78 : T78) : T141 := fun β a_To_Host a_To_Path a_Done a_Code a_Body left k =>
 F78 _ a_To_Host a_To_Path left fun n1 =>
 br (decide (n1 < 0)) (
 k (-1)) (
 br (decide (IntKind.wrap .i64 (n1 - (a_Body.length : Int)) < 0)) (
 k (-1)) (
 k (IntKind.wrap .i64 (n1 - (a_Body.length : Int)))))
def F141 : T141 := P141 F78
abbrev s141 : List (Bool × List CK) := [(true, [.str, .str, .bool, .int .i64, .str]), (false, [.int .i64])]
def G141 (F : T141) (β : Type) (e : (List UInt8 × List UInt8 × Bool × Int × List UInt8 × Unit) × (Int × Unit) × Unit) (k : V → Option β) : Option β := let a0_0 := e.1; let a0_1 := a0_0.2; let a0_2 := a0_1.2; let a0_3 := a0_2.2; let a0_4 := a0_3.2; F β a0_0.1 a0_1.1 a0_2.1 a0_3.1 a0_4.1 e.2.1.1 (fun y1 => k (.int .i64 y1))
abbrev W141 (F : T141) : WT := wrap s141 (G141 F)
theorem k141 (F78 : T78) (β : Type) (e : argsT s141) (k : V → Option β) : fnK cfg (tabL [(78, W78 F78)]) noX 141 Tryz.f141 β (argsEnc s141 e) k = G141 (P141 F78 ) β e k := by kernel_rfl
theorem ok141 : FnOk D 141 (W141 F141) := fn_okW [(78, W78 F78)] noX (fun _ => rfl) Tryz.func141 rfl (tabL_cons ok78 tabL_nil) (k141 F78 )
abbrev T84 : Type 1 := (β : Type) → List V → Int → (Int → Option β) → Option β
def P84 (F141 : T141) : T84 := fun β a left k =>
 br (decide (IntKind.wrap .i64 (left - (a.length : Int)) < 0)) (
 k (-1)) (
 whileK (fun s1 =>
 br (decide ((lI s1 2) < ((lL s1 0).length : Int))) (
 chk (0 ≤ (lI s1 2)) <|
 idx true [.str, .str, .bool, .int .i64, .str] (lL s1 0) ((lI s1 2).toNat) fun (e2 : List UInt8 × List UInt8 × Bool × Int × List UInt8 × Unit) =>
 F141 _ e2.1 e2.2.1 e2.2.2.1 e2.2.2.2.1 e2.2.2.2.2.1 (lI s1 1) fun n3 =>
 br (decide (n3 < 0)) (
 some (.inr (0, [.i n3, .i (-1)]))) (
 some (.inl [.l (lL s1 0), .i n3, .i (IntKind.wrap .i64 ((lI s1 2) + 1))]))) (
 some (.inr (1, [.i (lI s1 1)])))) [.l a, .i (IntKind.wrap .i64 (left - (a.length : Int))), .i 0] fun (r4 : Nat × List Leaf) =>
 if r4.1 = 0 then
 k (lI r4.2 1)
 else
 k (lI r4.2 0))
def F84 : T84 := P84 F141
def X84 : Exits := fun i => lookN i [] [(5, [(.ret, xk 27 [(1, .int .i64 0), (4, .int .i64 0)] []), (.exit 0, xk 27 [(1, .int .i64 0)] [])])]
abbrev s84 : List (Bool × List CK) := [(false, [.sl 5 true]), (false, [.int .i64])]
def G84 (F : T84) (β : Type) (e : (List V × Unit) × (Int × Unit) × Unit) (k : V → Option β) : Option β := F β e.1.1 e.2.1.1 (fun y1 => k (.int .i64 y1))
abbrev W84 (F : T84) : WT := wrap s84 (G84 F)
theorem k84 (F141 : T141) (β : Type) (e : argsT s84) (k : V → Option β) : fnK cfg (tabL [(141, W141 F141)]) X84 84 Tryz.f84 β (argsEnc s84 e) k = G84 (P84 F141 ) β e k := by kernel_rfl
theorem ok84 : FnOk D 84 (W84 F84) := fn_okW [(141, W141 F141)] X84 (fun _ => rfl) Tryz.func84 rfl (tabL_cons ok141 tabL_nil) (k84 F141 )
abbrev T85 : Type 1 := (β : Type) → List V → Int → (Int → Option β) → Option β
def P85 (F78 : T78) : T85 := fun β a left k =>
 br (decide (IntKind.wrap .i64 (left - (a.length : Int)) < 0)) (
 k (-1)) (
 whileK (fun s1 =>
 br (decide ((lI s1 2) < ((lL s1 0).length : Int))) (
 chk (0 ≤ (lI s1 2)) <|
 idx true [.str, .str] (lL s1 0) ((lI s1 2).toNat) fun (e2 : List UInt8 × List UInt8 × Unit) =>
 F78 _ e2.1 e2.2.1 (lI s1 1) fun n3 =>
 br (decide (n3 < 0)) (
 some (.inr (0, [.i n3, .i (-1)]))) (
 some (.inl [.l (lL s1 0), .i n3, .i (IntKind.wrap .i64 ((lI s1 2) + 1))]))) (
 some (.inr (1, [.i (lI s1 1)])))) [.l a, .i (IntKind.wrap .i64 (left - (a.length : Int))), .i 0] fun (r4 : Nat × List Leaf) =>
 if r4.1 = 0 then
 k (lI r4.2 1)
 else
 k (lI r4.2 0))
def F85 : T85 := P85 F78
def X85 : Exits := fun i => lookN i [] [(5, [(.ret, xk 27 [(1, .int .i64 0), (4, .int .i64 0)] []), (.exit 0, xk 27 [(1, .int .i64 0)] [])])]
abbrev s85 : List (Bool × List CK) := [(false, [.sl 2 true]), (false, [.int .i64])]
def G85 (F : T85) (β : Type) (e : (List V × Unit) × (Int × Unit) × Unit) (k : V → Option β) : Option β := F β e.1.1 e.2.1.1 (fun y1 => k (.int .i64 y1))
abbrev W85 (F : T85) : WT := wrap s85 (G85 F)
theorem k85 (F78 : T78) (β : Type) (e : argsT s85) (k : V → Option β) : fnK cfg (tabL [(78, W78 F78)]) X85 85 Tryz.f85 β (argsEnc s85 e) k = G85 (P85 F78 ) β e k := by kernel_rfl
theorem ok85 : FnOk D 85 (W85 F85) := fn_okW [(78, W78 F78)] X85 (fun _ => rfl) Tryz.func85 rfl (tabL_cons ok78 tabL_nil) (k85 F78 )
abbrev T37 : Type 1 := (β : Type) → List UInt8 → List UInt8 → Bool → List V → List V → List V → List UInt8 → List UInt8 → List V → Bool → List V → List V → List V → List V → List V → Int → Int → Int → Int → List V → List V → Bool → Int → (Int → Option β) → Option β
def P37 (F78 : T78) (F79 : T79) (F80 : T80) (F81 : T81) (F82 : T82) (F83 : T83) (F84 : T84) (F85 : T85) (F86 : T86) : T37 := fun β a_Addr_Host a_Addr_Path a_Policy_Set a_Policy_Scripts a_Policy_Styles a_Policy_Images a_Policy_Nonce a_Tok_Rest a_Queue a_Ended a_Builder_Nodes a_Builder_Open a_Slots a_Mods a_Entries a_Block a_Inline a_Deferred a_Entered a_Ran a_Log a_Loaded left k =>
 F78 _ a_Addr_Host a_Addr_Path left fun n1 =>
 br (decide (n1 < 0)) (
 k (-1)) (
 F79 _ a_Policy_Set a_Policy_Scripts a_Policy_Styles a_Policy_Images a_Policy_Nonce n1 fun n2 =>
 br (decide (n2 < 0)) (
 k (-1)) (
 F80 _ a_Tok_Rest n2 fun n3 =>
 br (decide (n3 < 0)) (
 k (-1)) (
 F81 _ a_Queue n3 fun n4 =>
 br (decide (n4 < 0)) (
 k (-1)) (
 F82 _ a_Builder_Nodes a_Builder_Open n4 fun n5 =>
 br (decide (n5 < 0)) (
 k (-1)) (
 F83 _ a_Slots n5 fun n6 =>
 br (decide (n6 < 0)) (
 k (-1)) (
 F84 _ a_Mods n6 fun n7 =>
 br (decide (n7 < 0)) (
 k (-1)) (
 F85 _ a_Entries n7 fun n8 =>
 br (decide (n8 < 0)) (
 k (-1)) (
 F85 _ a_Ran n8 fun n9 =>
 br (decide (n9 < 0)) (
 k (-1)) (
 F86 _ a_Log n9 fun n10 =>
 br (decide (n10 < 0)) (
 k (-1)) (
 k n10))))))))))
def F37 : T37 := P37 F78 F79 F80 F81 F82 F83 F84 F85 F86
abbrev s37 : List (Bool × List CK) := [(true, [.str, .str, .bool, .sl 1 true, .sl 1 true, .sl 1 true, .str, .str, .sl 4 false, .bool, .sl 4 false, .sl 1 true, .sl 8 true, .sl 5 true, .sl 2 true, .int .i64, .int .i64, .int .i64, .int .i64, .sl 2 true, .sl 1 true, .bool]), (false, [.int .i64])]
def G37 (F : T37) (β : Type) (e : (List UInt8 × List UInt8 × Bool × List V × List V × List V × List UInt8 × List UInt8 × List V × Bool × List V × List V × List V × List V × List V × Int × Int × Int × Int × List V × List V × Bool × Unit) × (Int × Unit) × Unit) (k : V → Option β) : Option β := let a0_0 := e.1; let a0_1 := a0_0.2; let a0_2 := a0_1.2; let a0_3 := a0_2.2; let a0_4 := a0_3.2; let a0_5 := a0_4.2; let a0_6 := a0_5.2; let a0_7 := a0_6.2; let a0_8 := a0_7.2; let a0_9 := a0_8.2; let a0_10 := a0_9.2; let a0_11 := a0_10.2; let a0_12 := a0_11.2; let a0_13 := a0_12.2; let a0_14 := a0_13.2; let a0_15 := a0_14.2; let a0_16 := a0_15.2; let a0_17 := a0_16.2; let a0_18 := a0_17.2; let a0_19 := a0_18.2; let a0_20 := a0_19.2; let a0_21 := a0_20.2; F β a0_0.1 a0_1.1 a0_2.1 a0_3.1 a0_4.1 a0_5.1 a0_6.1 a0_7.1 a0_8.1 a0_9.1 a0_10.1 a0_11.1 a0_12.1 a0_13.1 a0_14.1 a0_15.1 a0_16.1 a0_17.1 a0_18.1 a0_19.1 a0_20.1 a0_21.1 e.2.1.1 (fun y1 => k (.int .i64 y1))
abbrev W37 (F : T37) : WT := wrap s37 (G37 F)
theorem k37 (F78 : T78) (F79 : T79) (F80 : T80) (F81 : T81) (F82 : T82) (F83 : T83) (F84 : T84) (F85 : T85) (F86 : T86) (β : Type) (e : argsT s37) (k : V → Option β) : fnK cfg (tabL [(78, W78 F78), (79, W79 F79), (80, W80 F80), (81, W81 F81), (82, W82 F82), (83, W83 F83), (84, W84 F84), (85, W85 F85), (86, W86 F86)]) noX 37 Tryz.f37 β (argsEnc s37 e) k = G37 (P37 F78 F79 F80 F81 F82 F83 F84 F85 F86 ) β e k := by kernel_rfl
theorem ok37 : FnOk D 37 (W37 F37) := fn_okW [(78, W78 F78), (79, W79 F79), (80, W80 F80), (81, W81 F81), (82, W82 F82), (83, W83 F83), (84, W84 F84), (85, W85 F85), (86, W86 F86)] noX (fun _ => rfl) Tryz.func37 rfl (tabL_cons ok78 (tabL_cons ok79 (tabL_cons ok80 (tabL_cons ok81 (tabL_cons ok82 (tabL_cons ok83 (tabL_cons ok84 (tabL_cons ok85 (tabL_cons ok86 tabL_nil))))))))) (k37 F78 F79 F80 F81 F82 F83 F84 F85 F86 )
abbrev T77 : Type 1 := (β : Type) → List UInt8 → List UInt8 → List UInt8 → List UInt8 → Bool → List V → List V → List V → List UInt8 → List UInt8 → List V → Bool → List V → List V → List V → List V → List V → Int → Int → Int → Int → List V → List V → Bool → Bool → Int → (Int → Option β) → Option β
def P77 (F78 : T78) (F37 : T37) : T77 := fun β a_Addr_Host a_Addr_Path a_Page_Addr_Host a_Page_Addr_Path a_Page_Policy_Set a_Page_Policy_Scripts a_Page_Policy_Styles a_Page_Policy_Images a_Page_Policy_Nonce a_Page_Tok_Rest a_Page_Queue a_Page_Ended a_Page_Builder_Nodes a_Page_Builder_Open a_Page_Slots a_Page_Mods a_Page_Entries a_Page_Block a_Page_Inline a_Page_Deferred a_Page_Entered a_Page_Ran a_Page_Log a_Page_Loaded a_Kept left k =>
 F78 _ a_Addr_Host a_Addr_Path left fun n1 =>
 br (decide (n1 < 0)) (
 k (-1)) (
 F37 _ a_Page_Addr_Host a_Page_Addr_Path a_Page_Policy_Set a_Page_Policy_Scripts a_Page_Policy_Styles a_Page_Policy_Images a_Page_Policy_Nonce a_Page_Tok_Rest a_Page_Queue a_Page_Ended a_Page_Builder_Nodes a_Page_Builder_Open a_Page_Slots a_Page_Mods a_Page_Entries a_Page_Block a_Page_Inline a_Page_Deferred a_Page_Entered a_Page_Ran a_Page_Log a_Page_Loaded n1 fun n2 =>
 br (decide (n2 < 0)) (
 k (-1)) (
 k n2))
def F77 : T77 := P77 F78 F37
abbrev s77 : List (Bool × List CK) := [(true, [.str, .str, .str, .str, .bool, .sl 1 true, .sl 1 true, .sl 1 true, .str, .str, .sl 4 false, .bool, .sl 4 false, .sl 1 true, .sl 8 true, .sl 5 true, .sl 2 true, .int .i64, .int .i64, .int .i64, .int .i64, .sl 2 true, .sl 1 true, .bool, .bool]), (false, [.int .i64])]
def G77 (F : T77) (β : Type) (e : (List UInt8 × List UInt8 × List UInt8 × List UInt8 × Bool × List V × List V × List V × List UInt8 × List UInt8 × List V × Bool × List V × List V × List V × List V × List V × Int × Int × Int × Int × List V × List V × Bool × Bool × Unit) × (Int × Unit) × Unit) (k : V → Option β) : Option β := let a0_0 := e.1; let a0_1 := a0_0.2; let a0_2 := a0_1.2; let a0_3 := a0_2.2; let a0_4 := a0_3.2; let a0_5 := a0_4.2; let a0_6 := a0_5.2; let a0_7 := a0_6.2; let a0_8 := a0_7.2; let a0_9 := a0_8.2; let a0_10 := a0_9.2; let a0_11 := a0_10.2; let a0_12 := a0_11.2; let a0_13 := a0_12.2; let a0_14 := a0_13.2; let a0_15 := a0_14.2; let a0_16 := a0_15.2; let a0_17 := a0_16.2; let a0_18 := a0_17.2; let a0_19 := a0_18.2; let a0_20 := a0_19.2; let a0_21 := a0_20.2; let a0_22 := a0_21.2; let a0_23 := a0_22.2; let a0_24 := a0_23.2; F β a0_0.1 a0_1.1 a0_2.1 a0_3.1 a0_4.1 a0_5.1 a0_6.1 a0_7.1 a0_8.1 a0_9.1 a0_10.1 a0_11.1 a0_12.1 a0_13.1 a0_14.1 a0_15.1 a0_16.1 a0_17.1 a0_18.1 a0_19.1 a0_20.1 a0_21.1 a0_22.1 a0_23.1 a0_24.1 e.2.1.1 (fun y1 => k (.int .i64 y1))
abbrev W77 (F : T77) : WT := wrap s77 (G77 F)
theorem k77 (F78 : T78) (F37 : T37) (β : Type) (e : argsT s77) (k : V → Option β) : fnK cfg (tabL [(78, W78 F78), (37, W37 F37)]) noX 77 Tryz.f77 β (argsEnc s77 e) k = G77 (P77 F78 F37 ) β e k := by kernel_rfl
theorem ok77 : FnOk D 77 (W77 F77) := fn_okW [(78, W78 F78), (37, W37 F37)] noX (fun _ => rfl) Tryz.func77 rfl (tabL_cons ok78 (tabL_cons ok37 tabL_nil)) (k77 F78 F37 )
abbrev T36 : Type 1 := (β : Type) → List V → Int → (Int → Option β) → Option β
def P36 (F77 : T77) : T36 := fun β a left k =>
 br (decide (IntKind.wrap .i64 (left - (a.length : Int)) < 0)) (
 k (-1)) (
 whileK (fun s1 =>
 br (decide ((lI s1 2) < ((lL s1 0).length : Int))) (
 chk (0 ≤ (lI s1 2)) <|
 idx true [.str, .str, .str, .str, .bool, .sl 1 true, .sl 1 true, .sl 1 true, .str, .str, .sl 4 false, .bool, .sl 4 false, .sl 1 true, .sl 8 true, .sl 5 true, .sl 2 true, .int .i64, .int .i64, .int .i64, .int .i64, .sl 2 true, .sl 1 true, .bool, .bool] (lL s1 0) ((lI s1 2).toNat) fun (e2 : List UInt8 × List UInt8 × List UInt8 × List UInt8 × Bool × List V × List V × List V × List UInt8 × List UInt8 × List V × Bool × List V × List V × List V × List V × List V × Int × Int × Int × Int × List V × List V × Bool × Bool × Unit) =>
 F77 _ e2.1 e2.2.1 e2.2.2.1 e2.2.2.2.1 e2.2.2.2.2.1 e2.2.2.2.2.2.1 e2.2.2.2.2.2.2.1 e2.2.2.2.2.2.2.2.1 e2.2.2.2.2.2.2.2.2.1 e2.2.2.2.2.2.2.2.2.2.1 e2.2.2.2.2.2.2.2.2.2.2.1 e2.2.2.2.2.2.2.2.2.2.2.2.1 e2.2.2.2.2.2.2.2.2.2.2.2.2.1 e2.2.2.2.2.2.2.2.2.2.2.2.2.2.1 e2.2.2.2.2.2.2.2.2.2.2.2.2.2.2.1 e2.2.2.2.2.2.2.2.2.2.2.2.2.2.2.2.1 e2.2.2.2.2.2.2.2.2.2.2.2.2.2.2.2.2.1 e2.2.2.2.2.2.2.2.2.2.2.2.2.2.2.2.2.2.1 e2.2.2.2.2.2.2.2.2.2.2.2.2.2.2.2.2.2.2.1 e2.2.2.2.2.2.2.2.2.2.2.2.2.2.2.2.2.2.2.2.1 e2.2.2.2.2.2.2.2.2.2.2.2.2.2.2.2.2.2.2.2.2.1 e2.2.2.2.2.2.2.2.2.2.2.2.2.2.2.2.2.2.2.2.2.2.1 e2.2.2.2.2.2.2.2.2.2.2.2.2.2.2.2.2.2.2.2.2.2.2.1 e2.2.2.2.2.2.2.2.2.2.2.2.2.2.2.2.2.2.2.2.2.2.2.2.1 e2.2.2.2.2.2.2.2.2.2.2.2.2.2.2.2.2.2.2.2.2.2.2.2.2.1 (lI s1 1) fun n3 =>
 br (decide (n3 < 0)) (
 some (.inr (0, [.i n3, .i (-1)]))) (
 some (.inl [.l (lL s1 0), .i n3, .i (IntKind.wrap .i64 ((lI s1 2) + 1))]))) (
 some (.inr (1, [.i (lI s1 1)])))) [.l a, .i (IntKind.wrap .i64 (left - (a.length : Int))), .i 0] fun (r4 : Nat × List Leaf) =>
 if r4.1 = 0 then
 k (lI r4.2 1)
 else
 k (lI r4.2 0))
def F36 : T36 := P36 F77
def X36 : Exits := fun i => lookN i [] [(5, [(.ret, xk 27 [(1, .int .i64 0), (4, .int .i64 0)] []), (.exit 0, xk 27 [(1, .int .i64 0)] [])])]
abbrev s36 : List (Bool × List CK) := [(false, [.sl 25 false]), (false, [.int .i64])]
def G36 (F : T36) (β : Type) (e : (List V × Unit) × (Int × Unit) × Unit) (k : V → Option β) : Option β := F β e.1.1 e.2.1.1 (fun y1 => k (.int .i64 y1))
abbrev W36 (F : T36) : WT := wrap s36 (G36 F)
theorem k36 (F77 : T77) (β : Type) (e : argsT s36) (k : V → Option β) : fnK cfg (tabL [(77, W77 F77)]) X36 36 Tryz.f36 β (argsEnc s36 e) k = G36 (P36 F77 ) β e k := by kernel_rfl
theorem ok36 : FnOk D 36 (W36 F36) := fn_okW [(77, W77 F77)] X36 (fun _ => rfl) Tryz.func36 rfl (tabL_cons ok77 tabL_nil) (k36 F77 )
abbrev T13 : Type 1 := (β : Type) → List V → Int → Int → (Int → Option β) → Option β
def P13 (F36 : T36) : T13 := fun β a_Visits a_At left k =>
 F36 _ a_Visits left fun n1 =>
 br (decide (n1 < 0)) (
 k (-1)) (
 k n1)
def F13 : T13 := P13 F36
abbrev s13 : List (Bool × List CK) := [(true, [.sl 25 false, .int .i64]), (false, [.int .i64])]
def G13 (F : T13) (β : Type) (e : (List V × Int × Unit) × (Int × Unit) × Unit) (k : V → Option β) : Option β := F β e.1.1 e.1.2.1 e.2.1.1 (fun y1 => k (.int .i64 y1))
abbrev W13 (F : T13) : WT := wrap s13 (G13 F)
theorem k13 (F36 : T36) (β : Type) (e : argsT s13) (k : V → Option β) : fnK cfg (tabL [(36, W36 F36)]) noX 13 Tryz.f13 β (argsEnc s13 e) k = G13 (P13 F36 ) β e k := by kernel_rfl
theorem ok13 : FnOk D 13 (W13 F13) := fn_okW [(36, W36 F36)] noX (fun _ => rfl) Tryz.func13 rfl (tabL_cons ok36 tabL_nil) (k13 F36 )
abbrev T87 : Type 1 := (β : Type) → List UInt8 → List UInt8 → Int → Int → List UInt8 → Int → Bool → List UInt8 → Int → (Int → Option β) → Option β
def P87 (F78 : T78) (F142 : T142) : T87 := fun β a_To_Host a_To_Path a_Response_Status a_Response_Kind a_Response_Body a_Response_Age a_Response_Shares a_Response_Policy left k =>
 F78 _ a_To_Host a_To_Path left fun n1 =>
 br (decide (n1 < 0)) (
 k (-1)) (
 F142 _ a_Response_Status a_Response_Kind a_Response_Body a_Response_Age a_Response_Shares a_Response_Policy n1 fun n2 =>
 br (decide (n2 < 0)) (
 k (-1)) (
 k n2))
def F87 : T87 := P87 F78 F142
abbrev s87 : List (Bool × List CK) := [(true, [.str, .str, .int .i64, .int .i64, .str, .int .i64, .bool, .str]), (false, [.int .i64])]
def G87 (F : T87) (β : Type) (e : (List UInt8 × List UInt8 × Int × Int × List UInt8 × Int × Bool × List UInt8 × Unit) × (Int × Unit) × Unit) (k : V → Option β) : Option β := let a0_0 := e.1; let a0_1 := a0_0.2; let a0_2 := a0_1.2; let a0_3 := a0_2.2; let a0_4 := a0_3.2; let a0_5 := a0_4.2; let a0_6 := a0_5.2; let a0_7 := a0_6.2; F β a0_0.1 a0_1.1 a0_2.1 a0_3.1 a0_4.1 a0_5.1 a0_6.1 a0_7.1 e.2.1.1 (fun y1 => k (.int .i64 y1))
abbrev W87 (F : T87) : WT := wrap s87 (G87 F)
theorem k87 (F78 : T78) (F142 : T142) (β : Type) (e : argsT s87) (k : V → Option β) : fnK cfg (tabL [(78, W78 F78), (142, W142 F142)]) noX 87 Tryz.f87 β (argsEnc s87 e) k = G87 (P87 F78 F142 ) β e k := by kernel_rfl
theorem ok87 : FnOk D 87 (W87 F87) := fn_okW [(78, W78 F78), (142, W142 F142)] noX (fun _ => rfl) Tryz.func87 rfl (tabL_cons ok78 (tabL_cons ok142 tabL_nil)) (k87 F78 F142 )
abbrev T38 : Type 1 := (β : Type) → List V → Int → (Int → Option β) → Option β
def P38 (F87 : T87) : T38 := fun β a left k =>
 br (decide (IntKind.wrap .i64 (left - (a.length : Int)) < 0)) (
 k (-1)) (
 whileK (fun s1 =>
 br (decide ((lI s1 2) < ((lL s1 0).length : Int))) (
 chk (0 ≤ (lI s1 2)) <|
 idx true [.str, .str, .int .i64, .int .i64, .str, .int .i64, .bool, .str] (lL s1 0) ((lI s1 2).toNat) fun (e2 : List UInt8 × List UInt8 × Int × Int × List UInt8 × Int × Bool × List UInt8 × Unit) =>
 F87 _ e2.1 e2.2.1 e2.2.2.1 e2.2.2.2.1 e2.2.2.2.2.1 e2.2.2.2.2.2.1 e2.2.2.2.2.2.2.1 e2.2.2.2.2.2.2.2.1 (lI s1 1) fun n3 =>
 br (decide (n3 < 0)) (
 some (.inr (0, [.i n3, .i (-1)]))) (
 some (.inl [.l (lL s1 0), .i n3, .i (IntKind.wrap .i64 ((lI s1 2) + 1))]))) (
 some (.inr (1, [.i (lI s1 1)])))) [.l a, .i (IntKind.wrap .i64 (left - (a.length : Int))), .i 0] fun (r4 : Nat × List Leaf) =>
 if r4.1 = 0 then
 k (lI r4.2 1)
 else
 k (lI r4.2 0))
def F38 : T38 := P38 F87
def X38 : Exits := fun i => lookN i [] [(5, [(.ret, xk 27 [(1, .int .i64 0), (4, .int .i64 0)] []), (.exit 0, xk 27 [(1, .int .i64 0)] [])])]
abbrev s38 : List (Bool × List CK) := [(false, [.sl 8 true]), (false, [.int .i64])]
def G38 (F : T38) (β : Type) (e : (List V × Unit) × (Int × Unit) × Unit) (k : V → Option β) : Option β := F β e.1.1 e.2.1.1 (fun y1 => k (.int .i64 y1))
abbrev W38 (F : T38) : WT := wrap s38 (G38 F)
theorem k38 (F87 : T87) (β : Type) (e : argsT s38) (k : V → Option β) : fnK cfg (tabL [(87, W87 F87)]) X38 38 Tryz.f38 β (argsEnc s38 e) k = G38 (P38 F87 ) β e k := by kernel_rfl
theorem ok38 : FnOk D 38 (W38 F38) := fn_okW [(87, W87 F87)] X38 (fun _ => rfl) Tryz.func38 rfl (tabL_cons ok87 tabL_nil) (k38 F87 )
abbrev T14 : Type 1 := (β : Type) → Bool → List UInt8 → List UInt8 → Bool → List V → List V → List V → List UInt8 → List UInt8 → List V → Bool → List V → List V → List V → List V → List V → Int → Int → Int → Int → List V → List V → Bool → List V → List V → Int → Int → (Int → Option β) → Option β
def P14 (F37 : T37) (F38 : T38) (F33 : T33) : T14 := fun β a_Ready a_Page_Addr_Host a_Page_Addr_Path a_Page_Policy_Set a_Page_Policy_Scripts a_Page_Policy_Styles a_Page_Policy_Images a_Page_Policy_Nonce a_Page_Tok_Rest a_Page_Queue a_Page_Ended a_Page_Builder_Nodes a_Page_Builder_Open a_Page_Slots a_Page_Mods a_Page_Entries a_Page_Block a_Page_Inline a_Page_Deferred a_Page_Entered a_Page_Ran a_Page_Log a_Page_Loaded a_Taken a_Servers a_Now left k =>
 F37 _ a_Page_Addr_Host a_Page_Addr_Path a_Page_Policy_Set a_Page_Policy_Scripts a_Page_Policy_Styles a_Page_Policy_Images a_Page_Policy_Nonce a_Page_Tok_Rest a_Page_Queue a_Page_Ended a_Page_Builder_Nodes a_Page_Builder_Open a_Page_Slots a_Page_Mods a_Page_Entries a_Page_Block a_Page_Inline a_Page_Deferred a_Page_Entered a_Page_Ran a_Page_Log a_Page_Loaded left fun n1 =>
 br (decide (n1 < 0)) (
 k (-1)) (
 F38 _ a_Taken n1 fun n2 =>
 br (decide (n2 < 0)) (
 k (-1)) (
 F33 _ a_Servers n2 fun n3 =>
 br (decide (n3 < 0)) (
 k (-1)) (
 k n3)))
def F14 : T14 := P14 F37 F38 F33
abbrev s14 : List (Bool × List CK) := [(true, [.bool, .str, .str, .bool, .sl 1 true, .sl 1 true, .sl 1 true, .str, .str, .sl 4 false, .bool, .sl 4 false, .sl 1 true, .sl 8 true, .sl 5 true, .sl 2 true, .int .i64, .int .i64, .int .i64, .int .i64, .sl 2 true, .sl 1 true, .bool, .sl 8 true, .sl 2 false, .int .i64]), (false, [.int .i64])]
def G14 (F : T14) (β : Type) (e : (Bool × List UInt8 × List UInt8 × Bool × List V × List V × List V × List UInt8 × List UInt8 × List V × Bool × List V × List V × List V × List V × List V × Int × Int × Int × Int × List V × List V × Bool × List V × List V × Int × Unit) × (Int × Unit) × Unit) (k : V → Option β) : Option β := let a0_0 := e.1; let a0_1 := a0_0.2; let a0_2 := a0_1.2; let a0_3 := a0_2.2; let a0_4 := a0_3.2; let a0_5 := a0_4.2; let a0_6 := a0_5.2; let a0_7 := a0_6.2; let a0_8 := a0_7.2; let a0_9 := a0_8.2; let a0_10 := a0_9.2; let a0_11 := a0_10.2; let a0_12 := a0_11.2; let a0_13 := a0_12.2; let a0_14 := a0_13.2; let a0_15 := a0_14.2; let a0_16 := a0_15.2; let a0_17 := a0_16.2; let a0_18 := a0_17.2; let a0_19 := a0_18.2; let a0_20 := a0_19.2; let a0_21 := a0_20.2; let a0_22 := a0_21.2; let a0_23 := a0_22.2; let a0_24 := a0_23.2; let a0_25 := a0_24.2; F β a0_0.1 a0_1.1 a0_2.1 a0_3.1 a0_4.1 a0_5.1 a0_6.1 a0_7.1 a0_8.1 a0_9.1 a0_10.1 a0_11.1 a0_12.1 a0_13.1 a0_14.1 a0_15.1 a0_16.1 a0_17.1 a0_18.1 a0_19.1 a0_20.1 a0_21.1 a0_22.1 a0_23.1 a0_24.1 a0_25.1 e.2.1.1 (fun y1 => k (.int .i64 y1))
abbrev W14 (F : T14) : WT := wrap s14 (G14 F)
theorem k14 (F37 : T37) (F38 : T38) (F33 : T33) (β : Type) (e : argsT s14) (k : V → Option β) : fnK cfg (tabL [(37, W37 F37), (38, W38 F38), (33, W33 F33)]) noX 14 Tryz.f14 β (argsEnc s14 e) k = G14 (P14 F37 F38 F33 ) β e k := by kernel_rfl
theorem ok14 : FnOk D 14 (W14 F14) := fn_okW [(37, W37 F37), (38, W38 F38), (33, W33 F33)] noX (fun _ => rfl) Tryz.func14 rfl (tabL_cons ok37 (tabL_cons ok38 (tabL_cons ok33 tabL_nil))) (k14 F37 F38 F33 )
abbrev T5 : Type 1 := (β : Type) → List V → List V → List V → Int → List V → Int → Bool → List UInt8 → List UInt8 → Bool → List V → List V → List V → List UInt8 → List UInt8 → List V → Bool → List V → List V → List V → List V → List V → Int → Int → Int → Int → List V → List V → Bool → List V → List V → Int → Bool → Int → (Int → Option β) → Option β
def P5 (F12 : T12) (F13 : T13) (F14 : T14) : T5 := fun β a_Net_Servers a_Net_Cache_Entries a_Net_Log a_Net_Now a_Tab_Visits a_Tab_At a_Hidden_Ready a_Hidden_Page_Addr_Host a_Hidden_Page_Addr_Path a_Hidden_Page_Policy_Set a_Hidden_Page_Policy_Scripts a_Hidden_Page_Policy_Styles a_Hidden_Page_Policy_Images a_Hidden_Page_Policy_Nonce a_Hidden_Page_Tok_Rest a_Hidden_Page_Queue a_Hidden_Page_Ended a_Hidden_Page_Builder_Nodes a_Hidden_Page_Builder_Open a_Hidden_Page_Slots a_Hidden_Page_Mods a_Hidden_Page_Entries a_Hidden_Page_Block a_Hidden_Page_Inline a_Hidden_Page_Deferred a_Hidden_Page_Entered a_Hidden_Page_Ran a_Hidden_Page_Log a_Hidden_Page_Loaded a_Hidden_Taken a_Hidden_Servers a_Hidden_Now a_Fast left k =>
 F12 _ a_Net_Servers a_Net_Cache_Entries a_Net_Log a_Net_Now left fun n1 =>
 br (decide (n1 < 0)) (
 k (-1)) (
 F13 _ a_Tab_Visits a_Tab_At n1 fun n2 =>
 br (decide (n2 < 0)) (
 k (-1)) (
 F14 _ a_Hidden_Ready a_Hidden_Page_Addr_Host a_Hidden_Page_Addr_Path a_Hidden_Page_Policy_Set a_Hidden_Page_Policy_Scripts a_Hidden_Page_Policy_Styles a_Hidden_Page_Policy_Images a_Hidden_Page_Policy_Nonce a_Hidden_Page_Tok_Rest a_Hidden_Page_Queue a_Hidden_Page_Ended a_Hidden_Page_Builder_Nodes a_Hidden_Page_Builder_Open a_Hidden_Page_Slots a_Hidden_Page_Mods a_Hidden_Page_Entries a_Hidden_Page_Block a_Hidden_Page_Inline a_Hidden_Page_Deferred a_Hidden_Page_Entered a_Hidden_Page_Ran a_Hidden_Page_Log a_Hidden_Page_Loaded a_Hidden_Taken a_Hidden_Servers a_Hidden_Now n2 fun n3 =>
 br (decide (n3 < 0)) (
 k (-1)) (
 k n3)))
def F5 : T5 := P5 F12 F13 F14
abbrev s5 : List (Bool × List CK) := [(true, [.sl 2 false, .sl 10 true, .sl 4 true, .int .i64, .sl 25 false, .int .i64, .bool, .str, .str, .bool, .sl 1 true, .sl 1 true, .sl 1 true, .str, .str, .sl 4 false, .bool, .sl 4 false, .sl 1 true, .sl 8 true, .sl 5 true, .sl 2 true, .int .i64, .int .i64, .int .i64, .int .i64, .sl 2 true, .sl 1 true, .bool, .sl 8 true, .sl 2 false, .int .i64, .bool]), (false, [.int .i64])]
def G5 (F : T5) (β : Type) (e : (List V × List V × List V × Int × List V × Int × Bool × List UInt8 × List UInt8 × Bool × List V × List V × List V × List UInt8 × List UInt8 × List V × Bool × List V × List V × List V × List V × List V × Int × Int × Int × Int × List V × List V × Bool × List V × List V × Int × Bool × Unit) × (Int × Unit) × Unit) (k : V → Option β) : Option β := let a0_0 := e.1; let a0_1 := a0_0.2; let a0_2 := a0_1.2; let a0_3 := a0_2.2; let a0_4 := a0_3.2; let a0_5 := a0_4.2; let a0_6 := a0_5.2; let a0_7 := a0_6.2; let a0_8 := a0_7.2; let a0_9 := a0_8.2; let a0_10 := a0_9.2; let a0_11 := a0_10.2; let a0_12 := a0_11.2; let a0_13 := a0_12.2; let a0_14 := a0_13.2; let a0_15 := a0_14.2; let a0_16 := a0_15.2; let a0_17 := a0_16.2; let a0_18 := a0_17.2; let a0_19 := a0_18.2; let a0_20 := a0_19.2; let a0_21 := a0_20.2; let a0_22 := a0_21.2; let a0_23 := a0_22.2; let a0_24 := a0_23.2; let a0_25 := a0_24.2; let a0_26 := a0_25.2; let a0_27 := a0_26.2; let a0_28 := a0_27.2; let a0_29 := a0_28.2; let a0_30 := a0_29.2; let a0_31 := a0_30.2; let a0_32 := a0_31.2; F β a0_0.1 a0_1.1 a0_2.1 a0_3.1 a0_4.1 a0_5.1 a0_6.1 a0_7.1 a0_8.1 a0_9.1 a0_10.1 a0_11.1 a0_12.1 a0_13.1 a0_14.1 a0_15.1 a0_16.1 a0_17.1 a0_18.1 a0_19.1 a0_20.1 a0_21.1 a0_22.1 a0_23.1 a0_24.1 a0_25.1 a0_26.1 a0_27.1 a0_28.1 a0_29.1 a0_30.1 a0_31.1 a0_32.1 e.2.1.1 (fun y1 => k (.int .i64 y1))
abbrev W5 (F : T5) : WT := wrap s5 (G5 F)
theorem k5 (F12 : T12) (F13 : T13) (F14 : T14) (β : Type) (e : argsT s5) (k : V → Option β) : fnK cfg (tabL [(12, W12 F12), (13, W13 F13), (14, W14 F14)]) noX 5 Tryz.f5 β (argsEnc s5 e) k = G5 (P5 F12 F13 F14 ) β e k := by kernel_rfl
theorem ok5 : FnOk D 5 (W5 F5) := fn_okW [(12, W12 F12), (13, W13 F13), (14, W14 F14)] noX (fun _ => rfl) Tryz.func5 rfl (tabL_cons ok12 (tabL_cons ok13 (tabL_cons ok14 tabL_nil))) (k5 F12 F13 F14 )
abbrev T151 : Type 1 := (β : Type) → Int → Int → List UInt8 → Int → Bool → List UInt8 → (Int → Int → List UInt8 → Int → Bool → List UInt8 → Option β) → Option β
def P151 : T151 := fun β a_Status a_Kind a_Body a_Age a_Shares a_Policy k =>
 k a_Status a_Kind a_Body a_Age a_Shares a_Policy
def F151 : T151 := P151
abbrev s151 : List (Bool × List CK) := [(true, [.int .i64, .int .i64, .str, .int .i64, .bool, .str])]
def G151 (F : T151) (β : Type) (e : (Int × Int × List UInt8 × Int × Bool × List UInt8 × Unit) × Unit) (k : V → Option β) : Option β := let a0_0 := e.1; let a0_1 := a0_0.2; let a0_2 := a0_1.2; let a0_3 := a0_2.2; let a0_4 := a0_3.2; let a0_5 := a0_4.2; F β a0_0.1 a0_1.1 a0_2.1 a0_3.1 a0_4.1 a0_5.1 (fun y1 y2 y3 y4 y5 y6 => k (.agg [.int .i64 y1, .int .i64 y2, .str y3, .int .i64 y4, .bool y5, .str y6]))
abbrev W151 (F : T151) : WT := wrap s151 (G151 F)
theorem k151 (β : Type) (e : argsT s151) (k : V → Option β) : fnK cfg (tabL []) noX 151 Tryz.f151 β (argsEnc s151 e) k = G151 (P151 ) β e k := by kernel_rfl
theorem ok151 : FnOk D 151 (W151 F151) := fn_okW [] noX (fun _ => rfl) Tryz.func151 rfl (tabL_nil) (k151 )
abbrev T175 : Type 1 := (β : Type) → List UInt8 → Int → Int → List UInt8 → Int → Bool → List UInt8 → (List UInt8 → Int → Int → List UInt8 → Int → Bool → List UInt8 → Option β) → Option β
def P175 (F151 : T151) : T175 := fun β a_Path a_Response_Status a_Response_Kind a_Response_Body a_Response_Age a_Response_Shares a_Response_Policy k =>
 F151 _ a_Response_Status a_Response_Kind a_Response_Body a_Response_Age a_Response_Shares a_Response_Policy fun n1 n2 t3 n4 b5 t6 =>
 k a_Path n1 n2 t3 n4 b5 t6
def F175 : T175 := P175 F151
abbrev s175 : List (Bool × List CK) := [(true, [.str, .int .i64, .int .i64, .str, .int .i64, .bool, .str])]
def G175 (F : T175) (β : Type) (e : (List UInt8 × Int × Int × List UInt8 × Int × Bool × List UInt8 × Unit) × Unit) (k : V → Option β) : Option β := let a0_0 := e.1; let a0_1 := a0_0.2; let a0_2 := a0_1.2; let a0_3 := a0_2.2; let a0_4 := a0_3.2; let a0_5 := a0_4.2; let a0_6 := a0_5.2; F β a0_0.1 a0_1.1 a0_2.1 a0_3.1 a0_4.1 a0_5.1 a0_6.1 (fun y1 y2 y3 y4 y5 y6 y7 => k (.agg [.str y1, .int .i64 y2, .int .i64 y3, .str y4, .int .i64 y5, .bool y6, .str y7]))
abbrev W175 (F : T175) : WT := wrap s175 (G175 F)
theorem k175 (F151 : T151) (β : Type) (e : argsT s175) (k : V → Option β) : fnK cfg (tabL [(151, W151 F151)]) noX 175 Tryz.f175 β (argsEnc s175 e) k = G175 (P175 F151 ) β e k := by kernel_rfl
theorem ok175 : FnOk D 175 (W175 F175) := fn_okW [(151, W151 F151)] noX (fun _ => rfl) Tryz.func175 rfl (tabL_cons ok151 tabL_nil) (k175 F151 )
abbrev T144 : Type 1 := (β : Type) → List V → (List V → Option β) → Option β
def P144 (F175 : T175) : T144 := fun β a k =>
 chk (0 ≤ (a.length : Int) ∧ (a.length : Int) ≤ (a.length : Int) ∧ (a.length : Int) * 80 ≤ 140737488355328 ∧ (a.length : Int) ≤ 140737488355328) <|
 whileK (fun s1 =>
 br (decide ((lI s1 2) < ((lL s1 0).length : Int))) (
 chk (0 ≤ (lI s1 2)) <|
 idx true [.str, .int .i64, .int .i64, .str, .int .i64, .bool, .str] (lL s1 0) ((lI s1 2).toNat) fun (e2 : List UInt8 × Int × Int × List UInt8 × Int × Bool × List UInt8 × Unit) =>
 F175 _ e2.1 e2.2.1 e2.2.2.1 e2.2.2.2.1 e2.2.2.2.2.1 e2.2.2.2.2.2.1 e2.2.2.2.2.2.2.1 fun t3 n4 n5 t6 n7 b8 t9 =>
 chk (0 ≤ (lI s1 2) ∧ (lI s1 2).toNat < (lL s1 1).length) <|
 storeO (lL s1 1) ((lI s1 2).toNat) 0 [.str t3, .int .i64 n4, .int .i64 n5, .str t6, .int .i64 n7, .bool b8, .str t9] fun l10 =>
 some (.inl [.l (lL s1 0), .l l10, .i (IntKind.wrap .i64 ((lI s1 2) + 1))])) (
 some (.inr (0, [.l (lL s1 1)])))) [.l a, .l (List.replicate ((a.length : Int).toNat) (.agg [.str [], .int .i64 0, .int .i64 0, .str [], .int .i64 0, .bool false, .str []])), .i 0] fun (r11 : Nat × List Leaf) =>
 k (lL r11.2 0)
def F144 : T144 := P144 F175
def X144 : Exits := fun i => lookN i [] [(3, [(.exit 0, xk 23 [(3, .own 1000000 7 .flat [])] [])])]
abbrev s144 : List (Bool × List CK) := [(false, [.sl 7 true])]
def G144 (F : T144) (β : Type) (e : (List V × Unit) × Unit) (k : V → Option β) : Option β := F β e.1.1 (fun y1 => k (.own 0 7 .flat y1))
abbrev W144 (F : T144) : WT := wrap s144 (G144 F)
theorem k144 (F175 : T175) (β : Type) (e : argsT s144) (k : V → Option β) : fnK cfg (tabL [(175, W175 F175)]) X144 144 Tryz.f144 β (argsEnc s144 e) k = G144 (P144 F175 ) β e k := by kernel_rfl
theorem ok144 : FnOk D 144 (W144 F144) := fn_okW [(175, W175 F175)] X144 (fun _ => rfl) Tryz.func144 rfl (tabL_cons ok175 tabL_nil) (k144 F175 )
abbrev T94 : Type 1 := (β : Type) → List UInt8 → List V → (List UInt8 → List V → Option β) → Option β
def P94 (F144 : T144) : T94 := fun β a_Host a_Files k =>
 F144 _ a_Files fun l1 =>
 k a_Host l1
def F94 : T94 := P94 F144
abbrev s94 : List (Bool × List CK) := [(true, [.str, .sl 7 true])]
def G94 (F : T94) (β : Type) (e : (List UInt8 × List V × Unit) × Unit) (k : V → Option β) : Option β := F β e.1.1 e.1.2.1 (fun y1 y2 => k (.agg [.str y1, .own 1 7 .flat y2]))
abbrev W94 (F : T94) : WT := wrap s94 (G94 F)
theorem k94 (F144 : T144) (β : Type) (e : argsT s94) (k : V → Option β) : fnK cfg (tabL [(144, W144 F144)]) noX 94 Tryz.f94 β (argsEnc s94 e) k = G94 (P94 F144 ) β e k := by kernel_rfl
theorem ok94 : FnOk D 94 (W94 F94) := fn_okW [(144, W144 F144)] noX (fun _ => rfl) Tryz.func94 rfl (tabL_cons ok144 tabL_nil) (k94 F144 )
abbrev T42 : Type 1 := (β : Type) → List V → (List V → Option β) → Option β
def P42 (F94 : T94) : T42 := fun β a k =>
 chk (0 ≤ (a.length : Int) ∧ (a.length : Int) ≤ (a.length : Int) ∧ (a.length : Int) * 40 ≤ 140737488355328 ∧ (a.length : Int) ≤ 140737488355328) <|
 whileK (fun s1 =>
 br (decide ((lI s1 2) < ((lL s1 0).length : Int))) (
 chk (0 ≤ (lI s1 2)) <|
 idx true [.str, .sl 7 true] (lL s1 0) ((lI s1 2).toNat) fun (e2 : List UInt8 × List V × Unit) =>
 F94 _ e2.1 e2.2.1 fun t3 l4 =>
 chk (0 ≤ (lI s1 2) ∧ (lI s1 2).toNat < (lL s1 1).length) <|
 storeO (lL s1 1) ((lI s1 2).toNat) 0 [.str t3, .sl 7 true l4] fun l5 =>
 some (.inl [.l (lL s1 0), .l l5, .i (IntKind.wrap .i64 ((lI s1 2) + 1))])) (
 some (.inr (0, [.l (lL s1 1)])))) [.l a, .l (List.replicate ((a.length : Int).toNat) (.agg [.str [], .sl 7 true []])), .i 0] fun (r6 : Nat × List Leaf) =>
 k (lL r6.2 0)
def F42 : T42 := P42 F94
def X42 : Exits := fun i => lookN i [] [(3, [(.exit 0, xk 23 [(3, .own 1000000 2 .clean [])] [])])]
abbrev s42 : List (Bool × List CK) := [(false, [.sl 2 false])]
def G42 (F : T42) (β : Type) (e : (List V × Unit) × Unit) (k : V → Option β) : Option β := F β e.1.1 (fun y1 => k (.own 0 2 .clean y1))
abbrev W42 (F : T42) : WT := wrap s42 (G42 F)
theorem k42 (F94 : T94) (β : Type) (e : argsT s42) (k : V → Option β) : fnK cfg (tabL [(94, W94 F94)]) X42 42 Tryz.f42 β (argsEnc s42 e) k = G42 (P42 F94 ) β e k := by kernel_rfl
theorem ok42 : FnOk D 42 (W42 F42) := fn_okW [(94, W94 F94)] X42 (fun _ => rfl) Tryz.func42 rfl (tabL_cons ok94 tabL_nil) (k42 F94 )
abbrev T98 : Type 1 := (β : Type) → List UInt8 → List UInt8 → (List UInt8 → List UInt8 → Option β) → Option β
def P98 : T98 := fun β a_Host a_Path k =>
 k a_Host a_Path
def F98 : T98 := P98
abbrev s98 : List (Bool × List CK) := [(true, [.str, .str])]
def G98 (F : T98) (β : Type) (e : (List UInt8 × List UInt8 × Unit) × Unit) (k : V → Option β) : Option β := F β e.1.1 e.1.2.1 (fun y1 y2 => k (.agg [.str y1, .str y2]))
abbrev W98 (F : T98) : WT := wrap s98 (G98 F)
theorem k98 (β : Type) (e : argsT s98) (k : V → Option β) : fnK cfg (tabL []) noX 98 Tryz.f98 β (argsEnc s98 e) k = G98 (P98 ) β e k := by kernel_rfl
theorem ok98 : FnOk D 98 (W98 F98) := fn_okW [] noX (fun _ => rfl) Tryz.func98 rfl (tabL_nil) (k98 )
abbrev T145 : Type 1 := (β : Type) → List UInt8 → List UInt8 → List UInt8 → Int → Int → List UInt8 → Int → Bool → List UInt8 → Int → (List UInt8 → List UInt8 → List UInt8 → Int → Int → List UInt8 → Int → Bool → List UInt8 → Int → Option β) → Option β
def P145 (F98 : T98) (F151 : T151) : T145 := fun β a_Top a_To_Host a_To_Path a_Response_Status a_Response_Kind a_Response_Body a_Response_Age a_Response_Shares a_Response_Policy a_Until k =>
 F98 _ a_To_Host a_To_Path fun t1 t2 =>
 F151 _ a_Response_Status a_Response_Kind a_Response_Body a_Response_Age a_Response_Shares a_Response_Policy fun n3 n4 t5 n6 b7 t8 =>
 k a_Top t1 t2 n3 n4 t5 n6 b7 t8 a_Until
def F145 : T145 := P145 F98 F151
abbrev s145 : List (Bool × List CK) := [(true, [.str, .str, .str, .int .i64, .int .i64, .str, .int .i64, .bool, .str, .int .i64])]
def G145 (F : T145) (β : Type) (e : (List UInt8 × List UInt8 × List UInt8 × Int × Int × List UInt8 × Int × Bool × List UInt8 × Int × Unit) × Unit) (k : V → Option β) : Option β := let a0_0 := e.1; let a0_1 := a0_0.2; let a0_2 := a0_1.2; let a0_3 := a0_2.2; let a0_4 := a0_3.2; let a0_5 := a0_4.2; let a0_6 := a0_5.2; let a0_7 := a0_6.2; let a0_8 := a0_7.2; let a0_9 := a0_8.2; F β a0_0.1 a0_1.1 a0_2.1 a0_3.1 a0_4.1 a0_5.1 a0_6.1 a0_7.1 a0_8.1 a0_9.1 (fun y1 y2 y3 y4 y5 y6 y7 y8 y9 y10 => k (.agg [.str y1, .str y2, .str y3, .int .i64 y4, .int .i64 y5, .str y6, .int .i64 y7, .bool y8, .str y9, .int .i64 y10]))
abbrev W145 (F : T145) : WT := wrap s145 (G145 F)
theorem k145 (F98 : T98) (F151 : T151) (β : Type) (e : argsT s145) (k : V → Option β) : fnK cfg (tabL [(98, W98 F98), (151, W151 F151)]) noX 145 Tryz.f145 β (argsEnc s145 e) k = G145 (P145 F98 F151 ) β e k := by kernel_rfl
theorem ok145 : FnOk D 145 (W145 F145) := fn_okW [(98, W98 F98), (151, W151 F151)] noX (fun _ => rfl) Tryz.func145 rfl (tabL_cons ok98 (tabL_cons ok151 tabL_nil)) (k145 F98 F151 )
abbrev T95 : Type 1 := (β : Type) → List V → (List V → Option β) → Option β
def P95 (F145 : T145) : T95 := fun β a k =>
 chk (0 ≤ (a.length : Int) ∧ (a.length : Int) ≤ (a.length : Int) ∧ (a.length : Int) * 120 ≤ 140737488355328 ∧ (a.length : Int) ≤ 140737488355328) <|
 whileK (fun s1 =>
 br (decide ((lI s1 2) < ((lL s1 0).length : Int))) (
 chk (0 ≤ (lI s1 2)) <|
 idx true [.str, .str, .str, .int .i64, .int .i64, .str, .int .i64, .bool, .str, .int .i64] (lL s1 0) ((lI s1 2).toNat) fun (e2 : List UInt8 × List UInt8 × List UInt8 × Int × Int × List UInt8 × Int × Bool × List UInt8 × Int × Unit) =>
 F145 _ e2.1 e2.2.1 e2.2.2.1 e2.2.2.2.1 e2.2.2.2.2.1 e2.2.2.2.2.2.1 e2.2.2.2.2.2.2.1 e2.2.2.2.2.2.2.2.1 e2.2.2.2.2.2.2.2.2.1 e2.2.2.2.2.2.2.2.2.2.1 fun t3 t4 t5 n6 n7 t8 n9 b10 t11 n12 =>
 chk (0 ≤ (lI s1 2) ∧ (lI s1 2).toNat < (lL s1 1).length) <|
 storeO (lL s1 1) ((lI s1 2).toNat) 0 [.str t3, .str t4, .str t5, .int .i64 n6, .int .i64 n7, .str t8, .int .i64 n9, .bool b10, .str t11, .int .i64 n12] fun l13 =>
 some (.inl [.l (lL s1 0), .l l13, .i (IntKind.wrap .i64 ((lI s1 2) + 1))])) (
 some (.inr (0, [.l (lL s1 1)])))) [.l a, .l (List.replicate ((a.length : Int).toNat) (.agg [.str [], .str [], .str [], .int .i64 0, .int .i64 0, .str [], .int .i64 0, .bool false, .str [], .int .i64 0])), .i 0] fun (r14 : Nat × List Leaf) =>
 k (lL r14.2 0)
def F95 : T95 := P95 F145
def X95 : Exits := fun i => lookN i [] [(3, [(.exit 0, xk 23 [(3, .own 1000000 10 .flat [])] [])])]
abbrev s95 : List (Bool × List CK) := [(false, [.sl 10 true])]
def G95 (F : T95) (β : Type) (e : (List V × Unit) × Unit) (k : V → Option β) : Option β := F β e.1.1 (fun y1 => k (.own 0 10 .flat y1))
abbrev W95 (F : T95) : WT := wrap s95 (G95 F)
theorem k95 (F145 : T145) (β : Type) (e : argsT s95) (k : V → Option β) : fnK cfg (tabL [(145, W145 F145)]) X95 95 Tryz.f95 β (argsEnc s95 e) k = G95 (P95 F145 ) β e k := by kernel_rfl
theorem ok95 : FnOk D 95 (W95 F95) := fn_okW [(145, W145 F145)] X95 (fun _ => rfl) Tryz.func95 rfl (tabL_cons ok145 tabL_nil) (k95 F145 )
abbrev T43 : Type 1 := (β : Type) → List V → (List V → Option β) → Option β
def P43 (F95 : T95) : T43 := fun β a_Entries k =>
 F95 _ a_Entries fun l1 =>
 k l1
def F43 : T43 := P43 F95
abbrev s43 : List (Bool × List CK) := [(true, [.sl 10 true])]
def G43 (F : T43) (β : Type) (e : (List V × Unit) × Unit) (k : V → Option β) : Option β := F β e.1.1 (fun y1 => k (.agg [.own 0 10 .flat y1]))
abbrev W43 (F : T43) : WT := wrap s43 (G43 F)
theorem k43 (F95 : T95) (β : Type) (e : argsT s43) (k : V → Option β) : fnK cfg (tabL [(95, W95 F95)]) noX 43 Tryz.f43 β (argsEnc s43 e) k = G43 (P43 F95 ) β e k := by kernel_rfl
theorem ok43 : FnOk D 43 (W43 F43) := fn_okW [(95, W95 F95)] noX (fun _ => rfl) Tryz.func43 rfl (tabL_cons ok95 tabL_nil) (k43 F95 )
abbrev T96 : Type 1 := (β : Type) → List UInt8 → List UInt8 → List UInt8 → Bool → (List UInt8 → List UInt8 → List UInt8 → Bool → Option β) → Option β
def P96 (F98 : T98) : T96 := fun β a_Top a_To_Host a_To_Path a_Guess k =>
 F98 _ a_To_Host a_To_Path fun t1 t2 =>
 k a_Top t1 t2 a_Guess
def F96 : T96 := P96 F98
abbrev s96 : List (Bool × List CK) := [(true, [.str, .str, .str, .bool])]
def G96 (F : T96) (β : Type) (e : (List UInt8 × List UInt8 × List UInt8 × Bool × Unit) × Unit) (k : V → Option β) : Option β := F β e.1.1 e.1.2.1 e.1.2.2.1 e.1.2.2.2.1 (fun y1 y2 y3 y4 => k (.agg [.str y1, .str y2, .str y3, .bool y4]))
abbrev W96 (F : T96) : WT := wrap s96 (G96 F)
theorem k96 (F98 : T98) (β : Type) (e : argsT s96) (k : V → Option β) : fnK cfg (tabL [(98, W98 F98)]) noX 96 Tryz.f96 β (argsEnc s96 e) k = G96 (P96 F98 ) β e k := by kernel_rfl
theorem ok96 : FnOk D 96 (W96 F96) := fn_okW [(98, W98 F98)] noX (fun _ => rfl) Tryz.func96 rfl (tabL_cons ok98 tabL_nil) (k96 F98 )
abbrev T44 : Type 1 := (β : Type) → List V → (List V → Option β) → Option β
def P44 (F96 : T96) : T44 := fun β a k =>
 chk (0 ≤ (a.length : Int) ∧ (a.length : Int) ≤ (a.length : Int) ∧ (a.length : Int) * 56 ≤ 140737488355328 ∧ (a.length : Int) ≤ 140737488355328) <|
 whileK (fun s1 =>
 br (decide ((lI s1 2) < ((lL s1 0).length : Int))) (
 chk (0 ≤ (lI s1 2)) <|
 idx true [.str, .str, .str, .bool] (lL s1 0) ((lI s1 2).toNat) fun (e2 : List UInt8 × List UInt8 × List UInt8 × Bool × Unit) =>
 F96 _ e2.1 e2.2.1 e2.2.2.1 e2.2.2.2.1 fun t3 t4 t5 b6 =>
 chk (0 ≤ (lI s1 2) ∧ (lI s1 2).toNat < (lL s1 1).length) <|
 storeO (lL s1 1) ((lI s1 2).toNat) 0 [.str t3, .str t4, .str t5, .bool b6] fun l7 =>
 some (.inl [.l (lL s1 0), .l l7, .i (IntKind.wrap .i64 ((lI s1 2) + 1))])) (
 some (.inr (0, [.l (lL s1 1)])))) [.l a, .l (List.replicate ((a.length : Int).toNat) (.agg [.str [], .str [], .str [], .bool false])), .i 0] fun (r8 : Nat × List Leaf) =>
 k (lL r8.2 0)
def F44 : T44 := P44 F96
def X44 : Exits := fun i => lookN i [] [(3, [(.exit 0, xk 23 [(3, .own 1000000 4 .flat [])] [])])]
abbrev s44 : List (Bool × List CK) := [(false, [.sl 4 true])]
def G44 (F : T44) (β : Type) (e : (List V × Unit) × Unit) (k : V → Option β) : Option β := F β e.1.1 (fun y1 => k (.own 0 4 .flat y1))
abbrev W44 (F : T44) : WT := wrap s44 (G44 F)
theorem k44 (F96 : T96) (β : Type) (e : argsT s44) (k : V → Option β) : fnK cfg (tabL [(96, W96 F96)]) X44 44 Tryz.f44 β (argsEnc s44 e) k = G44 (P44 F96 ) β e k := by kernel_rfl
theorem ok44 : FnOk D 44 (W44 F44) := fn_okW [(96, W96 F96)] X44 (fun _ => rfl) Tryz.func44 rfl (tabL_cons ok96 tabL_nil) (k44 F96 )
abbrev T17 : Type 1 := (β : Type) → List V → List V → List V → Int → (List V → List V → List V → Int → Option β) → Option β
def P17 (F42 : T42) (F43 : T43) (F44 : T44) : T17 := fun β a_Servers a_Cache_Entries a_Log a_Now k =>
 F42 _ a_Servers fun l1 =>
 F43 _ a_Cache_Entries fun l2 =>
 F44 _ a_Log fun l3 =>
 k l1 l2 l3 a_Now
def F17 : T17 := P17 F42 F43 F44
abbrev s17 : List (Bool × List CK) := [(true, [.sl 2 false, .sl 10 true, .sl 4 true, .int .i64])]
def G17 (F : T17) (β : Type) (e : (List V × List V × List V × Int × Unit) × Unit) (k : V → Option β) : Option β := F β e.1.1 e.1.2.1 e.1.2.2.1 e.1.2.2.2.1 (fun y1 y2 y3 y4 => k (.agg [.own 0 2 .clean y1, .own 1 10 .flat y2, .own 2 4 .flat y3, .int .i64 y4]))
abbrev W17 (F : T17) : WT := wrap s17 (G17 F)
theorem k17 (F42 : T42) (F43 : T43) (F44 : T44) (β : Type) (e : argsT s17) (k : V → Option β) : fnK cfg (tabL [(42, W42 F42), (43, W43 F43), (44, W44 F44)]) noX 17 Tryz.f17 β (argsEnc s17 e) k = G17 (P17 F42 F43 F44 ) β e k := by kernel_rfl
theorem ok17 : FnOk D 17 (W17 F17) := fn_okW [(42, W42 F42), (43, W43 F43), (44, W44 F44)] noX (fun _ => rfl) Tryz.func17 rfl (tabL_cons ok42 (tabL_cons ok43 (tabL_cons ok44 tabL_nil))) (k17 F42 F43 F44 )
abbrev T106 : Type 1 := (β : Type) → List V → (List V → Option β) → Option β
def P106 : T106 := fun β a k =>
 chk (0 ≤ (a.length : Int) ∧ (a.length : Int) ≤ (a.length : Int) ∧ (a.length : Int) * 16 ≤ 140737488355328 ∧ (a.length : Int) ≤ 140737488355328) <|
 whileK (fun s1 =>
 br (decide ((lI s1 2) < ((lL s1 0).length : Int))) (
 chk (0 ≤ (lI s1 2)) <|
 idx false [.str] (lL s1 0) ((lI s1 2).toNat) fun (e2 : List UInt8 × Unit) =>
 chk (0 ≤ (lI s1 2) ∧ (lI s1 2).toNat < (lL s1 1).length) <|
 storeO (lL s1 1) ((lI s1 2).toNat) 0 [.str e2.1] fun l3 =>
 some (.inl [.l (lL s1 0), .l l3, .i (IntKind.wrap .i64 ((lI s1 2) + 1))])) (
 some (.inr (0, [.l (lL s1 1)])))) [.l a, .l (List.replicate ((a.length : Int).toNat) (.str [])), .i 0] fun (r4 : Nat × List Leaf) =>
 k (lL r4.2 0)
def F106 : T106 := P106
def X106 : Exits := fun i => lookN i [] [(3, [(.exit 0, xk 22 [(3, .own 1000000 1 .flat [])] [])])]
abbrev s106 : List (Bool × List CK) := [(false, [.sl 1 true])]
def G106 (F : T106) (β : Type) (e : (List V × Unit) × Unit) (k : V → Option β) : Option β := F β e.1.1 (fun y1 => k (.own 0 1 .flat y1))
abbrev W106 (F : T106) : WT := wrap s106 (G106 F)
theorem k106 (β : Type) (e : argsT s106) (k : V → Option β) : fnK cfg (tabL []) X106 106 Tryz.f106 β (argsEnc s106 e) k = G106 (P106 ) β e k := by kernel_rfl
theorem ok106 : FnOk D 106 (W106 F106) := fn_okW [] X106 (fun _ => rfl) Tryz.func106 rfl (tabL_nil) (k106 )
abbrev T99 : Type 1 := (β : Type) → Bool → List V → List V → List V → List UInt8 → (Bool → List V → List V → List V → List UInt8 → Option β) → Option β
def P99 (F106 : T106) : T99 := fun β a_Set a_Scripts a_Styles a_Images a_Nonce k =>
 F106 _ a_Scripts fun l1 =>
 F106 _ a_Styles fun l2 =>
 F106 _ a_Images fun l3 =>
 k a_Set l1 l2 l3 a_Nonce
def F99 : T99 := P99 F106
abbrev s99 : List (Bool × List CK) := [(true, [.bool, .sl 1 true, .sl 1 true, .sl 1 true, .str])]
def G99 (F : T99) (β : Type) (e : (Bool × List V × List V × List V × List UInt8 × Unit) × Unit) (k : V → Option β) : Option β := let a0_0 := e.1; let a0_1 := a0_0.2; let a0_2 := a0_1.2; let a0_3 := a0_2.2; let a0_4 := a0_3.2; F β a0_0.1 a0_1.1 a0_2.1 a0_3.1 a0_4.1 (fun y1 y2 y3 y4 y5 => k (.agg [.bool y1, .own 1 1 .flat y2, .own 2 1 .flat y3, .own 3 1 .flat y4, .str y5]))
abbrev W99 (F : T99) : WT := wrap s99 (G99 F)
theorem k99 (F106 : T106) (β : Type) (e : argsT s99) (k : V → Option β) : fnK cfg (tabL [(106, W106 F106)]) noX 99 Tryz.f99 β (argsEnc s99 e) k = G99 (P99 F106 ) β e k := by kernel_rfl
theorem ok99 : FnOk D 99 (W99 F99) := fn_okW [(106, W106 F106)] noX (fun _ => rfl) Tryz.func99 rfl (tabL_cons ok106 tabL_nil) (k99 F106 )
abbrev T100 : Type 1 := (β : Type) → List UInt8 → (List UInt8 → Option β) → Option β
def P100 : T100 := fun β a_Rest k =>
 k a_Rest
def F100 : T100 := P100
abbrev s100 : List (Bool × List CK) := [(true, [.str])]
def G100 (F : T100) (β : Type) (e : (List UInt8 × Unit) × Unit) (k : V → Option β) : Option β := F β e.1.1 (fun y1 => k (.agg [.str y1]))
abbrev W100 (F : T100) : WT := wrap s100 (G100 F)
theorem k100 (β : Type) (e : argsT s100) (k : V → Option β) : fnK cfg (tabL []) noX 100 Tryz.f100 β (argsEnc s100 e) k = G100 (P100 ) β e k := by kernel_rfl
theorem ok100 : FnOk D 100 (W100 F100) := fn_okW [] noX (fun _ => rfl) Tryz.func100 rfl (tabL_nil) (k100 )
abbrev T193 : Type 1 := (β : Type) → List UInt8 → List UInt8 → (List UInt8 → List UInt8 → Option β) → Option β
def P193 : T193 := fun β a_Name a_Value k =>
 k a_Name a_Value
def F193 : T193 := P193
abbrev s193 : List (Bool × List CK) := [(true, [.str, .str])]
def G193 (F : T193) (β : Type) (e : (List UInt8 × List UInt8 × Unit) × Unit) (k : V → Option β) : Option β := F β e.1.1 e.1.2.1 (fun y1 y2 => k (.agg [.str y1, .str y2]))
abbrev W193 (F : T193) : WT := wrap s193 (G193 F)
theorem k193 (β : Type) (e : argsT s193) (k : V → Option β) : fnK cfg (tabL []) noX 193 Tryz.f193 β (argsEnc s193 e) k = G193 (P193 ) β e k := by kernel_rfl
theorem ok193 : FnOk D 193 (W193 F193) := fn_okW [] noX (fun _ => rfl) Tryz.func193 rfl (tabL_nil) (k193 )
abbrev T176 : Type 1 := (β : Type) → List V → (List V → Option β) → Option β
def P176 (F193 : T193) : T176 := fun β a k =>
 chk (0 ≤ (a.length : Int) ∧ (a.length : Int) ≤ (a.length : Int) ∧ (a.length : Int) * 32 ≤ 140737488355328 ∧ (a.length : Int) ≤ 140737488355328) <|
 whileK (fun s1 =>
 br (decide ((lI s1 2) < ((lL s1 0).length : Int))) (
 chk (0 ≤ (lI s1 2)) <|
 idx true [.str, .str] (lL s1 0) ((lI s1 2).toNat) fun (e2 : List UInt8 × List UInt8 × Unit) =>
 F193 _ e2.1 e2.2.1 fun t3 t4 =>
 chk (0 ≤ (lI s1 2) ∧ (lI s1 2).toNat < (lL s1 1).length) <|
 storeO (lL s1 1) ((lI s1 2).toNat) 0 [.str t3, .str t4] fun l5 =>
 some (.inl [.l (lL s1 0), .l l5, .i (IntKind.wrap .i64 ((lI s1 2) + 1))])) (
 some (.inr (0, [.l (lL s1 1)])))) [.l a, .l (List.replicate ((a.length : Int).toNat) (.agg [.str [], .str []])), .i 0] fun (r6 : Nat × List Leaf) =>
 k (lL r6.2 0)
def F176 : T176 := P176 F193
def X176 : Exits := fun i => lookN i [] [(3, [(.exit 0, xk 23 [(3, .own 1000000 2 .flat [])] [])])]
abbrev s176 : List (Bool × List CK) := [(false, [.sl 2 true])]
def G176 (F : T176) (β : Type) (e : (List V × Unit) × Unit) (k : V → Option β) : Option β := F β e.1.1 (fun y1 => k (.own 0 2 .flat y1))
abbrev W176 (F : T176) : WT := wrap s176 (G176 F)
theorem k176 (F193 : T193) (β : Type) (e : argsT s176) (k : V → Option β) : fnK cfg (tabL [(193, W193 F193)]) X176 176 Tryz.f176 β (argsEnc s176 e) k = G176 (P176 F193 ) β e k := by kernel_rfl
theorem ok176 : FnOk D 176 (W176 F176) := fn_okW [(193, W193 F193)] X176 (fun _ => rfl) Tryz.func176 rfl (tabL_cons ok193 tabL_nil) (k176 F193 )
abbrev T146 : Type 1 := (β : Type) → Int → List UInt8 → List V → List UInt8 → (Int → List UInt8 → List V → List UInt8 → Option β) → Option β
def P146 (F176 : T176) : T146 := fun β a_Kind a_Name a_Attrs a_Text k =>
 F176 _ a_Attrs fun l1 =>
 k a_Kind a_Name l1 a_Text
def F146 : T146 := P146 F176
abbrev s146 : List (Bool × List CK) := [(true, [.int .i64, .str, .sl 2 true, .str])]
def G146 (F : T146) (β : Type) (e : (Int × List UInt8 × List V × List UInt8 × Unit) × Unit) (k : V → Option β) : Option β := F β e.1.1 e.1.2.1 e.1.2.2.1 e.1.2.2.2.1 (fun y1 y2 y3 y4 => k (.agg [.int .i64 y1, .str y2, .own 2 2 .flat y3, .str y4]))
abbrev W146 (F : T146) : WT := wrap s146 (G146 F)
theorem k146 (F176 : T176) (β : Type) (e : argsT s146) (k : V → Option β) : fnK cfg (tabL [(176, W176 F176)]) noX 146 Tryz.f146 β (argsEnc s146 e) k = G146 (P146 F176 ) β e k := by kernel_rfl
theorem ok146 : FnOk D 146 (W146 F146) := fn_okW [(176, W176 F176)] noX (fun _ => rfl) Tryz.func146 rfl (tabL_cons ok176 tabL_nil) (k146 F176 )
abbrev T101 : Type 1 := (β : Type) → List V → (List V → Option β) → Option β
def P101 (F146 : T146) : T101 := fun β a k =>
 chk (0 ≤ (a.length : Int) ∧ (a.length : Int) ≤ (a.length : Int) ∧ (a.length : Int) * 64 ≤ 140737488355328 ∧ (a.length : Int) ≤ 140737488355328) <|
 whileK (fun s1 =>
 br (decide ((lI s1 2) < ((lL s1 0).length : Int))) (
 chk (0 ≤ (lI s1 2)) <|
 idx true [.int .i64, .str, .sl 2 true, .str] (lL s1 0) ((lI s1 2).toNat) fun (e2 : Int × List UInt8 × List V × List UInt8 × Unit) =>
 F146 _ e2.1 e2.2.1 e2.2.2.1 e2.2.2.2.1 fun n3 t4 l5 t6 =>
 chk (0 ≤ (lI s1 2) ∧ (lI s1 2).toNat < (lL s1 1).length) <|
 storeO (lL s1 1) ((lI s1 2).toNat) 0 [.int .i64 n3, .str t4, .sl 2 true l5, .str t6] fun l7 =>
 some (.inl [.l (lL s1 0), .l l7, .i (IntKind.wrap .i64 ((lI s1 2) + 1))])) (
 some (.inr (0, [.l (lL s1 1)])))) [.l a, .l (List.replicate ((a.length : Int).toNat) (.agg [.int .i64 0, .str [], .sl 2 true [], .str []])), .i 0] fun (r8 : Nat × List Leaf) =>
 k (lL r8.2 0)
def F101 : T101 := P101 F146
def X101 : Exits := fun i => lookN i [] [(3, [(.exit 0, xk 23 [(3, .own 1000000 4 .clean [])] [])])]
abbrev s101 : List (Bool × List CK) := [(false, [.sl 4 false])]
def G101 (F : T101) (β : Type) (e : (List V × Unit) × Unit) (k : V → Option β) : Option β := F β e.1.1 (fun y1 => k (.own 0 4 .clean y1))
abbrev W101 (F : T101) : WT := wrap s101 (G101 F)
theorem k101 (F146 : T146) (β : Type) (e : argsT s101) (k : V → Option β) : fnK cfg (tabL [(146, W146 F146)]) X101 101 Tryz.f101 β (argsEnc s101 e) k = G101 (P101 F146 ) β e k := by kernel_rfl
theorem ok101 : FnOk D 101 (W101 F101) := fn_okW [(146, W146 F146)] X101 (fun _ => rfl) Tryz.func101 rfl (tabL_cons ok146 tabL_nil) (k101 F146 )
abbrev T177 : Type 1 := (β : Type) → List UInt8 → List UInt8 → Int → List V → (List UInt8 → List UInt8 → Int → List V → Option β) → Option β
def P177 (F176 : T176) : T177 := fun β a_Name a_Text a_Parent a_Attrs k =>
 F176 _ a_Attrs fun l1 =>
 k a_Name a_Text a_Parent l1
def F177 : T177 := P177 F176
abbrev s177 : List (Bool × List CK) := [(true, [.str, .str, .int .i64, .sl 2 true])]
def G177 (F : T177) (β : Type) (e : (List UInt8 × List UInt8 × Int × List V × Unit) × Unit) (k : V → Option β) : Option β := F β e.1.1 e.1.2.1 e.1.2.2.1 e.1.2.2.2.1 (fun y1 y2 y3 y4 => k (.agg [.str y1, .str y2, .int .i64 y3, .own 3 2 .flat y4]))
abbrev W177 (F : T177) : WT := wrap s177 (G177 F)
theorem k177 (F176 : T176) (β : Type) (e : argsT s177) (k : V → Option β) : fnK cfg (tabL [(176, W176 F176)]) noX 177 Tryz.f177 β (argsEnc s177 e) k = G177 (P177 F176 ) β e k := by kernel_rfl
theorem ok177 : FnOk D 177 (W177 F177) := fn_okW [(176, W176 F176)] noX (fun _ => rfl) Tryz.func177 rfl (tabL_cons ok176 tabL_nil) (k177 F176 )
abbrev T147 : Type 1 := (β : Type) → List V → (List V → Option β) → Option β
def P147 (F177 : T177) : T147 := fun β a k =>
 chk (0 ≤ (a.length : Int) ∧ (a.length : Int) ≤ (a.length : Int) ∧ (a.length : Int) * 64 ≤ 140737488355328 ∧ (a.length : Int) ≤ 140737488355328) <|
 whileK (fun s1 =>
 br (decide ((lI s1 2) < ((lL s1 0).length : Int))) (
 chk (0 ≤ (lI s1 2)) <|
 idx true [.str, .str, .int .i64, .sl 2 true] (lL s1 0) ((lI s1 2).toNat) fun (e2 : List UInt8 × List UInt8 × Int × List V × Unit) =>
 F177 _ e2.1 e2.2.1 e2.2.2.1 e2.2.2.2.1 fun t3 t4 n5 l6 =>
 chk (0 ≤ (lI s1 2) ∧ (lI s1 2).toNat < (lL s1 1).length) <|
 storeO (lL s1 1) ((lI s1 2).toNat) 0 [.str t3, .str t4, .int .i64 n5, .sl 2 true l6] fun l7 =>
 some (.inl [.l (lL s1 0), .l l7, .i (IntKind.wrap .i64 ((lI s1 2) + 1))])) (
 some (.inr (0, [.l (lL s1 1)])))) [.l a, .l (List.replicate ((a.length : Int).toNat) (.agg [.str [], .str [], .int .i64 0, .sl 2 true []])), .i 0] fun (r8 : Nat × List Leaf) =>
 k (lL r8.2 0)
def F147 : T147 := P147 F177
def X147 : Exits := fun i => lookN i [] [(3, [(.exit 0, xk 23 [(3, .own 1000000 4 .clean [])] [])])]
abbrev s147 : List (Bool × List CK) := [(false, [.sl 4 false])]
def G147 (F : T147) (β : Type) (e : (List V × Unit) × Unit) (k : V → Option β) : Option β := F β e.1.1 (fun y1 => k (.own 0 4 .clean y1))
abbrev W147 (F : T147) : WT := wrap s147 (G147 F)
theorem k147 (F177 : T177) (β : Type) (e : argsT s147) (k : V → Option β) : fnK cfg (tabL [(177, W177 F177)]) X147 147 Tryz.f147 β (argsEnc s147 e) k = G147 (P147 F177 ) β e k := by kernel_rfl
theorem ok147 : FnOk D 147 (W147 F147) := fn_okW [(177, W177 F177)] X147 (fun _ => rfl) Tryz.func147 rfl (tabL_cons ok177 tabL_nil) (k147 F177 )
abbrev T148 : Type 1 := (β : Type) → List V → (List V → Option β) → Option β
def P148 : T148 := fun β a k =>
 chk (0 ≤ (a.length : Int) ∧ (a.length : Int) ≤ (a.length : Int) ∧ (a.length : Int) * 8 ≤ 140737488355328 ∧ (a.length : Int) ≤ 140737488355328) <|
 whileK (fun s1 =>
 br (decide ((lI s1 2) < ((lL s1 0).length : Int))) (
 chk (0 ≤ (lI s1 2)) <|
 idx false [.int .i64] (lL s1 0) ((lI s1 2).toNat) fun (e2 : Int × Unit) =>
 chk (0 ≤ (lI s1 2) ∧ (lI s1 2).toNat < (lL s1 1).length) <|
 storeO (lL s1 1) ((lI s1 2).toNat) 0 [.int .i64 e2.1] fun l3 =>
 some (.inl [.l (lL s1 0), .l l3, .i (IntKind.wrap .i64 ((lI s1 2) + 1))])) (
 some (.inr (0, [.l (lL s1 1)])))) [.l a, .l (List.replicate ((a.length : Int).toNat) (.int .i64 0)), .i 0] fun (r4 : Nat × List Leaf) =>
 k (lL r4.2 0)
def F148 : T148 := P148
def X148 : Exits := fun i => lookN i [] [(3, [(.exit 0, xk 22 [(3, .own 1000000 1 .flat [])] [])])]
abbrev s148 : List (Bool × List CK) := [(false, [.sl 1 true])]
def G148 (F : T148) (β : Type) (e : (List V × Unit) × Unit) (k : V → Option β) : Option β := F β e.1.1 (fun y1 => k (.own 0 1 .flat y1))
abbrev W148 (F : T148) : WT := wrap s148 (G148 F)
theorem k148 (β : Type) (e : argsT s148) (k : V → Option β) : fnK cfg (tabL []) X148 148 Tryz.f148 β (argsEnc s148 e) k = G148 (P148 ) β e k := by kernel_rfl
theorem ok148 : FnOk D 148 (W148 F148) := fn_okW [] X148 (fun _ => rfl) Tryz.func148 rfl (tabL_nil) (k148 )
abbrev T102 : Type 1 := (β : Type) → List V → List V → (List V → List V → Option β) → Option β
def P102 (F147 : T147) (F148 : T148) : T102 := fun β a_Nodes a_Open k =>
 F147 _ a_Nodes fun l1 =>
 F148 _ a_Open fun l2 =>
 k l1 l2
def F102 : T102 := P102 F147 F148
abbrev s102 : List (Bool × List CK) := [(true, [.sl 4 false, .sl 1 true])]
def G102 (F : T102) (β : Type) (e : (List V × List V × Unit) × Unit) (k : V → Option β) : Option β := F β e.1.1 e.1.2.1 (fun y1 y2 => k (.agg [.own 0 4 .clean y1, .own 1 1 .flat y2]))
abbrev W102 (F : T102) : WT := wrap s102 (G102 F)
theorem k102 (F147 : T147) (F148 : T148) (β : Type) (e : argsT s102) (k : V → Option β) : fnK cfg (tabL [(147, W147 F147), (148, W148 F148)]) noX 102 Tryz.f102 β (argsEnc s102 e) k = G102 (P102 F147 F148 ) β e k := by kernel_rfl
theorem ok102 : FnOk D 102 (W102 F102) := fn_okW [(147, W147 F147), (148, W148 F148)] noX (fun _ => rfl) Tryz.func102 rfl (tabL_cons ok147 (tabL_cons ok148 tabL_nil)) (k102 F147 F148 )
abbrev T149 : Type 1 := (β : Type) → Int → List UInt8 → List UInt8 → List UInt8 → Int → Bool → Int → List UInt8 → (Int → List UInt8 → List UInt8 → List UInt8 → Int → Bool → Int → List UInt8 → Option β) → Option β
def P149 (F98 : T98) : T149 := fun β a_Mode a_To_Host a_To_Path a_Digest a_Node a_Done a_Code a_Body k =>
 F98 _ a_To_Host a_To_Path fun t1 t2 =>
 k a_Mode t1 t2 a_Digest a_Node a_Done a_Code a_Body
def F149 : T149 := P149 F98
abbrev s149 : List (Bool × List CK) := [(true, [.int .i64, .str, .str, .str, .int .i64, .bool, .int .i64, .str])]
def G149 (F : T149) (β : Type) (e : (Int × List UInt8 × List UInt8 × List UInt8 × Int × Bool × Int × List UInt8 × Unit) × Unit) (k : V → Option β) : Option β := let a0_0 := e.1; let a0_1 := a0_0.2; let a0_2 := a0_1.2; let a0_3 := a0_2.2; let a0_4 := a0_3.2; let a0_5 := a0_4.2; let a0_6 := a0_5.2; let a0_7 := a0_6.2; F β a0_0.1 a0_1.1 a0_2.1 a0_3.1 a0_4.1 a0_5.1 a0_6.1 a0_7.1 (fun y1 y2 y3 y4 y5 y6 y7 y8 => k (.agg [.int .i64 y1, .str y2, .str y3, .str y4, .int .i64 y5, .bool y6, .int .i64 y7, .str y8]))
abbrev W149 (F : T149) : WT := wrap s149 (G149 F)
theorem k149 (F98 : T98) (β : Type) (e : argsT s149) (k : V → Option β) : fnK cfg (tabL [(98, W98 F98)]) noX 149 Tryz.f149 β (argsEnc s149 e) k = G149 (P149 F98 ) β e k := by kernel_rfl
theorem ok149 : FnOk D 149 (W149 F149) := fn_okW [(98, W98 F98)] noX (fun _ => rfl) Tryz.func149 rfl (tabL_cons ok98 tabL_nil) (k149 F98 )
abbrev T103 : Type 1 := (β : Type) → List V → (List V → Option β) → Option β
def P103 (F149 : T149) : T103 := fun β a k =>
 chk (0 ≤ (a.length : Int) ∧ (a.length : Int) ≤ (a.length : Int) ∧ (a.length : Int) * 96 ≤ 140737488355328 ∧ (a.length : Int) ≤ 140737488355328) <|
 whileK (fun s1 =>
 br (decide ((lI s1 2) < ((lL s1 0).length : Int))) (
 chk (0 ≤ (lI s1 2)) <|
 idx true [.int .i64, .str, .str, .str, .int .i64, .bool, .int .i64, .str] (lL s1 0) ((lI s1 2).toNat) fun (e2 : Int × List UInt8 × List UInt8 × List UInt8 × Int × Bool × Int × List UInt8 × Unit) =>
 F149 _ e2.1 e2.2.1 e2.2.2.1 e2.2.2.2.1 e2.2.2.2.2.1 e2.2.2.2.2.2.1 e2.2.2.2.2.2.2.1 e2.2.2.2.2.2.2.2.1 fun n3 t4 t5 t6 n7 b8 n9 t10 =>
 chk (0 ≤ (lI s1 2) ∧ (lI s1 2).toNat < (lL s1 1).length) <|
 storeO (lL s1 1) ((lI s1 2).toNat) 0 [.int .i64 n3, .str t4, .str t5, .str t6, .int .i64 n7, .bool b8, .int .i64 n9, .str t10] fun l11 =>
 some (.inl [.l (lL s1 0), .l l11, .i (IntKind.wrap .i64 ((lI s1 2) + 1))])) (
 some (.inr (0, [.l (lL s1 1)])))) [.l a, .l (List.replicate ((a.length : Int).toNat) (.agg [.int .i64 0, .str [], .str [], .str [], .int .i64 0, .bool false, .int .i64 0, .str []])), .i 0] fun (r12 : Nat × List Leaf) =>
 k (lL r12.2 0)
def F103 : T103 := P103 F149
def X103 : Exits := fun i => lookN i [] [(3, [(.exit 0, xk 23 [(3, .own 1000000 8 .flat [])] [])])]
abbrev s103 : List (Bool × List CK) := [(false, [.sl 8 true])]
def G103 (F : T103) (β : Type) (e : (List V × Unit) × Unit) (k : V → Option β) : Option β := F β e.1.1 (fun y1 => k (.own 0 8 .flat y1))
abbrev W103 (F : T103) : WT := wrap s103 (G103 F)
theorem k103 (F149 : T149) (β : Type) (e : argsT s103) (k : V → Option β) : fnK cfg (tabL [(149, W149 F149)]) X103 103 Tryz.f103 β (argsEnc s103 e) k = G103 (P103 F149 ) β e k := by kernel_rfl
theorem ok103 : FnOk D 103 (W103 F103) := fn_okW [(149, W149 F149)] X103 (fun _ => rfl) Tryz.func103 rfl (tabL_cons ok149 tabL_nil) (k103 F149 )
abbrev T150 : Type 1 := (β : Type) → List UInt8 → List UInt8 → Bool → Int → List UInt8 → (List UInt8 → List UInt8 → Bool → Int → List UInt8 → Option β) → Option β
def P150 (F98 : T98) : T150 := fun β a_To_Host a_To_Path a_Done a_Code a_Body k =>
 F98 _ a_To_Host a_To_Path fun t1 t2 =>
 k t1 t2 a_Done a_Code a_Body
def F150 : T150 := P150 F98
abbrev s150 : List (Bool × List CK) := [(true, [.str, .str, .bool, .int .i64, .str])]
def G150 (F : T150) (β : Type) (e : (List UInt8 × List UInt8 × Bool × Int × List UInt8 × Unit) × Unit) (k : V → Option β) : Option β := let a0_0 := e.1; let a0_1 := a0_0.2; let a0_2 := a0_1.2; let a0_3 := a0_2.2; let a0_4 := a0_3.2; F β a0_0.1 a0_1.1 a0_2.1 a0_3.1 a0_4.1 (fun y1 y2 y3 y4 y5 => k (.agg [.str y1, .str y2, .bool y3, .int .i64 y4, .str y5]))
abbrev W150 (F : T150) : WT := wrap s150 (G150 F)
theorem k150 (F98 : T98) (β : Type) (e : argsT s150) (k : V → Option β) : fnK cfg (tabL [(98, W98 F98)]) noX 150 Tryz.f150 β (argsEnc s150 e) k = G150 (P150 F98 ) β e k := by kernel_rfl
theorem ok150 : FnOk D 150 (W150 F150) := fn_okW [(98, W98 F98)] noX (fun _ => rfl) Tryz.func150 rfl (tabL_cons ok98 tabL_nil) (k150 F98 )
abbrev T104 : Type 1 := (β : Type) → List V → (List V → Option β) → Option β
def P104 (F150 : T150) : T104 := fun β a k =>
 chk (0 ≤ (a.length : Int) ∧ (a.length : Int) ≤ (a.length : Int) ∧ (a.length : Int) * 64 ≤ 140737488355328 ∧ (a.length : Int) ≤ 140737488355328) <|
 whileK (fun s1 =>
 br (decide ((lI s1 2) < ((lL s1 0).length : Int))) (
 chk (0 ≤ (lI s1 2)) <|
 idx true [.str, .str, .bool, .int .i64, .str] (lL s1 0) ((lI s1 2).toNat) fun (e2 : List UInt8 × List UInt8 × Bool × Int × List UInt8 × Unit) =>
 F150 _ e2.1 e2.2.1 e2.2.2.1 e2.2.2.2.1 e2.2.2.2.2.1 fun t3 t4 b5 n6 t7 =>
 chk (0 ≤ (lI s1 2) ∧ (lI s1 2).toNat < (lL s1 1).length) <|
 storeO (lL s1 1) ((lI s1 2).toNat) 0 [.str t3, .str t4, .bool b5, .int .i64 n6, .str t7] fun l8 =>
 some (.inl [.l (lL s1 0), .l l8, .i (IntKind.wrap .i64 ((lI s1 2) + 1))])) (
 some (.inr (0, [.l (lL s1 1)])))) [.l a, .l (List.replicate ((a.length : Int).toNat) (.agg [.str [], .str [], .bool false, .int .i64 0, .str []])), .i 0] fun (r9 : Nat × List Leaf) =>
 k (lL r9.2 0)
def F104 : T104 := P104 F150
def X104 : Exits := fun i => lookN i [] [(3, [(.exit 0, xk 23 [(3, .own 1000000 5 .flat [])] [])])]
abbrev s104 : List (Bool × List CK) := [(false, [.sl 5 true])]
def G104 (F : T104) (β : Type) (e : (List V × Unit) × Unit) (k : V → Option β) : Option β := F β e.1.1 (fun y1 => k (.own 0 5 .flat y1))
abbrev W104 (F : T104) : WT := wrap s104 (G104 F)
theorem k104 (F150 : T150) (β : Type) (e : argsT s104) (k : V → Option β) : fnK cfg (tabL [(150, W150 F150)]) X104 104 Tryz.f104 β (argsEnc s104 e) k = G104 (P104 F150 ) β e k := by kernel_rfl
theorem ok104 : FnOk D 104 (W104 F104) := fn_okW [(150, W150 F150)] X104 (fun _ => rfl) Tryz.func104 rfl (tabL_cons ok150 tabL_nil) (k104 F150 )
abbrev T105 : Type 1 := (β : Type) → List V → (List V → Option β) → Option β
def P105 (F98 : T98) : T105 := fun β a k =>
 chk (0 ≤ (a.length : Int) ∧ (a.length : Int) ≤ (a.length : Int) ∧ (a.length : Int) * 32 ≤ 140737488355328 ∧ (a.length : Int) ≤ 140737488355328) <|
 whileK (fun s1 =>
 br (decide ((lI s1 2) < ((lL s1 0).length : Int))) (
 chk (0 ≤ (lI s1 2)) <|
 idx true [.str, .str] (lL s1 0) ((lI s1 2).toNat) fun (e2 : List UInt8 × List UInt8 × Unit) =>
 F98 _ e2.1 e2.2.1 fun t3 t4 =>
 chk (0 ≤ (lI s1 2) ∧ (lI s1 2).toNat < (lL s1 1).length) <|
 storeO (lL s1 1) ((lI s1 2).toNat) 0 [.str t3, .str t4] fun l5 =>
 some (.inl [.l (lL s1 0), .l l5, .i (IntKind.wrap .i64 ((lI s1 2) + 1))])) (
 some (.inr (0, [.l (lL s1 1)])))) [.l a, .l (List.replicate ((a.length : Int).toNat) (.agg [.str [], .str []])), .i 0] fun (r6 : Nat × List Leaf) =>
 k (lL r6.2 0)
def F105 : T105 := P105 F98
def X105 : Exits := fun i => lookN i [] [(3, [(.exit 0, xk 23 [(3, .own 1000000 2 .flat [])] [])])]
abbrev s105 : List (Bool × List CK) := [(false, [.sl 2 true])]
def G105 (F : T105) (β : Type) (e : (List V × Unit) × Unit) (k : V → Option β) : Option β := F β e.1.1 (fun y1 => k (.own 0 2 .flat y1))
abbrev W105 (F : T105) : WT := wrap s105 (G105 F)
theorem k105 (F98 : T98) (β : Type) (e : argsT s105) (k : V → Option β) : fnK cfg (tabL [(98, W98 F98)]) X105 105 Tryz.f105 β (argsEnc s105 e) k = G105 (P105 F98 ) β e k := by kernel_rfl
theorem ok105 : FnOk D 105 (W105 F105) := fn_okW [(98, W98 F98)] X105 (fun _ => rfl) Tryz.func105 rfl (tabL_cons ok98 tabL_nil) (k105 F98 )
abbrev T46 : Type 1 := (β : Type) → List UInt8 → List UInt8 → Bool → List V → List V → List V → List UInt8 → List UInt8 → List V → Bool → List V → List V → List V → List V → List V → Int → Int → Int → Int → List V → List V → Bool → (List UInt8 → List UInt8 → Bool → List V → List V → List V → List UInt8 → List UInt8 → List V → Bool → List V → List V → List V → List V → List V → Int → Int → Int → Int → List V → List V → Bool → Option β) → Option β
def P46 (F98 : T98) (F99 : T99) (F100 : T100) (F101 : T101) (F102 : T102) (F103 : T103) (F104 : T104) (F105 : T105) (F106 : T106) : T46 := fun β a_Addr_Host a_Addr_Path a_Policy_Set a_Policy_Scripts a_Policy_Styles a_Policy_Images a_Policy_Nonce a_Tok_Rest a_Queue a_Ended a_Builder_Nodes a_Builder_Open a_Slots a_Mods a_Entries a_Block a_Inline a_Deferred a_Entered a_Ran a_Log a_Loaded k =>
 F98 _ a_Addr_Host a_Addr_Path fun t1 t2 =>
 F99 _ a_Policy_Set a_Policy_Scripts a_Policy_Styles a_Policy_Images a_Policy_Nonce fun b3 l4 l5 l6 t7 =>
 F100 _ a_Tok_Rest fun t8 =>
 F101 _ a_Queue fun l9 =>
 F102 _ a_Builder_Nodes a_Builder_Open fun l10 l11 =>
 F103 _ a_Slots fun l12 =>
 F104 _ a_Mods fun l13 =>
 F105 _ a_Entries fun l14 =>
 F105 _ a_Ran fun l15 =>
 F106 _ a_Log fun l16 =>
 k t1 t2 b3 l4 l5 l6 t7 t8 l9 a_Ended l10 l11 l12 l13 l14 a_Block a_Inline a_Deferred a_Entered l15 l16 a_Loaded
def F46 : T46 := P46 F98 F99 F100 F101 F102 F103 F104 F105 F106
abbrev s46 : List (Bool × List CK) := [(true, [.str, .str, .bool, .sl 1 true, .sl 1 true, .sl 1 true, .str, .str, .sl 4 false, .bool, .sl 4 false, .sl 1 true, .sl 8 true, .sl 5 true, .sl 2 true, .int .i64, .int .i64, .int .i64, .int .i64, .sl 2 true, .sl 1 true, .bool])]
def G46 (F : T46) (β : Type) (e : (List UInt8 × List UInt8 × Bool × List V × List V × List V × List UInt8 × List UInt8 × List V × Bool × List V × List V × List V × List V × List V × Int × Int × Int × Int × List V × List V × Bool × Unit) × Unit) (k : V → Option β) : Option β := let a0_0 := e.1; let a0_1 := a0_0.2; let a0_2 := a0_1.2; let a0_3 := a0_2.2; let a0_4 := a0_3.2; let a0_5 := a0_4.2; let a0_6 := a0_5.2; let a0_7 := a0_6.2; let a0_8 := a0_7.2; let a0_9 := a0_8.2; let a0_10 := a0_9.2; let a0_11 := a0_10.2; let a0_12 := a0_11.2; let a0_13 := a0_12.2; let a0_14 := a0_13.2; let a0_15 := a0_14.2; let a0_16 := a0_15.2; let a0_17 := a0_16.2; let a0_18 := a0_17.2; let a0_19 := a0_18.2; let a0_20 := a0_19.2; let a0_21 := a0_20.2; F β a0_0.1 a0_1.1 a0_2.1 a0_3.1 a0_4.1 a0_5.1 a0_6.1 a0_7.1 a0_8.1 a0_9.1 a0_10.1 a0_11.1 a0_12.1 a0_13.1 a0_14.1 a0_15.1 a0_16.1 a0_17.1 a0_18.1 a0_19.1 a0_20.1 a0_21.1 (fun y1 y2 y3 y4 y5 y6 y7 y8 y9 y10 y11 y12 y13 y14 y15 y16 y17 y18 y19 y20 y21 y22 => k (.agg [.str y1, .str y2, .bool y3, .own 3 1 .flat y4, .own 4 1 .flat y5, .own 5 1 .flat y6, .str y7, .str y8, .own 8 4 .clean y9, .bool y10, .own 10 4 .clean y11, .own 11 1 .flat y12, .own 12 8 .flat y13, .own 13 5 .flat y14, .own 14 2 .flat y15, .int .i64 y16, .int .i64 y17, .int .i64 y18, .int .i64 y19, .own 19 2 .flat y20, .own 20 1 .flat y21, .bool y22]))
abbrev W46 (F : T46) : WT := wrap s46 (G46 F)
theorem k46 (F98 : T98) (F99 : T99) (F100 : T100) (F101 : T101) (F102 : T102) (F103 : T103) (F104 : T104) (F105 : T105) (F106 : T106) (β : Type) (e : argsT s46) (k : V → Option β) : fnK cfg (tabL [(98, W98 F98), (99, W99 F99), (100, W100 F100), (101, W101 F101), (102, W102 F102), (103, W103 F103), (104, W104 F104), (105, W105 F105), (106, W106 F106)]) noX 46 Tryz.f46 β (argsEnc s46 e) k = G46 (P46 F98 F99 F100 F101 F102 F103 F104 F105 F106 ) β e k := by kernel_rfl
theorem ok46 : FnOk D 46 (W46 F46) := fn_okW [(98, W98 F98), (99, W99 F99), (100, W100 F100), (101, W101 F101), (102, W102 F102), (103, W103 F103), (104, W104 F104), (105, W105 F105), (106, W106 F106)] noX (fun _ => rfl) Tryz.func46 rfl (tabL_cons ok98 (tabL_cons ok99 (tabL_cons ok100 (tabL_cons ok101 (tabL_cons ok102 (tabL_cons ok103 (tabL_cons ok104 (tabL_cons ok105 (tabL_cons ok106 tabL_nil))))))))) (k46 F98 F99 F100 F101 F102 F103 F104 F105 F106 )
abbrev T97 : Type 1 := (β : Type) → List UInt8 → List UInt8 → List UInt8 → List UInt8 → Bool → List V → List V → List V → List UInt8 → List UInt8 → List V → Bool → List V → List V → List V → List V → List V → Int → Int → Int → Int → List V → List V → Bool → Bool → (List UInt8 → List UInt8 → List UInt8 → List UInt8 → Bool → List V → List V → List V → List UInt8 → List UInt8 → List V → Bool → List V → List V → List V → List V → List V → Int → Int → Int → Int → List V → List V → Bool → Bool → Option β) → Option β
def P97 (F98 : T98) (F46 : T46) : T97 := fun β a_Addr_Host a_Addr_Path a_Page_Addr_Host a_Page_Addr_Path a_Page_Policy_Set a_Page_Policy_Scripts a_Page_Policy_Styles a_Page_Policy_Images a_Page_Policy_Nonce a_Page_Tok_Rest a_Page_Queue a_Page_Ended a_Page_Builder_Nodes a_Page_Builder_Open a_Page_Slots a_Page_Mods a_Page_Entries a_Page_Block a_Page_Inline a_Page_Deferred a_Page_Entered a_Page_Ran a_Page_Log a_Page_Loaded a_Kept k =>
 F98 _ a_Addr_Host a_Addr_Path fun t1 t2 =>
 F46 _ a_Page_Addr_Host a_Page_Addr_Path a_Page_Policy_Set a_Page_Policy_Scripts a_Page_Policy_Styles a_Page_Policy_Images a_Page_Policy_Nonce a_Page_Tok_Rest a_Page_Queue a_Page_Ended a_Page_Builder_Nodes a_Page_Builder_Open a_Page_Slots a_Page_Mods a_Page_Entries a_Page_Block a_Page_Inline a_Page_Deferred a_Page_Entered a_Page_Ran a_Page_Log a_Page_Loaded fun t3 t4 b5 l6 l7 l8 t9 t10 l11 b12 l13 l14 l15 l16 l17 n18 n19 n20 n21 l22 l23 b24 =>
 k t1 t2 t3 t4 b5 l6 l7 l8 t9 t10 l11 b12 l13 l14 l15 l16 l17 n18 n19 n20 n21 l22 l23 b24 a_Kept
def F97 : T97 := P97 F98 F46
abbrev s97 : List (Bool × List CK) := [(true, [.str, .str, .str, .str, .bool, .sl 1 true, .sl 1 true, .sl 1 true, .str, .str, .sl 4 false, .bool, .sl 4 false, .sl 1 true, .sl 8 true, .sl 5 true, .sl 2 true, .int .i64, .int .i64, .int .i64, .int .i64, .sl 2 true, .sl 1 true, .bool, .bool])]
def G97 (F : T97) (β : Type) (e : (List UInt8 × List UInt8 × List UInt8 × List UInt8 × Bool × List V × List V × List V × List UInt8 × List UInt8 × List V × Bool × List V × List V × List V × List V × List V × Int × Int × Int × Int × List V × List V × Bool × Bool × Unit) × Unit) (k : V → Option β) : Option β := let a0_0 := e.1; let a0_1 := a0_0.2; let a0_2 := a0_1.2; let a0_3 := a0_2.2; let a0_4 := a0_3.2; let a0_5 := a0_4.2; let a0_6 := a0_5.2; let a0_7 := a0_6.2; let a0_8 := a0_7.2; let a0_9 := a0_8.2; let a0_10 := a0_9.2; let a0_11 := a0_10.2; let a0_12 := a0_11.2; let a0_13 := a0_12.2; let a0_14 := a0_13.2; let a0_15 := a0_14.2; let a0_16 := a0_15.2; let a0_17 := a0_16.2; let a0_18 := a0_17.2; let a0_19 := a0_18.2; let a0_20 := a0_19.2; let a0_21 := a0_20.2; let a0_22 := a0_21.2; let a0_23 := a0_22.2; let a0_24 := a0_23.2; F β a0_0.1 a0_1.1 a0_2.1 a0_3.1 a0_4.1 a0_5.1 a0_6.1 a0_7.1 a0_8.1 a0_9.1 a0_10.1 a0_11.1 a0_12.1 a0_13.1 a0_14.1 a0_15.1 a0_16.1 a0_17.1 a0_18.1 a0_19.1 a0_20.1 a0_21.1 a0_22.1 a0_23.1 a0_24.1 (fun y1 y2 y3 y4 y5 y6 y7 y8 y9 y10 y11 y12 y13 y14 y15 y16 y17 y18 y19 y20 y21 y22 y23 y24 y25 => k (.agg [.str y1, .str y2, .str y3, .str y4, .bool y5, .own 5 1 .flat y6, .own 6 1 .flat y7, .own 7 1 .flat y8, .str y9, .str y10, .own 10 4 .clean y11, .bool y12, .own 12 4 .clean y13, .own 13 1 .flat y14, .own 14 8 .flat y15, .own 15 5 .flat y16, .own 16 2 .flat y17, .int .i64 y18, .int .i64 y19, .int .i64 y20, .int .i64 y21, .own 21 2 .flat y22, .own 22 1 .flat y23, .bool y24, .bool y25]))
abbrev W97 (F : T97) : WT := wrap s97 (G97 F)
theorem k97 (F98 : T98) (F46 : T46) (β : Type) (e : argsT s97) (k : V → Option β) : fnK cfg (tabL [(98, W98 F98), (46, W46 F46)]) noX 97 Tryz.f97 β (argsEnc s97 e) k = G97 (P97 F98 F46 ) β e k := by kernel_rfl
theorem ok97 : FnOk D 97 (W97 F97) := fn_okW [(98, W98 F98), (46, W46 F46)] noX (fun _ => rfl) Tryz.func97 rfl (tabL_cons ok98 (tabL_cons ok46 tabL_nil)) (k97 F98 F46 )
abbrev T45 : Type 1 := (β : Type) → List V → (List V → Option β) → Option β
def P45 (F97 : T97) : T45 := fun β a k =>
 chk (0 ≤ (a.length : Int) ∧ (a.length : Int) ≤ (a.length : Int) ∧ (a.length : Int) * 424 ≤ 140737488355328 ∧ (a.length : Int) ≤ 140737488355328) <|
 whileK (fun s1 =>
 br (decide ((lI s1 2) < ((lL s1 0).length : Int))) (
 chk (0 ≤ (lI s1 2)) <|
 idx true [.str, .str, .str, .str, .bool, .sl 1 true, .sl 1 true, .sl 1 true, .str, .str, .sl 4 false, .bool, .sl 4 false, .sl 1 true, .sl 8 true, .sl 5 true, .sl 2 true, .int .i64, .int .i64, .int .i64, .int .i64, .sl 2 true, .sl 1 true, .bool, .bool] (lL s1 0) ((lI s1 2).toNat) fun (e2 : List UInt8 × List UInt8 × List UInt8 × List UInt8 × Bool × List V × List V × List V × List UInt8 × List UInt8 × List V × Bool × List V × List V × List V × List V × List V × Int × Int × Int × Int × List V × List V × Bool × Bool × Unit) =>
 F97 _ e2.1 e2.2.1 e2.2.2.1 e2.2.2.2.1 e2.2.2.2.2.1 e2.2.2.2.2.2.1 e2.2.2.2.2.2.2.1 e2.2.2.2.2.2.2.2.1 e2.2.2.2.2.2.2.2.2.1 e2.2.2.2.2.2.2.2.2.2.1 e2.2.2.2.2.2.2.2.2.2.2.1 e2.2.2.2.2.2.2.2.2.2.2.2.1 e2.2.2.2.2.2.2.2.2.2.2.2.2.1 e2.2.2.2.2.2.2.2.2.2.2.2.2.2.1 e2.2.2.2.2.2.2.2.2.2.2.2.2.2.2.1 e2.2.2.2.2.2.2.2.2.2.2.2.2.2.2.2.1 e2.2.2.2.2.2.2.2.2.2.2.2.2.2.2.2.2.1 e2.2.2.2.2.2.2.2.2.2.2.2.2.2.2.2.2.2.1 e2.2.2.2.2.2.2.2.2.2.2.2.2.2.2.2.2.2.2.1 e2.2.2.2.2.2.2.2.2.2.2.2.2.2.2.2.2.2.2.2.1 e2.2.2.2.2.2.2.2.2.2.2.2.2.2.2.2.2.2.2.2.2.1 e2.2.2.2.2.2.2.2.2.2.2.2.2.2.2.2.2.2.2.2.2.2.1 e2.2.2.2.2.2.2.2.2.2.2.2.2.2.2.2.2.2.2.2.2.2.2.1 e2.2.2.2.2.2.2.2.2.2.2.2.2.2.2.2.2.2.2.2.2.2.2.2.1 e2.2.2.2.2.2.2.2.2.2.2.2.2.2.2.2.2.2.2.2.2.2.2.2.2.1 fun t3 t4 t5 t6 b7 l8 l9 l10 t11 t12 l13 b14 l15 l16 l17 l18 l19 n20 n21 n22 n23 l24 l25 b26 b27 =>
 chk (0 ≤ (lI s1 2) ∧ (lI s1 2).toNat < (lL s1 1).length) <|
 storeO (lL s1 1) ((lI s1 2).toNat) 0 [.str t3, .str t4, .str t5, .str t6, .bool b7, .sl 1 true l8, .sl 1 true l9, .sl 1 true l10, .str t11, .str t12, .sl 4 false l13, .bool b14, .sl 4 false l15, .sl 1 true l16, .sl 8 true l17, .sl 5 true l18, .sl 2 true l19, .int .i64 n20, .int .i64 n21, .int .i64 n22, .int .i64 n23, .sl 2 true l24, .sl 1 true l25, .bool b26, .bool b27] fun l28 =>
 some (.inl [.l (lL s1 0), .l l28, .i (IntKind.wrap .i64 ((lI s1 2) + 1))])) (
 some (.inr (0, [.l (lL s1 1)])))) [.l a, .l (List.replicate ((a.length : Int).toNat) (.agg [.str [], .str [], .str [], .str [], .bool false, .sl 1 true [], .sl 1 true [], .sl 1 true [], .str [], .str [], .sl 4 false [], .bool false, .sl 4 false [], .sl 1 true [], .sl 8 true [], .sl 5 true [], .sl 2 true [], .int .i64 0, .int .i64 0, .int .i64 0, .int .i64 0, .sl 2 true [], .sl 1 true [], .bool false, .bool false])), .i 0] fun (r29 : Nat × List Leaf) =>
 k (lL r29.2 0)
def F45 : T45 := P45 F97
def X45 : Exits := fun i => lookN i [] [(3, [(.exit 0, xk 23 [(3, .own 1000000 25 .clean [])] [])])]
abbrev s45 : List (Bool × List CK) := [(false, [.sl 25 false])]
def G45 (F : T45) (β : Type) (e : (List V × Unit) × Unit) (k : V → Option β) : Option β := F β e.1.1 (fun y1 => k (.own 0 25 .clean y1))
abbrev W45 (F : T45) : WT := wrap s45 (G45 F)
theorem k45 (F97 : T97) (β : Type) (e : argsT s45) (k : V → Option β) : fnK cfg (tabL [(97, W97 F97)]) X45 45 Tryz.f45 β (argsEnc s45 e) k = G45 (P45 F97 ) β e k := by kernel_rfl
theorem ok45 : FnOk D 45 (W45 F45) := fn_okW [(97, W97 F97)] X45 (fun _ => rfl) Tryz.func45 rfl (tabL_cons ok97 tabL_nil) (k45 F97 )
abbrev T18 : Type 1 := (β : Type) → List V → Int → (List V → Int → Option β) → Option β
def P18 (F45 : T45) : T18 := fun β a_Visits a_At k =>
 F45 _ a_Visits fun l1 =>
 k l1 a_At
def F18 : T18 := P18 F45
abbrev s18 : List (Bool × List CK) := [(true, [.sl 25 false, .int .i64])]
def G18 (F : T18) (β : Type) (e : (List V × Int × Unit) × Unit) (k : V → Option β) : Option β := F β e.1.1 e.1.2.1 (fun y1 y2 => k (.agg [.own 0 25 .clean y1, .int .i64 y2]))
abbrev W18 (F : T18) : WT := wrap s18 (G18 F)
theorem k18 (F45 : T45) (β : Type) (e : argsT s18) (k : V → Option β) : fnK cfg (tabL [(45, W45 F45)]) noX 18 Tryz.f18 β (argsEnc s18 e) k = G18 (P18 F45 ) β e k := by kernel_rfl
theorem ok18 : FnOk D 18 (W18 F18) := fn_okW [(45, W45 F45)] noX (fun _ => rfl) Tryz.func18 rfl (tabL_cons ok45 tabL_nil) (k18 F45 )
abbrev T107 : Type 1 := (β : Type) → List UInt8 → List UInt8 → Int → Int → List UInt8 → Int → Bool → List UInt8 → (List UInt8 → List UInt8 → Int → Int → List UInt8 → Int → Bool → List UInt8 → Option β) → Option β
def P107 (F98 : T98) (F151 : T151) : T107 := fun β a_To_Host a_To_Path a_Response_Status a_Response_Kind a_Response_Body a_Response_Age a_Response_Shares a_Response_Policy k =>
 F98 _ a_To_Host a_To_Path fun t1 t2 =>
 F151 _ a_Response_Status a_Response_Kind a_Response_Body a_Response_Age a_Response_Shares a_Response_Policy fun n3 n4 t5 n6 b7 t8 =>
 k t1 t2 n3 n4 t5 n6 b7 t8
def F107 : T107 := P107 F98 F151
abbrev s107 : List (Bool × List CK) := [(true, [.str, .str, .int .i64, .int .i64, .str, .int .i64, .bool, .str])]
def G107 (F : T107) (β : Type) (e : (List UInt8 × List UInt8 × Int × Int × List UInt8 × Int × Bool × List UInt8 × Unit) × Unit) (k : V → Option β) : Option β := let a0_0 := e.1; let a0_1 := a0_0.2; let a0_2 := a0_1.2; let a0_3 := a0_2.2; let a0_4 := a0_3.2; let a0_5 := a0_4.2; let a0_6 := a0_5.2; let a0_7 := a0_6.2; F β a0_0.1 a0_1.1 a0_2.1 a0_3.1 a0_4.1 a0_5.1 a0_6.1 a0_7.1 (fun y1 y2 y3 y4 y5 y6 y7 y8 => k (.agg [.str y1, .str y2, .int .i64 y3, .int .i64 y4, .str y5, .int .i64 y6, .bool y7, .str y8]))
abbrev W107 (F : T107) : WT := wrap s107 (G107 F)
theorem k107 (F98 : T98) (F151 : T151) (β : Type) (e : argsT s107) (k : V → Option β) : fnK cfg (tabL [(98, W98 F98), (151, W151 F151)]) noX 107 Tryz.f107 β (argsEnc s107 e) k = G107 (P107 F98 F151 ) β e k := by kernel_rfl
theorem ok107 : FnOk D 107 (W107 F107) := fn_okW [(98, W98 F98), (151, W151 F151)] noX (fun _ => rfl) Tryz.func107 rfl (tabL_cons ok98 (tabL_cons ok151 tabL_nil)) (k107 F98 F151 )
abbrev T47 : Type 1 := (β : Type) → List V → (List V → Option β) → Option β
def P47 (F107 : T107) : T47 := fun β a k =>
 chk (0 ≤ (a.length : Int) ∧ (a.length : Int) ≤ (a.length : Int) ∧ (a.length : Int) * 96 ≤ 140737488355328 ∧ (a.length : Int) ≤ 140737488355328) <|
 whileK (fun s1 =>
 br (decide ((lI s1 2) < ((lL s1 0).length : Int))) (
 chk (0 ≤ (lI s1 2)) <|
 idx true [.str, .str, .int .i64, .int .i64, .str, .int .i64, .bool, .str] (lL s1 0) ((lI s1 2).toNat) fun (e2 : List UInt8 × List UInt8 × Int × Int × List UInt8 × Int × Bool × List UInt8 × Unit) =>
 F107 _ e2.1 e2.2.1 e2.2.2.1 e2.2.2.2.1 e2.2.2.2.2.1 e2.2.2.2.2.2.1 e2.2.2.2.2.2.2.1 e2.2.2.2.2.2.2.2.1 fun t3 t4 n5 n6 t7 n8 b9 t10 =>
 chk (0 ≤ (lI s1 2) ∧ (lI s1 2).toNat < (lL s1 1).length) <|
 storeO (lL s1 1) ((lI s1 2).toNat) 0 [.str t3, .str t4, .int .i64 n5, .int .i64 n6, .str t7, .int .i64 n8, .bool b9, .str t10] fun l11 =>
 some (.inl [.l (lL s1 0), .l l11, .i (IntKind.wrap .i64 ((lI s1 2) + 1))])) (
 some (.inr (0, [.l (lL s1 1)])))) [.l a, .l (List.replicate ((a.length : Int).toNat) (.agg [.str [], .str [], .int .i64 0, .int .i64 0, .str [], .int .i64 0, .bool false, .str []])), .i 0] fun (r12 : Nat × List Leaf) =>
 k (lL r12.2 0)
def F47 : T47 := P47 F107
def X47 : Exits := fun i => lookN i [] [(3, [(.exit 0, xk 23 [(3, .own 1000000 8 .flat [])] [])])]
abbrev s47 : List (Bool × List CK) := [(false, [.sl 8 true])]
def G47 (F : T47) (β : Type) (e : (List V × Unit) × Unit) (k : V → Option β) : Option β := F β e.1.1 (fun y1 => k (.own 0 8 .flat y1))
abbrev W47 (F : T47) : WT := wrap s47 (G47 F)
theorem k47 (F107 : T107) (β : Type) (e : argsT s47) (k : V → Option β) : fnK cfg (tabL [(107, W107 F107)]) X47 47 Tryz.f47 β (argsEnc s47 e) k = G47 (P47 F107 ) β e k := by kernel_rfl
theorem ok47 : FnOk D 47 (W47 F47) := fn_okW [(107, W107 F107)] X47 (fun _ => rfl) Tryz.func47 rfl (tabL_cons ok107 tabL_nil) (k47 F107 )
abbrev T19 : Type 1 := (β : Type) → Bool → List UInt8 → List UInt8 → Bool → List V → List V → List V → List UInt8 → List UInt8 → List V → Bool → List V → List V → List V → List V → List V → Int → Int → Int → Int → List V → List V → Bool → List V → List V → Int → (Bool → List UInt8 → List UInt8 → Bool → List V → List V → List V → List UInt8 → List UInt8 → List V → Bool → List V → List V → List V → List V → List V → Int → Int → Int → Int → List V → List V → Bool → List V → List V → Int → Option β) → Option β
def P19 (F46 : T46) (F47 : T47) (F42 : T42) : T19 := fun β a_Ready a_Page_Addr_Host a_Page_Addr_Path a_Page_Policy_Set a_Page_Policy_Scripts a_Page_Policy_Styles a_Page_Policy_Images a_Page_Policy_Nonce a_Page_Tok_Rest a_Page_Queue a_Page_Ended a_Page_Builder_Nodes a_Page_Builder_Open a_Page_Slots a_Page_Mods a_Page_Entries a_Page_Block a_Page_Inline a_Page_Deferred a_Page_Entered a_Page_Ran a_Page_Log a_Page_Loaded a_Taken a_Servers a_Now k =>
 F46 _ a_Page_Addr_Host a_Page_Addr_Path a_Page_Policy_Set a_Page_Policy_Scripts a_Page_Policy_Styles a_Page_Policy_Images a_Page_Policy_Nonce a_Page_Tok_Rest a_Page_Queue a_Page_Ended a_Page_Builder_Nodes a_Page_Builder_Open a_Page_Slots a_Page_Mods a_Page_Entries a_Page_Block a_Page_Inline a_Page_Deferred a_Page_Entered a_Page_Ran a_Page_Log a_Page_Loaded fun t1 t2 b3 l4 l5 l6 t7 t8 l9 b10 l11 l12 l13 l14 l15 n16 n17 n18 n19 l20 l21 b22 =>
 F47 _ a_Taken fun l23 =>
 F42 _ a_Servers fun l24 =>
 k a_Ready t1 t2 b3 l4 l5 l6 t7 t8 l9 b10 l11 l12 l13 l14 l15 n16 n17 n18 n19 l20 l21 b22 l23 l24 a_Now
def F19 : T19 := P19 F46 F47 F42
abbrev s19 : List (Bool × List CK) := [(true, [.bool, .str, .str, .bool, .sl 1 true, .sl 1 true, .sl 1 true, .str, .str, .sl 4 false, .bool, .sl 4 false, .sl 1 true, .sl 8 true, .sl 5 true, .sl 2 true, .int .i64, .int .i64, .int .i64, .int .i64, .sl 2 true, .sl 1 true, .bool, .sl 8 true, .sl 2 false, .int .i64])]
def G19 (F : T19) (β : Type) (e : (Bool × List UInt8 × List UInt8 × Bool × List V × List V × List V × List UInt8 × List UInt8 × List V × Bool × List V × List V × List V × List V × List V × Int × Int × Int × Int × List V × List V × Bool × List V × List V × Int × Unit) × Unit) (k : V → Option β) : Option β := let a0_0 := e.1; let a0_1 := a0_0.2; let a0_2 := a0_1.2; let a0_3 := a0_2.2; let a0_4 := a0_3.2; let a0_5 := a0_4.2; let a0_6 := a0_5.2; let a0_7 := a0_6.2; let a0_8 := a0_7.2; let a0_9 := a0_8.2; let a0_10 := a0_9.2; let a0_11 := a0_10.2; let a0_12 := a0_11.2; let a0_13 := a0_12.2; let a0_14 := a0_13.2; let a0_15 := a0_14.2; let a0_16 := a0_15.2; let a0_17 := a0_16.2; let a0_18 := a0_17.2; let a0_19 := a0_18.2; let a0_20 := a0_19.2; let a0_21 := a0_20.2; let a0_22 := a0_21.2; let a0_23 := a0_22.2; let a0_24 := a0_23.2; let a0_25 := a0_24.2; F β a0_0.1 a0_1.1 a0_2.1 a0_3.1 a0_4.1 a0_5.1 a0_6.1 a0_7.1 a0_8.1 a0_9.1 a0_10.1 a0_11.1 a0_12.1 a0_13.1 a0_14.1 a0_15.1 a0_16.1 a0_17.1 a0_18.1 a0_19.1 a0_20.1 a0_21.1 a0_22.1 a0_23.1 a0_24.1 a0_25.1 (fun y1 y2 y3 y4 y5 y6 y7 y8 y9 y10 y11 y12 y13 y14 y15 y16 y17 y18 y19 y20 y21 y22 y23 y24 y25 y26 => k (.agg [.bool y1, .str y2, .str y3, .bool y4, .own 4 1 .flat y5, .own 5 1 .flat y6, .own 6 1 .flat y7, .str y8, .str y9, .own 9 4 .clean y10, .bool y11, .own 11 4 .clean y12, .own 12 1 .flat y13, .own 13 8 .flat y14, .own 14 5 .flat y15, .own 15 2 .flat y16, .int .i64 y17, .int .i64 y18, .int .i64 y19, .int .i64 y20, .own 20 2 .flat y21, .own 21 1 .flat y22, .bool y23, .own 23 8 .flat y24, .own 24 2 .clean y25, .int .i64 y26]))
abbrev W19 (F : T19) : WT := wrap s19 (G19 F)
theorem k19 (F46 : T46) (F47 : T47) (F42 : T42) (β : Type) (e : argsT s19) (k : V → Option β) : fnK cfg (tabL [(46, W46 F46), (47, W47 F47), (42, W42 F42)]) noX 19 Tryz.f19 β (argsEnc s19 e) k = G19 (P19 F46 F47 F42 ) β e k := by kernel_rfl
theorem ok19 : FnOk D 19 (W19 F19) := fn_okW [(46, W46 F46), (47, W47 F47), (42, W42 F42)] noX (fun _ => rfl) Tryz.func19 rfl (tabL_cons ok46 (tabL_cons ok47 (tabL_cons ok42 tabL_nil))) (k19 F46 F47 F42 )
abbrev T7 : Type 1 := (β : Type) → List V → List V → List V → Int → List V → Int → Bool → List UInt8 → List UInt8 → Bool → List V → List V → List V → List UInt8 → List UInt8 → List V → Bool → List V → List V → List V → List V → List V → Int → Int → Int → Int → List V → List V → Bool → List V → List V → Int → Bool → (List V → List V → List V → Int → List V → Int → Bool → List UInt8 → List UInt8 → Bool → List V → List V → List V → List UInt8 → List UInt8 → List V → Bool → List V → List V → List V → List V → List V → Int → Int → Int → Int → List V → List V → Bool → List V → List V → Int → Bool → Option β) → Option β
def P7 (F17 : T17) (F18 : T18) (F19 : T19) : T7 := fun β a_Net_Servers a_Net_Cache_Entries a_Net_Log a_Net_Now a_Tab_Visits a_Tab_At a_Hidden_Ready a_Hidden_Page_Addr_Host a_Hidden_Page_Addr_Path a_Hidden_Page_Policy_Set a_Hidden_Page_Policy_Scripts a_Hidden_Page_Policy_Styles a_Hidden_Page_Policy_Images a_Hidden_Page_Policy_Nonce a_Hidden_Page_Tok_Rest a_Hidden_Page_Queue a_Hidden_Page_Ended a_Hidden_Page_Builder_Nodes a_Hidden_Page_Builder_Open a_Hidden_Page_Slots a_Hidden_Page_Mods a_Hidden_Page_Entries a_Hidden_Page_Block a_Hidden_Page_Inline a_Hidden_Page_Deferred a_Hidden_Page_Entered a_Hidden_Page_Ran a_Hidden_Page_Log a_Hidden_Page_Loaded a_Hidden_Taken a_Hidden_Servers a_Hidden_Now a_Fast k =>
 F17 _ a_Net_Servers a_Net_Cache_Entries a_Net_Log a_Net_Now fun l1 l2 l3 n4 =>
 F18 _ a_Tab_Visits a_Tab_At fun l5 n6 =>
 F19 _ a_Hidden_Ready a_Hidden_Page_Addr_Host a_Hidden_Page_Addr_Path a_Hidden_Page_Policy_Set a_Hidden_Page_Policy_Scripts a_Hidden_Page_Policy_Styles a_Hidden_Page_Policy_Images a_Hidden_Page_Policy_Nonce a_Hidden_Page_Tok_Rest a_Hidden_Page_Queue a_Hidden_Page_Ended a_Hidden_Page_Builder_Nodes a_Hidden_Page_Builder_Open a_Hidden_Page_Slots a_Hidden_Page_Mods a_Hidden_Page_Entries a_Hidden_Page_Block a_Hidden_Page_Inline a_Hidden_Page_Deferred a_Hidden_Page_Entered a_Hidden_Page_Ran a_Hidden_Page_Log a_Hidden_Page_Loaded a_Hidden_Taken a_Hidden_Servers a_Hidden_Now fun b7 t8 t9 b10 l11 l12 l13 t14 t15 l16 b17 l18 l19 l20 l21 l22 n23 n24 n25 n26 l27 l28 b29 l30 l31 n32 =>
 k l1 l2 l3 n4 l5 n6 b7 t8 t9 b10 l11 l12 l13 t14 t15 l16 b17 l18 l19 l20 l21 l22 n23 n24 n25 n26 l27 l28 b29 l30 l31 n32 a_Fast
def F7 : T7 := P7 F17 F18 F19
abbrev s7 : List (Bool × List CK) := [(true, [.sl 2 false, .sl 10 true, .sl 4 true, .int .i64, .sl 25 false, .int .i64, .bool, .str, .str, .bool, .sl 1 true, .sl 1 true, .sl 1 true, .str, .str, .sl 4 false, .bool, .sl 4 false, .sl 1 true, .sl 8 true, .sl 5 true, .sl 2 true, .int .i64, .int .i64, .int .i64, .int .i64, .sl 2 true, .sl 1 true, .bool, .sl 8 true, .sl 2 false, .int .i64, .bool])]
def G7 (F : T7) (β : Type) (e : (List V × List V × List V × Int × List V × Int × Bool × List UInt8 × List UInt8 × Bool × List V × List V × List V × List UInt8 × List UInt8 × List V × Bool × List V × List V × List V × List V × List V × Int × Int × Int × Int × List V × List V × Bool × List V × List V × Int × Bool × Unit) × Unit) (k : V → Option β) : Option β := let a0_0 := e.1; let a0_1 := a0_0.2; let a0_2 := a0_1.2; let a0_3 := a0_2.2; let a0_4 := a0_3.2; let a0_5 := a0_4.2; let a0_6 := a0_5.2; let a0_7 := a0_6.2; let a0_8 := a0_7.2; let a0_9 := a0_8.2; let a0_10 := a0_9.2; let a0_11 := a0_10.2; let a0_12 := a0_11.2; let a0_13 := a0_12.2; let a0_14 := a0_13.2; let a0_15 := a0_14.2; let a0_16 := a0_15.2; let a0_17 := a0_16.2; let a0_18 := a0_17.2; let a0_19 := a0_18.2; let a0_20 := a0_19.2; let a0_21 := a0_20.2; let a0_22 := a0_21.2; let a0_23 := a0_22.2; let a0_24 := a0_23.2; let a0_25 := a0_24.2; let a0_26 := a0_25.2; let a0_27 := a0_26.2; let a0_28 := a0_27.2; let a0_29 := a0_28.2; let a0_30 := a0_29.2; let a0_31 := a0_30.2; let a0_32 := a0_31.2; F β a0_0.1 a0_1.1 a0_2.1 a0_3.1 a0_4.1 a0_5.1 a0_6.1 a0_7.1 a0_8.1 a0_9.1 a0_10.1 a0_11.1 a0_12.1 a0_13.1 a0_14.1 a0_15.1 a0_16.1 a0_17.1 a0_18.1 a0_19.1 a0_20.1 a0_21.1 a0_22.1 a0_23.1 a0_24.1 a0_25.1 a0_26.1 a0_27.1 a0_28.1 a0_29.1 a0_30.1 a0_31.1 a0_32.1 (fun y1 y2 y3 y4 y5 y6 y7 y8 y9 y10 y11 y12 y13 y14 y15 y16 y17 y18 y19 y20 y21 y22 y23 y24 y25 y26 y27 y28 y29 y30 y31 y32 y33 => k (.agg [.own 0 2 .clean y1, .own 1 10 .flat y2, .own 2 4 .flat y3, .int .i64 y4, .own 4 25 .clean y5, .int .i64 y6, .bool y7, .str y8, .str y9, .bool y10, .own 10 1 .flat y11, .own 11 1 .flat y12, .own 12 1 .flat y13, .str y14, .str y15, .own 15 4 .clean y16, .bool y17, .own 17 4 .clean y18, .own 18 1 .flat y19, .own 19 8 .flat y20, .own 20 5 .flat y21, .own 21 2 .flat y22, .int .i64 y23, .int .i64 y24, .int .i64 y25, .int .i64 y26, .own 26 2 .flat y27, .own 27 1 .flat y28, .bool y29, .own 29 8 .flat y30, .own 30 2 .clean y31, .int .i64 y32, .bool y33]))
abbrev W7 (F : T7) : WT := wrap s7 (G7 F)
theorem k7 (F17 : T17) (F18 : T18) (F19 : T19) (β : Type) (e : argsT s7) (k : V → Option β) : fnK cfg (tabL [(17, W17 F17), (18, W18 F18), (19, W19 F19)]) noX 7 Tryz.f7 β (argsEnc s7 e) k = G7 (P7 F17 F18 F19 ) β e k := by kernel_rfl
theorem ok7 : FnOk D 7 (W7 F7) := fn_okW [(17, W17 F17), (18, W18 F18), (19, W19 F19)] noX (fun _ => rfl) Tryz.func7 rfl (tabL_cons ok17 (tabL_cons ok18 (tabL_cons ok19 tabL_nil))) (k7 F17 F18 F19 )
abbrev T41 : Type 1 := (β : Type) → Int → Int → Int → (Bool → Option β) → Option β
def P41 : T41 := fun β x least most k =>
 br (decide (x ≥ least)) (
 k (decide (x ≤ most))) (
 k false)
def F41 : T41 := P41
abbrev s41 : List (Bool × List CK) := [(false, [.int .i64]), (false, [.int .i64]), (false, [.int .i64])]
def G41 (F : T41) (β : Type) (e : (Int × Unit) × (Int × Unit) × (Int × Unit) × Unit) (k : V → Option β) : Option β := F β e.1.1 e.2.1.1 e.2.2.1.1 (fun y1 => k (.bool y1))
abbrev W41 (F : T41) : WT := wrap s41 (G41 F)
theorem k41 (β : Type) (e : argsT s41) (k : V → Option β) : fnK cfg (tabL []) noX 41 Tryz.f41 β (argsEnc s41 e) k = G41 (P41 ) β e k := by kernel_rfl
theorem ok41 : FnOk D 41 (W41 F41) := fn_okW [] noX (fun _ => rfl) Tryz.func41 rfl (tabL_nil) (k41 )
abbrev T90 : Type 1 := (β : Type) → List UInt8 → (Bool → Option β) → Option β
def P90 (F41 : T41) : T90 := fun β s k =>
 whileK (fun s1 =>
 br (decide ((lI s1 1) < ((lS s1 0).length : Int))) (
 idxS (lS s1 0) (lI s1 1) fun b2 =>
 br (decide (b2 < 97)) (
 some (.inr (0, [.s (lS s1 0), .b false]))) (
 idxS (lS s1 0) (lI s1 1) fun b3 =>
 br (decide (b3 > 122)) (
 some (.inr (0, [.s (lS s1 0), .b false]))) (
 some (.inl [.s (lS s1 0), .i (IntKind.wrap .i64 ((lI s1 1) + 1))])))) (
 some (.inr (1, [.s (lS s1 0)])))) [.s s, .i 0] fun (r4 : Nat × List Leaf) =>
 if r4.1 = 0 then
 k (lB r4.2 1)
 else
 F41 _ ((lS r4.2 0).length : Int) 1 8 fun b5 =>
 k b5
def F90 : T90 := P90 F41
def X90 : Exits := fun i => lookN i [] [(2, [(.ret, xk 23 [(0, .str []), (2, .bool false)] []), (.exit 0, xk 23 [(0, .str [])] [])])]
abbrev s90 : List (Bool × List CK) := [(false, [.str])]
def G90 (F : T90) (β : Type) (e : (List UInt8 × Unit) × Unit) (k : V → Option β) : Option β := F β e.1.1 (fun y1 => k (.bool y1))
abbrev W90 (F : T90) : WT := wrap s90 (G90 F)
theorem k90 (F41 : T41) (β : Type) (e : argsT s90) (k : V → Option β) : fnK cfg (tabL [(41, W41 F41)]) X90 90 Tryz.f90 β (argsEnc s90 e) k = G90 (P90 F41 ) β e k := by kernel_rfl
theorem ok90 : FnOk D 90 (W90 F90) := fn_okW [(41, W41 F41)] X90 (fun _ => rfl) Tryz.func90 rfl (tabL_cons ok41 tabL_nil) (k90 F41 )
abbrev T173 : Type 1 := (β : Type) → List UInt8 → Int → (List V → Option β) → Option β
def P173 : T173 := fun β s xby k =>
 whileK (fun s1 =>
 br (decide ((lI s1 4) ≤ ((lS s1 0).length : Int))) (
 br ((lI s1 4) == ((lS s1 0).length : Int)) (
 chk (0 ≤ (lI s1 3) ∧ (lI s1 3) ≤ (lI s1 4) ∧ (lI s1 4) ≤ ((lS s1 0).length : Int)) <|
 chk (((lL s1 2).length + ([.str (((lS s1 0).take ((lI s1 4).toNat)).drop ((lI s1 3).toNat))] : List V).length) * 16 ≤ 140737488355328 ∧ (lL s1 2).length + ([.str (((lS s1 0).take ((lI s1 4).toNat)).drop ((lI s1 3).toNat))] : List V).length ≤ 140737488355328) <|
 some (.inl [.s (lS s1 0), .i (lI s1 1), .l ((lL s1 2) ++ ([.str (((lS s1 0).take ((lI s1 4).toNat)).drop ((lI s1 3).toNat))] : List V)), .i (IntKind.wrap .i64 ((lI s1 4) + 1)), .i (IntKind.wrap .i64 ((lI s1 4) + 1))])) (
 idxS (lS s1 0) (lI s1 4) fun b2 =>
 br (b2 == (lI s1 1)) (
 chk (0 ≤ (lI s1 3) ∧ (lI s1 3) ≤ (lI s1 4) ∧ (lI s1 4) ≤ ((lS s1 0).length : Int)) <|
 chk (((lL s1 2).length + ([.str (((lS s1 0).take ((lI s1 4).toNat)).drop ((lI s1 3).toNat))] : List V).length) * 16 ≤ 140737488355328 ∧ (lL s1 2).length + ([.str (((lS s1 0).take ((lI s1 4).toNat)).drop ((lI s1 3).toNat))] : List V).length ≤ 140737488355328) <|
 some (.inl [.s (lS s1 0), .i (lI s1 1), .l ((lL s1 2) ++ ([.str (((lS s1 0).take ((lI s1 4).toNat)).drop ((lI s1 3).toNat))] : List V)), .i (IntKind.wrap .i64 ((lI s1 4) + 1)), .i (IntKind.wrap .i64 ((lI s1 4) + 1))])) (
 some (.inl [.s (lS s1 0), .i (lI s1 1), .l (lL s1 2), .i (lI s1 3), .i (IntKind.wrap .i64 ((lI s1 4) + 1))])))) (
 some (.inr (0, [.l (lL s1 2)])))) [.s s, .i xby, .l [], .i 0, .i 0] fun (r3 : Nat × List Leaf) =>
 k (lL r3.2 0)
def F173 : T173 := P173
def X173 : Exits := fun i => lookN i [] [(4, [(.exit 0, xk 36 [(5, .own 1000000 1 .flat [])] [])])]
abbrev s173 : List (Bool × List CK) := [(false, [.str]), (false, [.int .u8])]
def G173 (F : T173) (β : Type) (e : (List UInt8 × Unit) × (Int × Unit) × Unit) (k : V → Option β) : Option β := F β e.1.1 e.2.1.1 (fun y1 => k (.own 0 1 .flat y1))
abbrev W173 (F : T173) : WT := wrap s173 (G173 F)
theorem k173 (β : Type) (e : argsT s173) (k : V → Option β) : fnK cfg (tabL []) X173 173 Tryz.f173 β (argsEnc s173 e) k = G173 (P173 ) β e k := by kernel_rfl
theorem ok173 : FnOk D 173 (W173 F173) := fn_okW [] X173 (fun _ => rfl) Tryz.func173 rfl (tabL_nil) (k173 )
abbrev T210 : Type 1 := (β : Type) → List V → (Bool → Option β) → Option β
def P210 (F90 : T90) : T210 := fun β l k =>
 whileK (fun s1 =>
 br (decide ((lI s1 1) < ((lL s1 0).length : Int))) (
 chk (0 ≤ (lI s1 1)) <|
 idx false [.str] (lL s1 0) ((lI s1 1).toNat) fun (e2 : List UInt8 × Unit) =>
 F90 _ e2.1 fun b3 =>
 br (!b3) (
 some (.inr (0, [.l (lL s1 0), .b false]))) (
 some (.inl [.l (lL s1 0), .i (IntKind.wrap .i64 ((lI s1 1) + 1))]))) (
 some (.inr (1, [.l (lL s1 0)])))) [.l l, .i 0] fun (r4 : Nat × List Leaf) =>
 if r4.1 = 0 then
 k (lB r4.2 1)
 else
 k (decide (((lL r4.2 0).length : Int) ≤ 4))
def F210 : T210 := P210 F90
def X210 : Exits := fun i => lookN i [] [(2, [(.ret, xk 19 [(0, .sl 1 true []), (2, .bool false)] []), (.exit 0, xk 19 [(0, .sl 1 true [])] [])])]
abbrev s210 : List (Bool × List CK) := [(false, [.sl 1 true])]
def G210 (F : T210) (β : Type) (e : (List V × Unit) × Unit) (k : V → Option β) : Option β := F β e.1.1 (fun y1 => k (.bool y1))
abbrev W210 (F : T210) : WT := wrap s210 (G210 F)
theorem k210 (F90 : T90) (β : Type) (e : argsT s210) (k : V → Option β) : fnK cfg (tabL [(90, W90 F90)]) X210 210 Tryz.f210 β (argsEnc s210 e) k = G210 (P210 F90 ) β e k := by kernel_rfl
theorem ok210 : FnOk D 210 (W210 F210) := fn_okW [(90, W90 F90)] X210 (fun _ => rfl) Tryz.func210 rfl (tabL_cons ok90 tabL_nil) (k210 F90 )
abbrev T211 : Type 1 := (β : Type) → List UInt8 → (Bool → Option β) → Option β
def P211 (F41 : T41) : T211 := fun β s k =>
 whileK (fun s1 =>
 br (decide ((lI s1 1) < ((lS s1 0).length : Int))) (
 idxS (lS s1 0) (lI s1 1) fun b2 =>
 br (decide (b2 < 97)) (
 idxS (lS s1 0) (lI s1 1) fun b3 =>
 br (decide (b3 < 48)) (
 idxS (lS s1 0) (lI s1 1) fun b4 =>
 br (b4 != 47) (
 some (.inr (0, [.s (lS s1 0), .b false]))) (
 some (.inl [.s (lS s1 0), .i (IntKind.wrap .i64 ((lI s1 1) + 1))]))) (
 idxS (lS s1 0) (lI s1 1) fun b5 =>
 br (decide (b5 > 57)) (
 idxS (lS s1 0) (lI s1 1) fun b6 =>
 br (b6 != 47) (
 some (.inr (0, [.s (lS s1 0), .b false]))) (
 some (.inl [.s (lS s1 0), .i (IntKind.wrap .i64 ((lI s1 1) + 1))]))) (
 some (.inl [.s (lS s1 0), .i (IntKind.wrap .i64 ((lI s1 1) + 1))])))) (
 idxS (lS s1 0) (lI s1 1) fun b7 =>
 br (decide (b7 > 122)) (
 idxS (lS s1 0) (lI s1 1) fun b8 =>
 br (decide (b8 < 48)) (
 idxS (lS s1 0) (lI s1 1) fun b9 =>
 br (b9 != 47) (
 some (.inr (0, [.s (lS s1 0), .b false]))) (
 some (.inl [.s (lS s1 0), .i (IntKind.wrap .i64 ((lI s1 1) + 1))]))) (
 idxS (lS s1 0) (lI s1 1) fun b10 =>
 br (decide (b10 > 57)) (
 idxS (lS s1 0) (lI s1 1) fun b11 =>
 br (b11 != 47) (
 some (.inr (0, [.s (lS s1 0), .b false]))) (
 some (.inl [.s (lS s1 0), .i (IntKind.wrap .i64 ((lI s1 1) + 1))]))) (
 some (.inl [.s (lS s1 0), .i (IntKind.wrap .i64 ((lI s1 1) + 1))])))) (
 some (.inl [.s (lS s1 0), .i (IntKind.wrap .i64 ((lI s1 1) + 1))])))) (
 some (.inr (1, [.s (lS s1 0)])))) [.s s, .i 0] fun (r12 : Nat × List Leaf) =>
 if r12.1 = 0 then
 k (lB r12.2 1)
 else
 F41 _ ((lS r12.2 0).length : Int) 1 20 fun b13 =>
 k b13
def F211 : T211 := P211 F41
def X211 : Exits := fun i => lookN i [] [(2, [(.ret, xk 41 [(0, .str []), (2, .bool false)] []), (.exit 0, xk 41 [(0, .str [])] [])])]
abbrev s211 : List (Bool × List CK) := [(false, [.str])]
def G211 (F : T211) (β : Type) (e : (List UInt8 × Unit) × Unit) (k : V → Option β) : Option β := F β e.1.1 (fun y1 => k (.bool y1))
abbrev W211 (F : T211) : WT := wrap s211 (G211 F)
theorem k211 (F41 : T41) (β : Type) (e : argsT s211) (k : V → Option β) : fnK cfg (tabL [(41, W41 F41)]) X211 211 Tryz.f211 β (argsEnc s211 e) k = G211 (P211 F41 ) β e k := by kernel_rfl
theorem ok211 : FnOk D 211 (W211 F211) := fn_okW [(41, W41 F41)] X211 (fun _ => rfl) Tryz.func211 rfl (tabL_cons ok41 tabL_nil) (k211 F41 )
abbrev T191 : Type 1 := (β : Type) → Bool → List V → List V → List V → List UInt8 → (Bool → Option β) → Option β
def P191 (F210 : T210) (F211 : T211) : T191 := fun β p_Set p_Scripts p_Styles p_Images p_Nonce k =>
 br (!p_Set) (
 br ((p_Scripts.length : Int) == 0) (
 br ((p_Styles.length : Int) == 0) (
 br ((p_Images.length : Int) == 0) (
 k (p_Nonce == [])) (
 k false)) (
 k false)) (
 k false)) (
 F210 _ p_Scripts fun b1 =>
 br b1 (
 F210 _ p_Styles fun b2 =>
 br b2 (
 F210 _ p_Images fun b3 =>
 br b3 (
 br (p_Nonce == []) (
 k true) (
 F211 _ p_Nonce fun b4 =>
 k b4)) (
 k false)) (
 k false)) (
 k false))
def F191 : T191 := P191 F210 F211
abbrev s191 : List (Bool × List CK) := [(true, [.bool, .sl 1 true, .sl 1 true, .sl 1 true, .str])]
def G191 (F : T191) (β : Type) (e : (Bool × List V × List V × List V × List UInt8 × Unit) × Unit) (k : V → Option β) : Option β := let a0_0 := e.1; let a0_1 := a0_0.2; let a0_2 := a0_1.2; let a0_3 := a0_2.2; let a0_4 := a0_3.2; F β a0_0.1 a0_1.1 a0_2.1 a0_3.1 a0_4.1 (fun y1 => k (.bool y1))
abbrev W191 (F : T191) : WT := wrap s191 (G191 F)
theorem k191 (F210 : T210) (F211 : T211) (β : Type) (e : argsT s191) (k : V → Option β) : fnK cfg (tabL [(210, W210 F210), (211, W211 F211)]) noX 191 Tryz.f191 β (argsEnc s191 e) k = G191 (P191 F210 F211 ) β e k := by kernel_rfl
theorem ok191 : FnOk D 191 (W191 F191) := fn_okW [(210, W210 F210), (211, W211 F211)] noX (fun _ => rfl) Tryz.func191 rfl (tabL_cons ok210 (tabL_cons ok211 tabL_nil)) (k191 F210 F211 )
abbrev T192 : Type 1 := (β : Type) → List UInt8 → List V → (List UInt8 → Option β) → Option β
def P192 : T192 := fun β word l k =>
 whileK (fun s1 =>
 br (decide ((lI s1 2) < ((lL s1 1).length : Int))) (
 chk ((lS s1 0).length + ([32] : List UInt8).length ≤ 9223372036854775807) <|
 chk (0 ≤ (lI s1 2)) <|
 idx false [.str] (lL s1 1) ((lI s1 2).toNat) fun (e2 : List UInt8 × Unit) =>
 chk (((lS s1 0) ++ [32]).length + e2.1.length ≤ 9223372036854775807) <|
 some (.inl [.s (((lS s1 0) ++ [32]) ++ e2.1), .l (lL s1 1), .i (IntKind.wrap .i64 ((lI s1 2) + 1))])) (
 some (.inr (0, [.s (lS s1 0)])))) [.s word, .l l, .i 0] fun (r3 : Nat × List Leaf) =>
 k (lS r3.2 0)
def F192 : T192 := P192
def X192 : Exits := fun i => lookN i [] [(2, [(.exit 0, xk 20 [(0, .str [])] [])])]
abbrev s192 : List (Bool × List CK) := [(false, [.str]), (false, [.sl 1 true])]
def G192 (F : T192) (β : Type) (e : (List UInt8 × Unit) × (List V × Unit) × Unit) (k : V → Option β) : Option β := F β e.1.1 e.2.1.1 (fun y1 => k (.str y1))
abbrev W192 (F : T192) : WT := wrap s192 (G192 F)
theorem k192 (β : Type) (e : argsT s192) (k : V → Option β) : fnK cfg (tabL []) X192 192 Tryz.f192 β (argsEnc s192 e) k = G192 (P192 ) β e k := by kernel_rfl
theorem ok192 : FnOk D 192 (W192 F192) := fn_okW [] X192 (fun _ => rfl) Tryz.func192 rfl (tabL_nil) (k192 )
abbrev T174 : Type 1 := (β : Type) → Bool → List V → List V → List V → List UInt8 → (List UInt8 → Option β) → Option β
def P174 (F191 : T191) (F192 : T192) : T174 := fun β p_Set p_Scripts p_Styles p_Images p_Nonce k =>
 F191 _ p_Set p_Scripts p_Styles p_Images p_Nonce fun b1 =>
 br (!b1) (
 k []) (
 br (!p_Set) (
 k []) (
 F192 _ [115, 99, 114, 105, 112, 116] p_Scripts fun t2 =>
 chk (t2.length + ([59] : List UInt8).length ≤ 9223372036854775807) <|
 F192 _ [115, 116, 121, 108, 101] p_Styles fun t3 =>
 chk ((t2 ++ [59]).length + t3.length ≤ 9223372036854775807) <|
 chk (((t2 ++ [59]) ++ t3).length + ([59] : List UInt8).length ≤ 9223372036854775807) <|
 F192 _ [105, 109, 103] p_Images fun t4 =>
 chk ((((t2 ++ [59]) ++ t3) ++ [59]).length + t4.length ≤ 9223372036854775807) <|
 br (!(p_Nonce == [])) (
 chk (((((t2 ++ [59]) ++ t3) ++ [59]) ++ t4).length + ([59, 110, 111, 110, 99, 101, 32] : List UInt8).length ≤ 9223372036854775807) <|
 chk ((((((t2 ++ [59]) ++ t3) ++ [59]) ++ t4) ++ [59, 110, 111, 110, 99, 101, 32]).length + p_Nonce.length ≤ 9223372036854775807) <|
 k ((((((t2 ++ [59]) ++ t3) ++ [59]) ++ t4) ++ [59, 110, 111, 110, 99, 101, 32]) ++ p_Nonce)) (
 k ((((t2 ++ [59]) ++ t3) ++ [59]) ++ t4))))
def F174 : T174 := P174 F191 F192
abbrev s174 : List (Bool × List CK) := [(true, [.bool, .sl 1 true, .sl 1 true, .sl 1 true, .str])]
def G174 (F : T174) (β : Type) (e : (Bool × List V × List V × List V × List UInt8 × Unit) × Unit) (k : V → Option β) : Option β := let a0_0 := e.1; let a0_1 := a0_0.2; let a0_2 := a0_1.2; let a0_3 := a0_2.2; let a0_4 := a0_3.2; F β a0_0.1 a0_1.1 a0_2.1 a0_3.1 a0_4.1 (fun y1 => k (.str y1))
abbrev W174 (F : T174) : WT := wrap s174 (G174 F)
theorem k174 (F191 : T191) (F192 : T192) (β : Type) (e : argsT s174) (k : V → Option β) : fnK cfg (tabL [(191, W191 F191), (192, W192 F192)]) noX 174 Tryz.f174 β (argsEnc s174 e) k = G174 (P174 F191 F192 ) β e k := by kernel_rfl
theorem ok174 : FnOk D 174 (W174 F174) := fn_okW [(191, W191 F191), (192, W192 F192)] noX (fun _ => rfl) Tryz.func174 rfl (tabL_cons ok191 (tabL_cons ok192 tabL_nil)) (k174 F191 F192 )
abbrev T143 : Type 1 := (β : Type) → List UInt8 → (Bool → List V → List V → List V → List UInt8 → Bool → Option β) → Option β
def P143 (F173 : T173) (F174 : T174) : T143 := fun β s k =>
 br (s == []) (
 k false [] [] [] [] true) (
 F173 _ s 59 fun l1 =>
 br (decide ((l1.length : Int) < 3)) (
 k false [] [] [] [] false) (
 chk (0 ≤ (0 : Int) ∧ 0 < l1.length) <|
 idxAt [.str] l1 0 0 fun (e2 : List UInt8 × Unit) =>
 F173 _ e2.1 32 fun l3 =>
 chk (0 ≤ (1 : Int) ∧ (1 : Int) ≤ (l3.length : Int) ∧ (l3.length : Int) ≤ (l3.length : Int)) <|
 chk (0 ≤ (1 : Int) ∧ 1 < l1.length) <|
 idxAt [.str] l1 1 0 fun (e4 : List UInt8 × Unit) =>
 F173 _ e4.1 32 fun l5 =>
 chk (0 ≤ (1 : Int) ∧ (1 : Int) ≤ (l5.length : Int) ∧ (l5.length : Int) ≤ (l5.length : Int)) <|
 chk (0 ≤ (2 : Int) ∧ 2 < l1.length) <|
 idxAt [.str] l1 2 0 fun (e6 : List UInt8 × Unit) =>
 F173 _ e6.1 32 fun l7 =>
 chk (0 ≤ (1 : Int) ∧ (1 : Int) ≤ (l7.length : Int) ∧ (l7.length : Int) ≤ (l7.length : Int)) <|
 br (decide ((l1.length : Int) > 3)) (
 chk (0 ≤ (3 : Int) ∧ 3 < l1.length) <|
 idxAt [.str] l1 3 0 fun (e8 : List UInt8 × Unit) =>
 br (decide ((e8.1.length : Int) > 6)) (
 chk (0 ≤ (3 : Int) ∧ 3 < l1.length) <|
 idxAt [.str] l1 3 0 fun (e9 : List UInt8 × Unit) =>
 chk (0 ≤ (6 : Int) ∧ (6 : Int) ≤ (e9.1.length : Int) ∧ (e9.1.length : Int) ≤ (e9.1.length : Int)) <|
 F174 _ true ((l3.take ((l3.length : Int).toNat)).drop 1) ((l5.take ((l5.length : Int).toNat)).drop 1) ((l7.take ((l7.length : Int).toNat)).drop 1) ((e9.1.take ((e9.1.length : Int).toNat)).drop 6) fun t10 =>
 br (!(t10 == s)) (
 k false [] [] [] [] false) (
 k true ((l3.take ((l3.length : Int).toNat)).drop 1) ((l5.take ((l5.length : Int).toNat)).drop 1) ((l7.take ((l7.length : Int).toNat)).drop 1) ((e9.1.take ((e9.1.length : Int).toNat)).drop 6) true)) (
 F174 _ true ((l3.take ((l3.length : Int).toNat)).drop 1) ((l5.take ((l5.length : Int).toNat)).drop 1) ((l7.take ((l7.length : Int).toNat)).drop 1) [] fun t11 =>
 br (!(t11 == s)) (
 k false [] [] [] [] false) (
 k true ((l3.take ((l3.length : Int).toNat)).drop 1) ((l5.take ((l5.length : Int).toNat)).drop 1) ((l7.take ((l7.length : Int).toNat)).drop 1) [] true))) (
 F174 _ true ((l3.take ((l3.length : Int).toNat)).drop 1) ((l5.take ((l5.length : Int).toNat)).drop 1) ((l7.take ((l7.length : Int).toNat)).drop 1) [] fun t12 =>
 br (!(t12 == s)) (
 k false [] [] [] [] false) (
 k true ((l3.take ((l3.length : Int).toNat)).drop 1) ((l5.take ((l5.length : Int).toNat)).drop 1) ((l7.take ((l7.length : Int).toNat)).drop 1) [] true))))
def F143 : T143 := P143 F173 F174
abbrev s143 : List (Bool × List CK) := [(false, [.str])]
def G143 (F : T143) (β : Type) (e : (List UInt8 × Unit) × Unit) (k : V → Option β) : Option β := F β e.1.1 (fun y1 y2 y3 y4 y5 y6 => k (.tup [.agg [.bool y1, .view 1 1 .flat y2, .view 2 1 .flat y3, .view 3 1 .flat y4, .str y5], .bool y6]))
abbrev W143 (F : T143) : WT := wrap s143 (G143 F)
theorem k143 (F173 : T173) (F174 : T174) (β : Type) (e : argsT s143) (k : V → Option β) : fnK cfg (tabL [(173, W173 F173), (174, W174 F174)]) noX 143 Tryz.f143 β (argsEnc s143 e) k = G143 (P143 F173 F174 ) β e k := by kernel_rfl
theorem ok143 : FnOk D 143 (W143 F143) := fn_okW [(173, W173 F173), (174, W174 F174)] noX (fun _ => rfl) Tryz.func143 rfl (tabL_cons ok173 (tabL_cons ok174 tabL_nil)) (k143 F173 F174 )
abbrev T92 : Type 1 := (β : Type) → Int → Int → List UInt8 → Int → Bool → List UInt8 → (Bool → Option β) → Option β
def P92 (F143 : T143) (F41 : T41) : T92 := fun β x_Status x_Kind x_Body x_Age x_Shares x_Policy k =>
 F143 _ x_Policy fun b1 l2 l3 l4 t5 b6 =>
 F41 _ x_Status 100 599 fun b7 =>
 br b7 (
 F41 _ x_Kind 1 5 fun b8 =>
 br b8 (
 br (decide ((x_Body.length : Int) ≤ 400)) (
 F41 _ x_Age 0 1000 fun b9 =>
 br b9 (
 k b6) (
 k false)) (
 k false)) (
 k false)) (
 k false)
def F92 : T92 := P92 F143 F41
abbrev s92 : List (Bool × List CK) := [(true, [.int .i64, .int .i64, .str, .int .i64, .bool, .str])]
def G92 (F : T92) (β : Type) (e : (Int × Int × List UInt8 × Int × Bool × List UInt8 × Unit) × Unit) (k : V → Option β) : Option β := let a0_0 := e.1; let a0_1 := a0_0.2; let a0_2 := a0_1.2; let a0_3 := a0_2.2; let a0_4 := a0_3.2; let a0_5 := a0_4.2; F β a0_0.1 a0_1.1 a0_2.1 a0_3.1 a0_4.1 a0_5.1 (fun y1 => k (.bool y1))
abbrev W92 (F : T92) : WT := wrap s92 (G92 F)
theorem k92 (F143 : T143) (F41 : T41) (β : Type) (e : argsT s92) (k : V → Option β) : fnK cfg (tabL [(143, W143 F143), (41, W41 F41)]) noX 92 Tryz.f92 β (argsEnc s92 e) k = G92 (P92 F143 F41 ) β e k := by kernel_rfl
theorem ok92 : FnOk D 92 (W92 F92) := fn_okW [(143, W143 F143), (41, W41 F41)] noX (fun _ => rfl) Tryz.func92 rfl (tabL_cons ok143 (tabL_cons ok41 tabL_nil)) (k92 F143 F41 )
abbrev T88 : Type 1 := (β : Type) → List UInt8 → List V → (Bool → Option β) → Option β
def P88 (F90 : T90) (F92 : T92) : T88 := fun β s_Host s_Files k =>
 whileK (fun s1 =>
 br (decide ((lI s1 0) < ((lL s1 2).length : Int))) (
 chk (0 ≤ (lI s1 0)) <|
 idx true [.str, .int .i64, .int .i64, .str, .int .i64, .bool, .str] (lL s1 2) ((lI s1 0).toNat) fun (e2 : List UInt8 × Int × Int × List UInt8 × Int × Bool × List UInt8 × Unit) =>
 F90 _ e2.1 fun b3 =>
 br (!b3) (
 some (.inr (0, [.b false, .s (lS s1 1), .l (lL s1 2)]))) (
 chk (0 ≤ (lI s1 0)) <|
 idx true [.str, .int .i64, .int .i64, .str, .int .i64, .bool, .str] (lL s1 2) ((lI s1 0).toNat) fun (e4 : List UInt8 × Int × Int × List UInt8 × Int × Bool × List UInt8 × Unit) =>
 F92 _ e4.2.1 e4.2.2.1 e4.2.2.2.1 e4.2.2.2.2.1 e4.2.2.2.2.2.1 e4.2.2.2.2.2.2.1 fun b5 =>
 br (!b5) (
 some (.inr (0, [.b false, .s (lS s1 1), .l (lL s1 2)]))) (
 whileK (fun s6 =>
 br (decide ((lI s6 1) < (lI s6 0))) (
 chk (0 ≤ (lI s6 1)) <|
 idx true [.str, .int .i64, .int .i64, .str, .int .i64, .bool, .str] (lL s6 3) ((lI s6 1).toNat) fun (e7 : List UInt8 × Int × Int × List UInt8 × Int × Bool × List UInt8 × Unit) =>
 chk (0 ≤ (lI s6 0)) <|
 idx true [.str, .int .i64, .int .i64, .str, .int .i64, .bool, .str] (lL s6 3) ((lI s6 0).toNat) fun (e8 : List UInt8 × Int × Int × List UInt8 × Int × Bool × List UInt8 × Unit) =>
 br (e7.1 == e8.1) (
 some (.inr (0, [.b false, .i (lI s6 0), .s (lS s6 2), .l (lL s6 3)]))) (
 some (.inl [.i (lI s6 0), .i (IntKind.wrap .i64 ((lI s6 1) + 1)), .s (lS s6 2), .l (lL s6 3)]))) (
 some (.inr (1, [.i (lI s6 0), .s (lS s6 2), .l (lL s6 3)])))) [.i (lI s1 0), .i 0, .s (lS s1 1), .l (lL s1 2)] fun (r9 : Nat × List Leaf) =>
 if r9.1 = 0 then
 some (.inr (0, [.b (lB r9.2 0), .s (lS r9.2 2), .l (lL r9.2 3)]))
 else
 some (.inl [.i (IntKind.wrap .i64 ((lI r9.2 0) + 1)), .s (lS r9.2 1), .l (lL r9.2 2)])))) (
 some (.inr (1, [.s (lS s1 1), .l (lL s1 2)])))) [.i 0, .s s_Host, .l s_Files] fun (r10 : Nat × List Leaf) =>
 if r10.1 = 0 then
 k (lB r10.2 0)
 else
 F90 _ (lS r10.2 0) fun b11 =>
 br b11 (
 k (decide (((lL r10.2 1).length : Int) ≤ 10))) (
 k false)
def F88 : T88 := P88 F90 F92
def X88 : Exits := fun i => lookN i [] [(2, [(.ret, xk 57 [(1, .ptr 1 0), (2, .bool false)] [(1, .agg [.str [], .sl 7 true []])]), (.exit 0, xk 57 [(1, .ptr 1 0)] [(1, .agg [.str [], .sl 7 true []])])]), (7, [(.ret, xk 57 [(1, .ptr 1 0), (2, .bool false), (3, .int .i64 0)] [(1, .agg [.str [], .sl 7 true []])]), (.exit 2, xk 57 [(1, .ptr 1 0), (3, .int .i64 0)] [(1, .agg [.str [], .sl 7 true []])])])]
abbrev s88 : List (Bool × List CK) := [(true, [.str, .sl 7 true])]
def G88 (F : T88) (β : Type) (e : (List UInt8 × List V × Unit) × Unit) (k : V → Option β) : Option β := F β e.1.1 e.1.2.1 (fun y1 => k (.bool y1))
abbrev W88 (F : T88) : WT := wrap s88 (G88 F)
theorem k88 (F90 : T90) (F92 : T92) (β : Type) (e : argsT s88) (k : V → Option β) : fnK cfg (tabL [(90, W90 F90), (92, W92 F92)]) X88 88 Tryz.f88 β (argsEnc s88 e) k = G88 (P88 F90 F92 ) β e k := by kernel_rfl
theorem ok88 : FnOk D 88 (W88 F88) := fn_okW [(90, W90 F90), (92, W92 F92)] X88 (fun _ => rfl) Tryz.func88 rfl (tabL_cons ok90 (tabL_cons ok92 tabL_nil)) (k88 F90 F92 )
abbrev T89 : Type 1 := (β : Type) → List V → List UInt8 → (Int → Option β) → Option β
def P89 : T89 := fun β l host k =>
 whileK (fun s1 =>
 br (decide ((lI s1 2) < ((lL s1 0).length : Int))) (
 chk (0 ≤ (lI s1 2)) <|
 idx true [.str, .sl 7 true] (lL s1 0) ((lI s1 2).toNat) fun (e2 : List UInt8 × List V × Unit) =>
 br (e2.1 == (lS s1 1)) (
 some (.inr (0, [.i (lI s1 2)]))) (
 some (.inl [.l (lL s1 0), .s (lS s1 1), .i (IntKind.wrap .i64 ((lI s1 2) + 1))]))) (
 some (.inr (1, [])))) [.l l, .s host, .i 0] fun (r3 : Nat × List Leaf) =>
 if r3.1 = 0 then
 k (lI r3.2 0)
 else
 k (-1)
def F89 : T89 := P89
def X89 : Exits := fun i => lookN i [] [(2, [(.ret, xk 20 [(4, .int .i64 0)] []), (.exit 0, xk 20 [] [])])]
abbrev s89 : List (Bool × List CK) := [(false, [.sl 2 false]), (false, [.str])]
def G89 (F : T89) (β : Type) (e : (List V × Unit) × (List UInt8 × Unit) × Unit) (k : V → Option β) : Option β := F β e.1.1 e.2.1.1 (fun y1 => k (.int .i64 y1))
abbrev W89 (F : T89) : WT := wrap s89 (G89 F)
theorem k89 (β : Type) (e : argsT s89) (k : V → Option β) : fnK cfg (tabL []) X89 89 Tryz.f89 β (argsEnc s89 e) k = G89 (P89 ) β e k := by kernel_rfl
theorem ok89 : FnOk D 89 (W89 F89) := fn_okW [] X89 (fun _ => rfl) Tryz.func89 rfl (tabL_nil) (k89 )
abbrev T39 : Type 1 := (β : Type) → List V → (Bool → Option β) → Option β
def P39 (F88 : T88) (F89 : T89) : T39 := fun β l k =>
 whileK (fun s1 =>
 br (decide ((lI s1 1) < ((lL s1 0).length : Int))) (
 chk (0 ≤ (lI s1 1)) <|
 idx true [.str, .sl 7 true] (lL s1 0) ((lI s1 1).toNat) fun (e2 : List UInt8 × List V × Unit) =>
 F88 _ e2.1 e2.2.1 fun b3 =>
 br (!b3) (
 some (.inr (0, [.l (lL s1 0), .b false]))) (
 chk (0 ≤ (lI s1 1)) <|
 idx true [.str, .sl 7 true] (lL s1 0) ((lI s1 1).toNat) fun (e4 : List UInt8 × List V × Unit) =>
 F89 _ (lL s1 0) e4.1 fun n5 =>
 br (n5 != (lI s1 1)) (
 some (.inr (0, [.l (lL s1 0), .b false]))) (
 some (.inl [.l (lL s1 0), .i (IntKind.wrap .i64 ((lI s1 1) + 1))])))) (
 some (.inr (1, [.l (lL s1 0)])))) [.l l, .i 0] fun (r6 : Nat × List Leaf) =>
 if r6.1 = 0 then
 k (lB r6.2 1)
 else
 k (decide (((lL r6.2 0).length : Int) ≤ 4))
def F39 : T39 := P39 F88 F89
def X39 : Exits := fun i => lookN i [] [(2, [(.ret, xk 30 [(0, .sl 2 false []), (2, .bool false)] []), (.exit 0, xk 30 [(0, .sl 2 false [])] [])])]
abbrev s39 : List (Bool × List CK) := [(false, [.sl 2 false])]
def G39 (F : T39) (β : Type) (e : (List V × Unit) × Unit) (k : V → Option β) : Option β := F β e.1.1 (fun y1 => k (.bool y1))
abbrev W39 (F : T39) : WT := wrap s39 (G39 F)
theorem k39 (F88 : T88) (F89 : T89) (β : Type) (e : argsT s39) (k : V → Option β) : fnK cfg (tabL [(88, W88 F88), (89, W89 F89)]) X39 39 Tryz.f39 β (argsEnc s39 e) k = G39 (P39 F88 F89 ) β e k := by kernel_rfl
theorem ok39 : FnOk D 39 (W39 F39) := fn_okW [(88, W88 F88), (89, W89 F89)] X39 (fun _ => rfl) Tryz.func39 rfl (tabL_cons ok88 (tabL_cons ok89 tabL_nil)) (k39 F88 F89 )
abbrev T91 : Type 1 := (β : Type) → List UInt8 → List UInt8 → (Bool → Option β) → Option β
def P91 (F90 : T90) : T91 := fun β a_Host a_Path k =>
 F90 _ a_Host fun b1 =>
 br b1 (
 F90 _ a_Path fun b2 =>
 k b2) (
 k false)
def F91 : T91 := P91 F90
abbrev s91 : List (Bool × List CK) := [(true, [.str, .str])]
def G91 (F : T91) (β : Type) (e : (List UInt8 × List UInt8 × Unit) × Unit) (k : V → Option β) : Option β := F β e.1.1 e.1.2.1 (fun y1 => k (.bool y1))
abbrev W91 (F : T91) : WT := wrap s91 (G91 F)
theorem k91 (F90 : T90) (β : Type) (e : argsT s91) (k : V → Option β) : fnK cfg (tabL [(90, W90 F90)]) noX 91 Tryz.f91 β (argsEnc s91 e) k = G91 (P91 F90 ) β e k := by kernel_rfl
theorem ok91 : FnOk D 91 (W91 F91) := fn_okW [(90, W90 F90)] noX (fun _ => rfl) Tryz.func91 rfl (tabL_cons ok90 tabL_nil) (k91 F90 )
abbrev T93 : Type 1 := (β : Type) → List V → List UInt8 → List UInt8 → List UInt8 → (Int → Option β) → Option β
def P93 : T93 := fun β c_Entries top a_Host a_Path k =>
 whileK (fun s1 =>
 br (decide ((lI s1 1) < ((lL s1 2).length : Int))) (
 chk (0 ≤ (lI s1 1)) <|
 idx true [.str, .str, .str, .int .i64, .int .i64, .str, .int .i64, .bool, .str, .int .i64] (lL s1 2) ((lI s1 1).toNat) fun (e2 : List UInt8 × List UInt8 × List UInt8 × Int × Int × List UInt8 × Int × Bool × List UInt8 × Int × Unit) =>
 br (e2.1 == (lS s1 0)) (
 chk (0 ≤ (lI s1 1)) <|
 idx true [.str, .str, .str, .int .i64, .int .i64, .str, .int .i64, .bool, .str, .int .i64] (lL s1 2) ((lI s1 1).toNat) fun (e3 : List UInt8 × List UInt8 × List UInt8 × Int × Int × List UInt8 × Int × Bool × List UInt8 × Int × Unit) =>
 br ((e3.2.1 == (lS s1 3)) && ((e3.2.2.1 == (lS s1 4)) && true)) (
 some (.inr (0, [.i (lI s1 1)]))) (
 some (.inl [.s (lS s1 0), .i (IntKind.wrap .i64 ((lI s1 1) + 1)), .l (lL s1 2), .s (lS s1 3), .s (lS s1 4)]))) (
 some (.inl [.s (lS s1 0), .i (IntKind.wrap .i64 ((lI s1 1) + 1)), .l (lL s1 2), .s (lS s1 3), .s (lS s1 4)]))) (
 some (.inr (1, [])))) [.s top, .i 0, .l c_Entries, .s a_Host, .s a_Path] fun (r4 : Nat × List Leaf) =>
 if r4.1 = 0 then
 k (lI r4.2 0)
 else
 k (-1)
def F93 : T93 := P93
def X93 : Exits := fun i => lookN i [] [(2, [(.ret, xk 34 [(6, .int .i64 0)] []), (.exit 0, xk 34 [] [])])]
abbrev s93 : List (Bool × List CK) := [(true, [.sl 10 true]), (false, [.str]), (true, [.str, .str])]
def G93 (F : T93) (β : Type) (e : (List V × Unit) × (List UInt8 × Unit) × (List UInt8 × List UInt8 × Unit) × Unit) (k : V → Option β) : Option β := F β e.1.1 e.2.1.1 e.2.2.1.1 e.2.2.1.2.1 (fun y1 => k (.int .i64 y1))
abbrev W93 (F : T93) : WT := wrap s93 (G93 F)
theorem k93 (β : Type) (e : argsT s93) (k : V → Option β) : fnK cfg (tabL []) X93 93 Tryz.f93 β (argsEnc s93 e) k = G93 (P93 ) β e k := by kernel_rfl
theorem ok93 : FnOk D 93 (W93 F93) := fn_okW [] X93 (fun _ => rfl) Tryz.func93 rfl (tabL_nil) (k93 )
abbrev T40 : Type 1 := (β : Type) → List V → (Bool → Option β) → Option β
def P40 (F90 : T90) (F91 : T91) (F92 : T92) (F93 : T93) : T40 := fun β c_Entries k =>
 whileK (fun s1 =>
 br (decide ((lI s1 0) < ((lL s1 1).length : Int))) (
 chk (0 ≤ (lI s1 0)) <|
 idx true [.str, .str, .str, .int .i64, .int .i64, .str, .int .i64, .bool, .str, .int .i64] (lL s1 1) ((lI s1 0).toNat) fun (e2 : List UInt8 × List UInt8 × List UInt8 × Int × Int × List UInt8 × Int × Bool × List UInt8 × Int × Unit) =>
 F90 _ e2.1 fun b3 =>
 br (!b3) (
 some (.inr (0, [.b false, .l (lL s1 1)]))) (
 F91 _ e2.2.1 e2.2.2.1 fun b4 =>
 br (!b4) (
 some (.inr (0, [.b false, .l (lL s1 1)]))) (
 F92 _ e2.2.2.2.1 e2.2.2.2.2.1 e2.2.2.2.2.2.1 e2.2.2.2.2.2.2.1 e2.2.2.2.2.2.2.2.1 e2.2.2.2.2.2.2.2.2.1 fun b5 =>
 br (!b5) (
 some (.inr (0, [.b false, .l (lL s1 1)]))) (
 br (e2.2.2.2.1 != 200) (
 some (.inr (0, [.b false, .l (lL s1 1)]))) (
 F93 _ (lL s1 1) e2.1 e2.2.1 e2.2.2.1 fun n6 =>
 br (n6 != (lI s1 0)) (
 some (.inr (0, [.b false, .l (lL s1 1)]))) (
 some (.inl [.i (IntKind.wrap .i64 ((lI s1 0) + 1)), .l (lL s1 1)]))))))) (
 some (.inr (1, [.l (lL s1 1)])))) [.i 0, .l c_Entries] fun (r7 : Nat × List Leaf) =>
 if r7.1 = 0 then
 k (lB r7.2 0)
 else
 k (decide (((lL r7.2 0).length : Int) ≤ 100))
def F40 : T40 := P40 F90 F91 F92 F93
def X40 : Exits := fun i => lookN i [] [(2, [(.ret, xk 53 [(1, .ptr 1 0), (2, .bool false)] [(1, .agg [.sl 10 true []])]), (.exit 0, xk 53 [(1, .ptr 1 0)] [(1, .agg [.sl 10 true []])])])]
abbrev s40 : List (Bool × List CK) := [(true, [.sl 10 true])]
def G40 (F : T40) (β : Type) (e : (List V × Unit) × Unit) (k : V → Option β) : Option β := F β e.1.1 (fun y1 => k (.bool y1))
abbrev W40 (F : T40) : WT := wrap s40 (G40 F)
theorem k40 (F90 : T90) (F91 : T91) (F92 : T92) (F93 : T93) (β : Type) (e : argsT s40) (k : V → Option β) : fnK cfg (tabL [(90, W90 F90), (91, W91 F91), (92, W92 F92), (93, W93 F93)]) X40 40 Tryz.f40 β (argsEnc s40 e) k = G40 (P40 F90 F91 F92 F93 ) β e k := by kernel_rfl
theorem ok40 : FnOk D 40 (W40 F40) := fn_okW [(90, W90 F90), (91, W91 F91), (92, W92 F92), (93, W93 F93)] X40 (fun _ => rfl) Tryz.func40 rfl (tabL_cons ok90 (tabL_cons ok91 (tabL_cons ok92 (tabL_cons ok93 tabL_nil)))) (k40 F90 F91 F92 F93 )
abbrev T15 : Type 1 := (β : Type) → List V → List V → List V → Int → (Bool → Option β) → Option β
def P15 (F39 : T39) (F40 : T40) (F41 : T41) : T15 := fun β n_Servers n_Cache_Entries n_Log n_Now k =>
 F39 _ n_Servers fun b1 =>
 br b1 (
 F40 _ n_Cache_Entries fun b2 =>
 br b2 (
 br (decide ((n_Log.length : Int) ≤ 400)) (
 F41 _ n_Now 0 999999998000 fun b3 =>
 k b3) (
 k false)) (
 k false)) (
 k false)
def F15 : T15 := P15 F39 F40 F41
abbrev s15 : List (Bool × List CK) := [(true, [.sl 2 false, .sl 10 true, .sl 4 true, .int .i64])]
def G15 (F : T15) (β : Type) (e : (List V × List V × List V × Int × Unit) × Unit) (k : V → Option β) : Option β := F β e.1.1 e.1.2.1 e.1.2.2.1 e.1.2.2.2.1 (fun y1 => k (.bool y1))
abbrev W15 (F : T15) : WT := wrap s15 (G15 F)
theorem k15 (F39 : T39) (F40 : T40) (F41 : T41) (β : Type) (e : argsT s15) (k : V → Option β) : fnK cfg (tabL [(39, W39 F39), (40, W40 F40), (41, W41 F41)]) noX 15 Tryz.f15 β (argsEnc s15 e) k = G15 (P15 F39 F40 F41 ) β e k := by kernel_rfl
theorem ok15 : FnOk D 15 (W15 F15) := fn_okW [(39, W39 F39), (40, W40 F40), (41, W41 F41)] noX (fun _ => rfl) Tryz.func15 rfl (tabL_cons ok39 (tabL_cons ok40 (tabL_cons ok41 tabL_nil))) (k15 F39 F40 F41 )
abbrev T16 : Type 1 := (β : Type) → List V → Int → (Bool → Option β) → Option β
def P16 (F41 : T41) : T16 := fun β t_Visits t_At k =>
 whileK (fun s1 =>
 br (decide ((lI s1 0) < ((lL s1 1).length : Int))) (
 chk (0 ≤ (lI s1 0)) <|
 idx true [.str, .str, .str, .str, .bool, .sl 1 true, .sl 1 true, .sl 1 true, .str, .str, .sl 4 false, .bool, .sl 4 false, .sl 1 true, .sl 8 true, .sl 5 true, .sl 2 true, .int .i64, .int .i64, .int .i64, .int .i64, .sl 2 true, .sl 1 true, .bool, .bool] (lL s1 1) ((lI s1 0).toNat) fun (e2 : List UInt8 × List UInt8 × List UInt8 × List UInt8 × Bool × List V × List V × List V × List UInt8 × List UInt8 × List V × Bool × List V × List V × List V × List V × List V × Int × Int × Int × Int × List V × List V × Bool × Bool × Unit) =>
 br e2.2.2.2.2.2.2.2.2.2.2.2.2.2.2.2.2.2.2.2.2.2.2.2.2.1 (
 chk (0 ≤ (lI s1 0)) <|
 idx true [.str, .str, .str, .str, .bool, .sl 1 true, .sl 1 true, .sl 1 true, .str, .str, .sl 4 false, .bool, .sl 4 false, .sl 1 true, .sl 8 true, .sl 5 true, .sl 2 true, .int .i64, .int .i64, .int .i64, .int .i64, .sl 2 true, .sl 1 true, .bool, .bool] (lL s1 1) ((lI s1 0).toNat) fun (e3 : List UInt8 × List UInt8 × List UInt8 × List UInt8 × Bool × List V × List V × List V × List UInt8 × List UInt8 × List V × Bool × List V × List V × List V × List V × List V × Int × Int × Int × Int × List V × List V × Bool × Bool × Unit) =>
 chk (0 ≤ (lI s1 0)) <|
 idx true [.str, .str, .str, .str, .bool, .sl 1 true, .sl 1 true, .sl 1 true, .str, .str, .sl 4 false, .bool, .sl 4 false, .sl 1 true, .sl 8 true, .sl 5 true, .sl 2 true, .int .i64, .int .i64, .int .i64, .int .i64, .sl 2 true, .sl 1 true, .bool, .bool] (lL s1 1) ((lI s1 0).toNat) fun (e4 : List UInt8 × List UInt8 × List UInt8 × List UInt8 × Bool × List V × List V × List V × List UInt8 × List UInt8 × List V × Bool × List V × List V × List V × List V × List V × Int × Int × Int × Int × List V × List V × Bool × Bool × Unit) =>
 br (!((e3.1 == e4.2.2.1) && ((e3.2.1 == e4.2.2.2.1) && true))) (
 some (.inr (0, [.b false, .l (lL s1 1), .i (lI s1 2)]))) (
 some (.inl [.i (IntKind.wrap .i64 ((lI s1 0) + 1)), .l (lL s1 1), .i (lI s1 2)]))) (
 some (.inl [.i (IntKind.wrap .i64 ((lI s1 0) + 1)), .l (lL s1 1), .i (lI s1 2)]))) (
 some (.inr (1, [.l (lL s1 1), .i (lI s1 2)])))) [.i 0, .l t_Visits, .i t_At] fun (r5 : Nat × List Leaf) =>
 if r5.1 = 0 then
 k (lB r5.2 0)
 else
 br (decide (((lL r5.2 0).length : Int) ≤ 6)) (
 br (((lL r5.2 0).length : Int) == 0) (
 br ((lI r5.2 1) == (-1)) (
 k true) (
 F41 _ (lI r5.2 1) 0 (IntKind.wrap .i64 (((lL r5.2 0).length : Int) - 1)) fun b6 =>
 k b6)) (
 F41 _ (lI r5.2 1) 0 (IntKind.wrap .i64 (((lL r5.2 0).length : Int) - 1)) fun b7 =>
 k b7)) (
 k false)
def F16 : T16 := P16 F41
def X16 : Exits := fun i => lookN i [] [(2, [(.ret, xk 57 [(1, .ptr 1 0), (2, .bool false)] [(1, .agg [.sl 25 false [], .int .i64 0])]), (.exit 0, xk 57 [(1, .ptr 1 0)] [(1, .agg [.sl 25 false [], .int .i64 0])])])]
abbrev s16 : List (Bool × List CK) := [(true, [.sl 25 false, .int .i64])]
def G16 (F : T16) (β : Type) (e : (List V × Int × Unit) × Unit) (k : V → Option β) : Option β := F β e.1.1 e.1.2.1 (fun y1 => k (.bool y1))
abbrev W16 (F : T16) : WT := wrap s16 (G16 F)
theorem k16 (F41 : T41) (β : Type) (e : argsT s16) (k : V → Option β) : fnK cfg (tabL [(41, W41 F41)]) X16 16 Tryz.f16 β (argsEnc s16 e) k = G16 (P16 F41 ) β e k := by kernel_rfl
theorem ok16 : FnOk D 16 (W16 F16) := fn_okW [(41, W41 F41)] X16 (fun _ => rfl) Tryz.func16 rfl (tabL_cons ok41 tabL_nil) (k16 F41 )
abbrev T6 : Type 1 := (β : Type) → List V → List V → List V → Int → List V → Int → Bool → List UInt8 → List UInt8 → Bool → List V → List V → List V → List UInt8 → List UInt8 → List V → Bool → List V → List V → List V → List V → List V → Int → Int → Int → Int → List V → List V → Bool → List V → List V → Int → Bool → (Bool → Option β) → Option β
def P6 (F15 : T15) (F16 : T16) : T6 := fun β w_Net_Servers w_Net_Cache_Entries w_Net_Log w_Net_Now w_Tab_Visits w_Tab_At w_Hidden_Ready w_Hidden_Page_Addr_Host w_Hidden_Page_Addr_Path w_Hidden_Page_Policy_Set w_Hidden_Page_Policy_Scripts w_Hidden_Page_Policy_Styles w_Hidden_Page_Policy_Images w_Hidden_Page_Policy_Nonce w_Hidden_Page_Tok_Rest w_Hidden_Page_Queue w_Hidden_Page_Ended w_Hidden_Page_Builder_Nodes w_Hidden_Page_Builder_Open w_Hidden_Page_Slots w_Hidden_Page_Mods w_Hidden_Page_Entries w_Hidden_Page_Block w_Hidden_Page_Inline w_Hidden_Page_Deferred w_Hidden_Page_Entered w_Hidden_Page_Ran w_Hidden_Page_Log w_Hidden_Page_Loaded w_Hidden_Taken w_Hidden_Servers w_Hidden_Now w_Fast k =>
 F15 _ w_Net_Servers w_Net_Cache_Entries w_Net_Log w_Net_Now fun b1 =>
 br b1 (
 F16 _ w_Tab_Visits w_Tab_At fun b2 =>
 k b2) (
 k false)
def F6 : T6 := P6 F15 F16
abbrev s6 : List (Bool × List CK) := [(true, [.sl 2 false, .sl 10 true, .sl 4 true, .int .i64, .sl 25 false, .int .i64, .bool, .str, .str, .bool, .sl 1 true, .sl 1 true, .sl 1 true, .str, .str, .sl 4 false, .bool, .sl 4 false, .sl 1 true, .sl 8 true, .sl 5 true, .sl 2 true, .int .i64, .int .i64, .int .i64, .int .i64, .sl 2 true, .sl 1 true, .bool, .sl 8 true, .sl 2 false, .int .i64, .bool])]
def G6 (F : T6) (β : Type) (e : (List V × List V × List V × Int × List V × Int × Bool × List UInt8 × List UInt8 × Bool × List V × List V × List V × List UInt8 × List UInt8 × List V × Bool × List V × List V × List V × List V × List V × Int × Int × Int × Int × List V × List V × Bool × List V × List V × Int × Bool × Unit) × Unit) (k : V → Option β) : Option β := let a0_0 := e.1; let a0_1 := a0_0.2; let a0_2 := a0_1.2; let a0_3 := a0_2.2; let a0_4 := a0_3.2; let a0_5 := a0_4.2; let a0_6 := a0_5.2; let a0_7 := a0_6.2; let a0_8 := a0_7.2; let a0_9 := a0_8.2; let a0_10 := a0_9.2; let a0_11 := a0_10.2; let a0_12 := a0_11.2; let a0_13 := a0_12.2; let a0_14 := a0_13.2; let a0_15 := a0_14.2; let a0_16 := a0_15.2; let a0_17 := a0_16.2; let a0_18 := a0_17.2; let a0_19 := a0_18.2; let a0_20 := a0_19.2; let a0_21 := a0_20.2; let a0_22 := a0_21.2; let a0_23 := a0_22.2; let a0_24 := a0_23.2; let a0_25 := a0_24.2; let a0_26 := a0_25.2; let a0_27 := a0_26.2; let a0_28 := a0_27.2; let a0_29 := a0_28.2; let a0_30 := a0_29.2; let a0_31 := a0_30.2; let a0_32 := a0_31.2; F β a0_0.1 a0_1.1 a0_2.1 a0_3.1 a0_4.1 a0_5.1 a0_6.1 a0_7.1 a0_8.1 a0_9.1 a0_10.1 a0_11.1 a0_12.1 a0_13.1 a0_14.1 a0_15.1 a0_16.1 a0_17.1 a0_18.1 a0_19.1 a0_20.1 a0_21.1 a0_22.1 a0_23.1 a0_24.1 a0_25.1 a0_26.1 a0_27.1 a0_28.1 a0_29.1 a0_30.1 a0_31.1 a0_32.1 (fun y1 => k (.bool y1))
abbrev W6 (F : T6) : WT := wrap s6 (G6 F)
theorem k6 (F15 : T15) (F16 : T16) (β : Type) (e : argsT s6) (k : V → Option β) : fnK cfg (tabL [(15, W15 F15), (16, W16 F16)]) noX 6 Tryz.f6 β (argsEnc s6 e) k = G6 (P6 F15 F16 ) β e k := by kernel_rfl
theorem ok6 : FnOk D 6 (W6 F6) := fn_okW [(15, W15 F15), (16, W16 F16)] noX (fun _ => rfl) Tryz.func6 rfl (tabL_cons ok15 (tabL_cons ok16 tabL_nil)) (k6 F15 F16 )
abbrev T50 : Type 1 := (β : Type) → Int → Int → Int → (Bool → Option β) → Option β
def P50 : T50 := fun β n low high k =>
 br (decide (low ≤ n)) (
 k (decide (n ≤ high))) (
 k false)
def F50 : T50 := P50
abbrev s50 : List (Bool × List CK) := [(false, [.int .i64]), (false, [.int .i64]), (false, [.int .i64])]
def G50 (F : T50) (β : Type) (e : (Int × Unit) × (Int × Unit) × (Int × Unit) × Unit) (k : V → Option β) : Option β := F β e.1.1 e.2.1.1 e.2.2.1.1 (fun y1 => k (.bool y1))
abbrev W50 (F : T50) : WT := wrap s50 (G50 F)
theorem k50 (β : Type) (e : argsT s50) (k : V → Option β) : fnK cfg (tabL []) noX 50 Tryz.f50 β (argsEnc s50 e) k = G50 (P50 ) β e k := by kernel_rfl
theorem ok50 : FnOk D 50 (W50 F50) := fn_okW [] noX (fun _ => rfl) Tryz.func50 rfl (tabL_nil) (k50 )
theorem okd50 : FnOk D1 50 (W50 F50) := fn_okW [] noX (fun _ => rfl) Tryz.func50 rfl (tabL_nil) (k50 )
abbrev T110 : Type 1 := (β : Type) → List UInt8 → (Bool → Option β) → Option β
def P110 (F50 : T50) : T110 := fun β s k =>
 whileK (fun s1 =>
 br (decide ((lI s1 1) < ((lS s1 0).length : Int))) (
 idxS (lS s1 0) (lI s1 1) fun b2 =>
 br (decide (b2 < 97)) (
 some (.inr (0, [.s (lS s1 0), .b false]))) (
 idxS (lS s1 0) (lI s1 1) fun b3 =>
 br (decide (b3 > 122)) (
 some (.inr (0, [.s (lS s1 0), .b false]))) (
 some (.inl [.s (lS s1 0), .i (IntKind.wrap .i64 ((lI s1 1) + 1))])))) (
 some (.inr (1, [.s (lS s1 0)])))) [.s s, .i 0] fun (r4 : Nat × List Leaf) =>
 if r4.1 = 0 then
 k (lB r4.2 1)
 else
 F50 _ ((lS r4.2 0).length : Int) 1 8 fun b5 =>
 k b5
def F110 : T110 := P110 F50
def X110 : Exits := fun i => lookN i [] [(2, [(.ret, xk 23 [(0, .str []), (2, .bool false)] []), (.exit 0, xk 23 [(0, .str [])] [])])]
abbrev s110 : List (Bool × List CK) := [(false, [.str])]
def G110 (F : T110) (β : Type) (e : (List UInt8 × Unit) × Unit) (k : V → Option β) : Option β := F β e.1.1 (fun y1 => k (.bool y1))
abbrev W110 (F : T110) : WT := wrap s110 (G110 F)
theorem k110 (F50 : T50) (β : Type) (e : argsT s110) (k : V → Option β) : fnK cfg (tabL [(50, W50 F50)]) X110 110 Tryz.f110 β (argsEnc s110 e) k = G110 (P110 F50 ) β e k := by kernel_rfl
theorem ok110 : FnOk D 110 (W110 F110) := fn_okW [(50, W50 F50)] X110 (fun _ => rfl) Tryz.func110 rfl (tabL_cons ok50 tabL_nil) (k110 F50 )
theorem okd110 : FnOk D1 110 (W110 F110) := fn_okW [(50, W50 F50)] X110 (fun _ => rfl) Tryz.func110 rfl (tabL_cons okd50 tabL_nil) (k110 F50 )
abbrev T179cAs : Type 1 := (β : Type) → List UInt8 → Int → Int → List UInt8 → Int → Bool → List UInt8 → List UInt8 → (Bool → Option β) → Option β
def P179cAs : T179cAs := fun β f_Path f_Response_Status f_Response_Kind f_Response_Body f_Response_Age f_Response_Shares f_Response_Policy c1_1 k =>
 k (f_Path == c1_1)
def F179cAs : T179cAs := P179cAs
def W179cAs (F : T179cAs) : (β : Type) → List V → (V → Option β) → Option β := fun β args k => match args with
 | [.agg [.str f_Path, .int .i64 f_Response_Status, .int .i64 f_Response_Kind, .str f_Response_Body, .int .i64 f_Response_Age, .bool f_Response_Shares, .str f_Response_Policy], .iptr (.agg [.str c1_1]) 0] => F β f_Path f_Response_Status f_Response_Kind f_Response_Body f_Response_Age f_Response_Shares f_Response_Policy c1_1 (fun y1 => k (.bool y1))
 | _ => none
theorem k179cAs {β : Type} (f_Path : List UInt8) (f_Response_Status : Int) (f_Response_Kind : Int) (f_Response_Body : List UInt8) (f_Response_Age : Int) (f_Response_Shares : Bool) (f_Response_Policy : List UInt8) (c1_1 : List UInt8) (k : V → Option β) : fnK cfg (tabL []) noX 179 Tryz.f179 β [.agg [.str f_Path, .int .i64 f_Response_Status, .int .i64 f_Response_Kind, .str f_Response_Body, .int .i64 f_Response_Age, .bool f_Response_Shares, .str f_Response_Policy], .iptr (.agg [.str c1_1]) 0] k = P179cAs β f_Path f_Response_Status f_Response_Kind f_Response_Body f_Response_Age f_Response_Shares f_Response_Policy c1_1 (fun y1 => k (.bool y1)) := by kernel_rfl
theorem ok179cAs : FnOk D 179 (W179cAs F179cAs) := fn_ok (l := []) (X := noX) (fun _ => rfl) Tryz.func179 rfl (tabL_nil) (fun β args k r h => by
 unfold W179cAs at h
 split at h
 · rw [← h]; exact k179cAs _ _ _ _ _ _ _ _ k
 · cases h)
abbrev T178c179 : Type 1 := (β : Type) → List V → List UInt8 → (Int → Option β) → Option β
def P178c179 (F179cAs : T179cAs) : T178c179 := fun β s f_1 k =>
 whileK (fun s1 =>
 br (decide ((lI s1 3) < (lI s1 2))) (
 chk (0 ≤ (lI s1 3)) <|
 idx true [.str, .int .i64, .int .i64, .str, .int .i64, .bool, .str] (lL s1 0) ((lI s1 3).toNat) fun (e2 : List UInt8 × Int × Int × List UInt8 × Int × Bool × List UInt8 × Unit) =>
 F179cAs _ e2.1 e2.2.1 e2.2.2.1 e2.2.2.2.1 e2.2.2.2.2.1 e2.2.2.2.2.2.1 e2.2.2.2.2.2.2.1 (lS s1 1) fun b3 =>
 br b3 (
 some (.inr (0, [.i (lI s1 3)]))) (
 some (.inl [.l (lL s1 0), .s (lS s1 1), .i (lI s1 2), .i (IntKind.wrap .i64 ((lI s1 3) + 1))]))) (
 some (.inr (1, [])))) [.l s, .s f_1, .i (s.length : Int), .i 0] fun (r4 : Nat × List Leaf) =>
 if r4.1 = 0 then
 k (lI r4.2 0)
 else
 k (-1)
def F178c179 : T178c179 := P178c179 F179cAs
def X178c179 : Exits := fun i => lookN i [] [(2, [(.ret, xk 19 [(4, .int .i64 0)] []), (.exit 0, xk 19 [] [])])]
def W178c179 (F : T178c179) : (β : Type) → List V → (V → Option β) → Option β := fun β args k => match args with
 | [.sl 7 true s, .clo 179 [.iptr (.agg [.str f_1]) 0]] => F β s f_1 (fun y1 => k (.int .i64 y1))
 | _ => none
theorem k178c179 (F179cAs : T179cAs) {β : Type} (s : List V) (f_1 : List UInt8) (k : V → Option β) : fnK cfg (tabL [(179, W179cAs F179cAs)]) X178c179 178 Tryz.f178 β [.sl 7 true s, .clo 179 [.iptr (.agg [.str f_1]) 0]] k = P178c179 F179cAs β s f_1 (fun y1 => k (.int .i64 y1)) := by kernel_rfl
theorem ok178c179 : FnOk D 178 (W178c179 F178c179) := fn_ok (l := [(179, W179cAs F179cAs)]) (X := X178c179) (fun _ => rfl) Tryz.func178 rfl (tabL_cons ok179cAs tabL_nil) (fun β args k r h => by
 unfold W178c179 at h
 split at h
 · rw [← h]; exact k178c179 F179cAs _ _ k
 · cases h)
abbrev T152 : Type 1 := (β : Type) → List UInt8 → List V → List UInt8 → (Int → Option β) → Option β
def P152 (F178c179 : T178c179) : T152 := fun β s_Host s_Files path k =>
 F178c179 _ s_Files path fun n1 =>
 k n1
def F152 : T152 := P152 F178c179
abbrev s152 : List (Bool × List CK) := [(true, [.str, .sl 7 true]), (false, [.str])]
def G152 (F : T152) (β : Type) (e : (List UInt8 × List V × Unit) × (List UInt8 × Unit) × Unit) (k : V → Option β) : Option β := F β e.1.1 e.1.2.1 e.2.1.1 (fun y1 => k (.int .i64 y1))
abbrev W152 (F : T152) : WT := wrap s152 (G152 F)
theorem k152 (F178c179 : T178c179) (β : Type) (e : argsT s152) (k : V → Option β) : fnK cfg (tabL [(178, W178c179 F178c179)]) noX 152 Tryz.f152 β (argsEnc s152 e) k = G152 (P152 F178c179 ) β e k := by kernel_rfl
theorem ok152 : FnOk D 152 (W152 F152) := fn_okW [(178, W178c179 F178c179)] noX (fun _ => rfl) Tryz.func152 rfl (tabL_cons ok178c179 tabL_nil) (k152 F178c179 )
abbrev T232 : Type 1 := (β : Type) → List UInt8 → (Bool → Option β) → Option β
def P232 (F110 : T110) : T232 := fun β s k =>
 F110 _ s fun b1 =>
 k (!b1)
def F232 : T232 := P232 F110
abbrev s232 : List (Bool × List CK) := [(false, [.str])]
def G232 (F : T232) (β : Type) (e : (List UInt8 × Unit) × Unit) (k : V → Option β) : Option β := F β e.1.1 (fun y1 => k (.bool y1))
abbrev W232 (F : T232) : WT := wrap s232 (G232 F)
theorem k232 (F110 : T110) (β : Type) (e : argsT s232) (k : V → Option β) : fnK cfg (tabL [(110, W110 F110)]) noX 232 Tryz.f232 β (argsEnc s232 e) k = G232 (P232 F110 ) β e k := by kernel_rfl
theorem okd232 : FnOk D1 232 (W232 F232) := fn_okW [(110, W110 F110)] noX (fun _ => rfl) Tryz.func232 rfl (tabL_cons okd110 tabL_nil) (k232 F110 )
abbrev T241c232 : Type 1 := (β : Type) → List V → (Int → Option β) → Option β
def P241c232 (F232 : T232) : T241c232 := fun β s k =>
 whileK (fun s1 =>
 br (decide ((lI s1 2) < (lI s1 1))) (
 chk (0 ≤ (lI s1 2)) <|
 idx false [.str] (lL s1 0) ((lI s1 2).toNat) fun (e2 : List UInt8 × Unit) =>
 F232 _ e2.1 fun b3 =>
 br b3 (
 some (.inr (0, [.i (lI s1 2)]))) (
 some (.inl [.l (lL s1 0), .i (lI s1 1), .i (IntKind.wrap .i64 ((lI s1 2) + 1))]))) (
 some (.inr (1, [])))) [.l s, .i (s.length : Int), .i 0] fun (r4 : Nat × List Leaf) =>
 if r4.1 = 0 then
 k (lI r4.2 0)
 else
 k (-1)
def F241c232 : T241c232 := P241c232 F232
def X241c232 : Exits := fun i => lookN i [] [(2, [(.ret, xk 19 [(4, .int .i64 0)] []), (.exit 0, xk 19 [] [])])]
def W241c232 (F : T241c232) : (β : Type) → List V → (V → Option β) → Option β := fun β args k => match args with
 | [.sl 1 true s, .clo 232 []] => F β s (fun y1 => k (.int .i64 y1))
 | _ => none
theorem k241c232 (F232 : T232) {β : Type} (s : List V) (k : V → Option β) : fnK cfg (tabL [(232, W232 F232)]) X241c232 241 Tryz.f241 β [.sl 1 true s, .clo 232 []] k = P241c232 F232 β s (fun y1 => k (.int .i64 y1)) := by kernel_rfl
theorem okd241c232 : FnOk D1 241 (W241c232 F241c232) := fn_ok (l := [(232, W232 F232)]) (X := X241c232) (fun _ => rfl) Tryz.func241 rfl (tabL_cons okd232 tabL_nil) (fun β args k r h => by
 unfold W241c232 at h
 split at h
 · rw [← h]; exact k241c232 F232 _ k
 · cases h)
abbrev T231c232 : Type 1 := (β : Type) → List V → (Bool → Option β) → Option β
def P231c232 (F241c232 : T241c232) : T231c232 := fun β s k =>
 F241c232 _ s fun n1 =>
 k (decide (n1 ≥ 0))
def F231c232 : T231c232 := P231c232 F241c232
def W231c232 (F : T231c232) : (β : Type) → List V → (V → Option β) → Option β := fun β args k => match args with
 | [.sl 1 true s, .clo 232 []] => F β s (fun y1 => k (.bool y1))
 | _ => none
theorem k231c232 (F241c232 : T241c232) {β : Type} (s : List V) (k : V → Option β) : fnK cfg (tabL [(241, W241c232 F241c232)]) noX 231 Tryz.f231 β [.sl 1 true s, .clo 232 []] k = P231c232 F241c232 β s (fun y1 => k (.bool y1)) := by kernel_rfl
theorem okd231c232 : FnOk D1 231 (W231c232 F231c232) := fn_ok (l := [(241, W241c232 F241c232)]) (X := noX) (fun _ => rfl) Tryz.func231 rfl (tabL_cons okd241c232 tabL_nil) (fun β args k r h => by
 unfold W231c232 at h
 split at h
 · rw [← h]; exact k231c232 F241c232 _ k
 · cases h)
abbrev T216 : Type 1 := (β : Type) → List V → (Bool → Option β) → Option β
def P216 (F231c232 : T231c232) : T216 := fun β l k =>
 br (decide ((l.length : Int) ≤ 4)) (
 F231c232 _ l fun b1 =>
 k (!b1)) (
 k false)
def F216 : T216 := P216 F231c232
abbrev s216 : List (Bool × List CK) := [(false, [.sl 1 true])]
def G216 (F : T216) (β : Type) (e : (List V × Unit) × Unit) (k : V → Option β) : Option β := F β e.1.1 (fun y1 => k (.bool y1))
abbrev W216 (F : T216) : WT := wrap s216 (G216 F)
theorem k216 (F231c232 : T231c232) (β : Type) (e : argsT s216) (k : V → Option β) : fnK cfg (tabL [(231, W231c232 F231c232)]) noX 216 Tryz.f216 β (argsEnc s216 e) k = G216 (P216 F231c232 ) β e k := by kernel_rfl
theorem okd216 : FnOk D1 216 (W216 F216) := fn_okW [(231, W231c232 F231c232)] noX (fun _ => rfl) Tryz.func216 rfl (tabL_cons okd231c232 tabL_nil) (k216 F231c232 )
abbrev T217 : Type 1 := (β : Type) → List UInt8 → (Bool → Option β) → Option β
def P217 (F50 : T50) : T217 := fun β s k =>
 whileK (fun s1 =>
 br (decide ((lI s1 1) < ((lS s1 0).length : Int))) (
 idxS (lS s1 0) (lI s1 1) fun b2 =>
 br (decide (b2 ≥ 97)) (
 idxS (lS s1 0) (lI s1 1) fun b3 =>
 br (decide (b3 ≤ 122)) (
 some (.inl [.s (lS s1 0), .i (IntKind.wrap .i64 ((lI s1 1) + 1))])) (
 idxS (lS s1 0) (lI s1 1) fun b4 =>
 br (decide (b4 ≥ 48)) (
 idxS (lS s1 0) (lI s1 1) fun b5 =>
 br (decide (b5 ≤ 57)) (
 some (.inl [.s (lS s1 0), .i (IntKind.wrap .i64 ((lI s1 1) + 1))])) (
 idxS (lS s1 0) (lI s1 1) fun b6 =>
 br (!(b6 == 47)) (
 some (.inr (0, [.s (lS s1 0), .b false]))) (
 some (.inl [.s (lS s1 0), .i (IntKind.wrap .i64 ((lI s1 1) + 1))])))) (
 idxS (lS s1 0) (lI s1 1) fun b7 =>
 br (!(b7 == 47)) (
 some (.inr (0, [.s (lS s1 0), .b false]))) (
 some (.inl [.s (lS s1 0), .i (IntKind.wrap .i64 ((lI s1 1) + 1))]))))) (
 idxS (lS s1 0) (lI s1 1) fun b8 =>
 br (decide (b8 ≥ 48)) (
 idxS (lS s1 0) (lI s1 1) fun b9 =>
 br (decide (b9 ≤ 57)) (
 some (.inl [.s (lS s1 0), .i (IntKind.wrap .i64 ((lI s1 1) + 1))])) (
 idxS (lS s1 0) (lI s1 1) fun b10 =>
 br (!(b10 == 47)) (
 some (.inr (0, [.s (lS s1 0), .b false]))) (
 some (.inl [.s (lS s1 0), .i (IntKind.wrap .i64 ((lI s1 1) + 1))])))) (
 idxS (lS s1 0) (lI s1 1) fun b11 =>
 br (!(b11 == 47)) (
 some (.inr (0, [.s (lS s1 0), .b false]))) (
 some (.inl [.s (lS s1 0), .i (IntKind.wrap .i64 ((lI s1 1) + 1))]))))) (
 some (.inr (1, [.s (lS s1 0)])))) [.s s, .i 0] fun (r12 : Nat × List Leaf) =>
 if r12.1 = 0 then
 k (lB r12.2 1)
 else
 F50 _ ((lS r12.2 0).length : Int) 1 20 fun b13 =>
 k b13
def F217 : T217 := P217 F50
def X217 : Exits := fun i => lookN i [] [(2, [(.ret, xk 42 [(0, .str []), (2, .bool false)] []), (.exit 0, xk 42 [(0, .str [])] [])])]
abbrev s217 : List (Bool × List CK) := [(false, [.str])]
def G217 (F : T217) (β : Type) (e : (List UInt8 × Unit) × Unit) (k : V → Option β) : Option β := F β e.1.1 (fun y1 => k (.bool y1))
abbrev W217 (F : T217) : WT := wrap s217 (G217 F)
theorem k217 (F50 : T50) (β : Type) (e : argsT s217) (k : V → Option β) : fnK cfg (tabL [(50, W50 F50)]) X217 217 Tryz.f217 β (argsEnc s217 e) k = G217 (P217 F50 ) β e k := by kernel_rfl
theorem okd217 : FnOk D1 217 (W217 F217) := fn_okW [(50, W50 F50)] X217 (fun _ => rfl) Tryz.func217 rfl (tabL_cons okd50 tabL_nil) (k217 F50 )
abbrev T196 : Type 1 := (β : Type) → Bool → List V → List V → List V → List UInt8 → (Bool → Option β) → Option β
def P196 (F216 : T216) (F217 : T217) : T196 := fun β p_Set p_Scripts p_Styles p_Images p_Nonce k =>
 br (!p_Set) (
 br ((p_Scripts.length : Int) == 0) (
 br ((p_Styles.length : Int) == 0) (
 br ((p_Images.length : Int) == 0) (
 k (p_Nonce == [])) (
 k false)) (
 k false)) (
 k false)) (
 F216 _ p_Scripts fun b1 =>
 br b1 (
 F216 _ p_Styles fun b2 =>
 br b2 (
 F216 _ p_Images fun b3 =>
 br b3 (
 br (p_Nonce == []) (
 k true) (
 F217 _ p_Nonce fun b4 =>
 k b4)) (
 k false)) (
 k false)) (
 k false))
def F196 : T196 := P196 F216 F217
abbrev s196 : List (Bool × List CK) := [(true, [.bool, .sl 1 true, .sl 1 true, .sl 1 true, .str])]
def G196 (F : T196) (β : Type) (e : (Bool × List V × List V × List V × List UInt8 × Unit) × Unit) (k : V → Option β) : Option β := let a0_0 := e.1; let a0_1 := a0_0.2; let a0_2 := a0_1.2; let a0_3 := a0_2.2; let a0_4 := a0_3.2; F β a0_0.1 a0_1.1 a0_2.1 a0_3.1 a0_4.1 (fun y1 => k (.bool y1))
abbrev W196 (F : T196) : WT := wrap s196 (G196 F)
theorem k196 (F216 : T216) (F217 : T217) (β : Type) (e : argsT s196) (k : V → Option β) : fnK cfg (tabL [(216, W216 F216), (217, W217 F217)]) noX 196 Tryz.f196 β (argsEnc s196 e) k = G196 (P196 F216 F217 ) β e k := by kernel_rfl
theorem okd196 : FnOk D1 196 (W196 F196) := fn_okW [(216, W216 F216), (217, W217 F217)] noX (fun _ => rfl) Tryz.func196 rfl (tabL_cons okd216 (tabL_cons okd217 tabL_nil)) (k196 F216 F217 )
abbrev T197 : Type 1 := (β : Type) → List V → List UInt8 → (List UInt8 → Option β) → Option β
def F197 : T197 := joinK
abbrev s197 : List (Bool × List CK) := [(false, [.sl 1 true]), (false, [.str])]
def G197 (F : T197) (β : Type) (e : (List V × Unit) × (List UInt8 × Unit) × Unit) (k : V → Option β) : Option β := F β e.1.1 e.2.1.1 (fun y1 => k (.str y1))
abbrev W197 (F : T197) : WT := wrap s197 (G197 F)
theorem okd197 : FnOk D1 197 (W197 F197) := ok_join (fun _ => rfl)
abbrev T182 : Type 1 := (β : Type) → Bool → List V → List V → List V → List UInt8 → (List UInt8 → Option β) → Option β
def P182 (F196 : T196) (F197 : T197) : T182 := fun β p_Set p_Scripts p_Styles p_Images p_Nonce k =>
 F196 _ p_Set p_Scripts p_Styles p_Images p_Nonce fun b1 =>
 br (!b1) (
 k []) (
 br (!p_Set) (
 k []) (
 chk ((([.str [115, 99, 114, 105, 112, 116]] : List V).length + p_Scripts.length) * 16 ≤ 140737488355328 ∧ ([.str [115, 99, 114, 105, 112, 116]] : List V).length + p_Scripts.length ≤ 140737488355328) <|
 F197 _ (([.str [115, 99, 114, 105, 112, 116]] : List V) ++ p_Scripts) [32] fun t2 =>
 chk (t2.length + ([59] : List UInt8).length ≤ 9223372036854775807) <|
 chk ((([.str [115, 116, 121, 108, 101]] : List V).length + p_Styles.length) * 16 ≤ 140737488355328 ∧ ([.str [115, 116, 121, 108, 101]] : List V).length + p_Styles.length ≤ 140737488355328) <|
 F197 _ (([.str [115, 116, 121, 108, 101]] : List V) ++ p_Styles) [32] fun t3 =>
 chk ((t2 ++ [59]).length + t3.length ≤ 9223372036854775807) <|
 chk (((t2 ++ [59]) ++ t3).length + ([59] : List UInt8).length ≤ 9223372036854775807) <|
 chk ((([.str [105, 109, 103]] : List V).length + p_Images.length) * 16 ≤ 140737488355328 ∧ ([.str [105, 109, 103]] : List V).length + p_Images.length ≤ 140737488355328) <|
 F197 _ (([.str [105, 109, 103]] : List V) ++ p_Images) [32] fun t4 =>
 chk ((((t2 ++ [59]) ++ t3) ++ [59]).length + t4.length ≤ 9223372036854775807) <|
 br (!(p_Nonce == [])) (
 chk (([59, 110, 111, 110, 99, 101, 32] : List UInt8).length + p_Nonce.length ≤ 9223372036854775807) <|
 chk (((((t2 ++ [59]) ++ t3) ++ [59]) ++ t4).length + ([59, 110, 111, 110, 99, 101, 32] ++ p_Nonce : List UInt8).length ≤ 9223372036854775807) <|
 k (((((t2 ++ [59]) ++ t3) ++ [59]) ++ t4) ++ ([59, 110, 111, 110, 99, 101, 32] ++ p_Nonce))) (
 k ((((t2 ++ [59]) ++ t3) ++ [59]) ++ t4))))
def F182 : T182 := P182 F196 F197
abbrev s182 : List (Bool × List CK) := [(true, [.bool, .sl 1 true, .sl 1 true, .sl 1 true, .str])]
def G182 (F : T182) (β : Type) (e : (Bool × List V × List V × List V × List UInt8 × Unit) × Unit) (k : V → Option β) : Option β := let a0_0 := e.1; let a0_1 := a0_0.2; let a0_2 := a0_1.2; let a0_3 := a0_2.2; let a0_4 := a0_3.2; F β a0_0.1 a0_1.1 a0_2.1 a0_3.1 a0_4.1 (fun y1 => k (.str y1))
abbrev W182 (F : T182) : WT := wrap s182 (G182 F)
theorem k182 (F196 : T196) (F197 : T197) (β : Type) (e : argsT s182) (k : V → Option β) : fnK cfg (tabL [(196, W196 F196), (197, W197 F197)]) noX 182 Tryz.f182 β (argsEnc s182 e) k = G182 (P182 F196 F197 ) β e k := by kernel_rfl
theorem okd182 : FnOk D1 182 (W182 F182) := fn_okW [(196, W196 F196), (197, W197 F197)] noX (fun _ => rfl) Tryz.func182 rfl (tabL_cons okd196 (tabL_cons okd197 tabL_nil)) (k182 F196 F197 )
abbrev T183 : Type 1 := (β : Type) → Bool → List V → List V → List V → List UInt8 → (Bool → List V → List V → List V → List UInt8 → Option β) → Option β
def P183 : T183 := fun β p_Set p_Scripts p_Styles p_Images p_Nonce k =>
 chk ((([] : List V).length + p_Scripts.length) * 16 ≤ 140737488355328 ∧ ([] : List V).length + p_Scripts.length ≤ 140737488355328) <|
 chk ((([] : List V).length + p_Styles.length) * 16 ≤ 140737488355328 ∧ ([] : List V).length + p_Styles.length ≤ 140737488355328) <|
 chk ((([] : List V).length + p_Images.length) * 16 ≤ 140737488355328 ∧ ([] : List V).length + p_Images.length ≤ 140737488355328) <|
 k p_Set (([] : List V) ++ p_Scripts) (([] : List V) ++ p_Styles) (([] : List V) ++ p_Images) p_Nonce
def F183 : T183 := P183
abbrev s183 : List (Bool × List CK) := [(true, [.bool, .sl 1 true, .sl 1 true, .sl 1 true, .str])]
def G183 (F : T183) (β : Type) (e : (Bool × List V × List V × List V × List UInt8 × Unit) × Unit) (k : V → Option β) : Option β := let a0_0 := e.1; let a0_1 := a0_0.2; let a0_2 := a0_1.2; let a0_3 := a0_2.2; let a0_4 := a0_3.2; F β a0_0.1 a0_1.1 a0_2.1 a0_3.1 a0_4.1 (fun y1 y2 y3 y4 y5 => k (.agg [.bool y1, .own 1 1 .flat y2, .own 2 1 .flat y3, .own 3 1 .flat y4, .str y5]))
abbrev W183 (F : T183) : WT := wrap s183 (G183 F)
theorem k183 (β : Type) (e : argsT s183) (k : V → Option β) : fnK cfg (tabL []) noX 183 Tryz.f183 β (argsEnc s183 e) k = G183 (P183 ) β e k := by kernel_rfl
theorem okd183 : FnOk D1 183 (W183 F183) := fn_okW [] noX (fun _ => rfl) Tryz.func183 rfl (tabL_nil) (k183 )
abbrev T112 : Type 1 := (β : Type) → Int → Int → List UInt8 → Int → Bool → List UInt8 → (Bool → Option β) → Option β
def F112 : T112 := respK F182 F183
abbrev s112 : List (Bool × List CK) := [(true, [.int .i64, .int .i64, .str, .int .i64, .bool, .str])]
def G112 (F : T112) (β : Type) (e : (Int × Int × List UInt8 × Int × Bool × List UInt8 × Unit) × Unit) (k : V → Option β) : Option β := let a0_0 := e.1; let a0_1 := a0_0.2; let a0_2 := a0_1.2; let a0_3 := a0_2.2; let a0_4 := a0_3.2; let a0_5 := a0_4.2; F β a0_0.1 a0_1.1 a0_2.1 a0_3.1 a0_4.1 a0_5.1 (fun y1 => k (.bool y1))
abbrev W112 (F : T112) : WT := wrap s112 (G112 F)
theorem ok112 : FnOk D 112 (W112 F112) := ok_resp (Fp := F182) (Cp := F183) (fun _ => rfl) okd182 okd183
abbrev T108 : Type 1 := (β : Type) → List UInt8 → List V → (Bool → Option β) → Option β
def P108 (F110 : T110) (F152 : T152) (F112 : T112) : T108 := fun β s_Host s_Files k =>
 whileK (fun s1 =>
 br (decide ((lI s1 2) < (lI s1 1))) (
 chk (0 ≤ (lI s1 2)) <|
 idx true [.str, .int .i64, .int .i64, .str, .int .i64, .bool, .str] (lL s1 0) ((lI s1 2).toNat) fun (e2 : List UInt8 × Int × Int × List UInt8 × Int × Bool × List UInt8 × Unit) =>
 F110 _ e2.1 fun b3 =>
 br (!b3) (
 some (.inr (0, [.b false, .s (lS s1 3), .l (lL s1 4)]))) (
 F152 _ (lS s1 3) (lL s1 4) e2.1 fun n4 =>
 br (n4 != (lI s1 2)) (
 some (.inr (0, [.b false, .s (lS s1 3), .l (lL s1 4)]))) (
 F112 _ e2.2.1 e2.2.2.1 e2.2.2.2.1 e2.2.2.2.2.1 e2.2.2.2.2.2.1 e2.2.2.2.2.2.2.1 fun b5 =>
 br (!b5) (
 some (.inr (0, [.b false, .s (lS s1 3), .l (lL s1 4)]))) (
 some (.inl [.l (lL s1 0), .i (lI s1 1), .i (IntKind.wrap .i64 ((lI s1 2) + 1)), .s (lS s1 3), .l (lL s1 4)]))))) (
 some (.inr (1, [.s (lS s1 3), .l (lL s1 4)])))) [.l s_Files, .i (s_Files.length : Int), .i 0, .s s_Host, .l s_Files] fun (r6 : Nat × List Leaf) =>
 if r6.1 = 0 then
 k (lB r6.2 0)
 else
 F110 _ (lS r6.2 0) fun b7 =>
 br b7 (
 k (decide (((lL r6.2 1).length : Int) ≤ 10))) (
 k false)
def F108 : T108 := P108 F110 F152 F112
def X108 : Exits := fun i => lookN i [] [(2, [(.ret, xk 41 [(1, .ptr 1 0), (2, .bool false)] [(1, .agg [.str [], .sl 7 true []])]), (.exit 0, xk 41 [(1, .ptr 1 0)] [(1, .agg [.str [], .sl 7 true []])])])]
abbrev s108 : List (Bool × List CK) := [(true, [.str, .sl 7 true])]
def G108 (F : T108) (β : Type) (e : (List UInt8 × List V × Unit) × Unit) (k : V → Option β) : Option β := F β e.1.1 e.1.2.1 (fun y1 => k (.bool y1))
abbrev W108 (F : T108) : WT := wrap s108 (G108 F)
theorem k108 (F110 : T110) (F152 : T152) (F112 : T112) (β : Type) (e : argsT s108) (k : V → Option β) : fnK cfg (tabL [(110, W110 F110), (152, W152 F152), (112, W112 F112)]) X108 108 Tryz.f108 β (argsEnc s108 e) k = G108 (P108 F110 F152 F112 ) β e k := by kernel_rfl
theorem ok108 : FnOk D 108 (W108 F108) := fn_okW [(110, W110 F110), (152, W152 F152), (112, W112 F112)] X108 (fun _ => rfl) Tryz.func108 rfl (tabL_cons ok110 (tabL_cons ok152 (tabL_cons ok112 tabL_nil))) (k108 F110 F152 F112 )
abbrev T154cAs : Type 1 := (β : Type) → List UInt8 → List V → List UInt8 → (Bool → Option β) → Option β
def P154cAs : T154cAs := fun β s_Host s_Files c1_1 k =>
 k (s_Host == c1_1)
def F154cAs : T154cAs := P154cAs
def W154cAs (F : T154cAs) : (β : Type) → List V → (V → Option β) → Option β := fun β args k => match args with
 | [.agg [.str s_Host, .sl 7 true s_Files], .iptr (.agg [.str c1_1]) 0] => F β s_Host s_Files c1_1 (fun y1 => k (.bool y1))
 | _ => none
theorem k154cAs {β : Type} (s_Host : List UInt8) (s_Files : List V) (c1_1 : List UInt8) (k : V → Option β) : fnK cfg (tabL []) noX 154 Tryz.f154 β [.agg [.str s_Host, .sl 7 true s_Files], .iptr (.agg [.str c1_1]) 0] k = P154cAs β s_Host s_Files c1_1 (fun y1 => k (.bool y1)) := by kernel_rfl
theorem ok154cAs : FnOk D 154 (W154cAs F154cAs) := fn_ok (l := []) (X := noX) (fun _ => rfl) Tryz.func154 rfl (tabL_nil) (fun β args k r h => by
 unfold W154cAs at h
 split at h
 · rw [← h]; exact k154cAs _ _ _ k
 · cases h)
abbrev T153c154 : Type 1 := (β : Type) → List V → List UInt8 → (Int → Option β) → Option β
def P153c154 (F154cAs : T154cAs) : T153c154 := fun β s f_1 k =>
 whileK (fun s1 =>
 br (decide ((lI s1 3) < (lI s1 2))) (
 chk (0 ≤ (lI s1 3)) <|
 idx true [.str, .sl 7 true] (lL s1 0) ((lI s1 3).toNat) fun (e2 : List UInt8 × List V × Unit) =>
 F154cAs _ e2.1 e2.2.1 (lS s1 1) fun b3 =>
 br b3 (
 some (.inr (0, [.i (lI s1 3)]))) (
 some (.inl [.l (lL s1 0), .s (lS s1 1), .i (lI s1 2), .i (IntKind.wrap .i64 ((lI s1 3) + 1))]))) (
 some (.inr (1, [])))) [.l s, .s f_1, .i (s.length : Int), .i 0] fun (r4 : Nat × List Leaf) =>
 if r4.1 = 0 then
 k (lI r4.2 0)
 else
 k (-1)
def F153c154 : T153c154 := P153c154 F154cAs
def X153c154 : Exits := fun i => lookN i [] [(2, [(.ret, xk 19 [(4, .int .i64 0)] []), (.exit 0, xk 19 [] [])])]
def W153c154 (F : T153c154) : (β : Type) → List V → (V → Option β) → Option β := fun β args k => match args with
 | [.sl 2 false s, .clo 154 [.iptr (.agg [.str f_1]) 0]] => F β s f_1 (fun y1 => k (.int .i64 y1))
 | _ => none
theorem k153c154 (F154cAs : T154cAs) {β : Type} (s : List V) (f_1 : List UInt8) (k : V → Option β) : fnK cfg (tabL [(154, W154cAs F154cAs)]) X153c154 153 Tryz.f153 β [.sl 2 false s, .clo 154 [.iptr (.agg [.str f_1]) 0]] k = P153c154 F154cAs β s f_1 (fun y1 => k (.int .i64 y1)) := by kernel_rfl
theorem ok153c154 : FnOk D 153 (W153c154 F153c154) := fn_ok (l := [(154, W154cAs F154cAs)]) (X := X153c154) (fun _ => rfl) Tryz.func153 rfl (tabL_cons ok154cAs tabL_nil) (fun β args k r h => by
 unfold W153c154 at h
 split at h
 · rw [← h]; exact k153c154 F154cAs _ _ k
 · cases h)
abbrev T109 : Type 1 := (β : Type) → List V → List UInt8 → (Int → Option β) → Option β
def P109 (F153c154 : T153c154) : T109 := fun β l host k =>
 F153c154 _ l host fun n1 =>
 k n1
def F109 : T109 := P109 F153c154
abbrev s109 : List (Bool × List CK) := [(false, [.sl 2 false]), (false, [.str])]
def G109 (F : T109) (β : Type) (e : (List V × Unit) × (List UInt8 × Unit) × Unit) (k : V → Option β) : Option β := F β e.1.1 e.2.1.1 (fun y1 => k (.int .i64 y1))
abbrev W109 (F : T109) : WT := wrap s109 (G109 F)
theorem k109 (F153c154 : T153c154) (β : Type) (e : argsT s109) (k : V → Option β) : fnK cfg (tabL [(153, W153c154 F153c154)]) noX 109 Tryz.f109 β (argsEnc s109 e) k = G109 (P109 F153c154 ) β e k := by kernel_rfl
theorem ok109 : FnOk D 109 (W109 F109) := fn_okW [(153, W153c154 F153c154)] noX (fun _ => rfl) Tryz.func109 rfl (tabL_cons ok153c154 tabL_nil) (k109 F153c154 )
abbrev T48 : Type 1 := (β : Type) → List V → (Bool → Option β) → Option β
def P48 (F108 : T108) (F109 : T109) : T48 := fun β l k =>
 whileK (fun s1 =>
 br (decide ((lI s1 3) < (lI s1 2))) (
 chk (0 ≤ (lI s1 3)) <|
 idx true [.str, .sl 7 true] (lL s1 1) ((lI s1 3).toNat) fun (e2 : List UInt8 × List V × Unit) =>
 F108 _ e2.1 e2.2.1 fun b3 =>
 br (!b3) (
 some (.inr (0, [.l (lL s1 0), .b false]))) (
 F109 _ (lL s1 0) e2.1 fun n4 =>
 br (n4 != (lI s1 3)) (
 some (.inr (0, [.l (lL s1 0), .b false]))) (
 some (.inl [.l (lL s1 0), .l (lL s1 1), .i (lI s1 2), .i (IntKind.wrap .i64 ((lI s1 3) + 1))])))) (
 some (.inr (1, [.l (lL s1 0)])))) [.l l, .l l, .i (l.length : Int), .i 0] fun (r5 : Nat × List Leaf) =>
 if r5.1 = 0 then
 k (lB r5.2 1)
 else
 k (decide (((lL r5.2 0).length : Int) ≤ 4))
def F48 : T48 := P48 F108 F109
def X48 : Exits := fun i => lookN i [] [(2, [(.ret, xk 27 [(0, .sl 2 false []), (2, .bool false)] []), (.exit 0, xk 27 [(0, .sl 2 false [])] [])])]
abbrev s48 : List (Bool × List CK) := [(false, [.sl 2 false])]
def G48 (F : T48) (β : Type) (e : (List V × Unit) × Unit) (k : V → Option β) : Option β := F β e.1.1 (fun y1 => k (.bool y1))
abbrev W48 (F : T48) : WT := wrap s48 (G48 F)
theorem k48 (F108 : T108) (F109 : T109) (β : Type) (e : argsT s48) (k : V → Option β) : fnK cfg (tabL [(108, W108 F108), (109, W109 F109)]) X48 48 Tryz.f48 β (argsEnc s48 e) k = G48 (P48 F108 F109 ) β e k := by kernel_rfl
theorem ok48 : FnOk D 48 (W48 F48) := fn_okW [(108, W108 F108), (109, W109 F109)] X48 (fun _ => rfl) Tryz.func48 rfl (tabL_cons ok108 (tabL_cons ok109 tabL_nil)) (k48 F108 F109 )
abbrev T111 : Type 1 := (β : Type) → List UInt8 → List UInt8 → (Bool → Option β) → Option β
def P111 (F110 : T110) : T111 := fun β a_Host a_Path k =>
 F110 _ a_Host fun b1 =>
 br b1 (
 F110 _ a_Path fun b2 =>
 k b2) (
 k false)
def F111 : T111 := P111 F110
abbrev s111 : List (Bool × List CK) := [(true, [.str, .str])]
def G111 (F : T111) (β : Type) (e : (List UInt8 × List UInt8 × Unit) × Unit) (k : V → Option β) : Option β := F β e.1.1 e.1.2.1 (fun y1 => k (.bool y1))
abbrev W111 (F : T111) : WT := wrap s111 (G111 F)
theorem k111 (F110 : T110) (β : Type) (e : argsT s111) (k : V → Option β) : fnK cfg (tabL [(110, W110 F110)]) noX 111 Tryz.f111 β (argsEnc s111 e) k = G111 (P111 F110 ) β e k := by kernel_rfl
theorem ok111 : FnOk D 111 (W111 F111) := fn_okW [(110, W110 F110)] noX (fun _ => rfl) Tryz.func111 rfl (tabL_cons ok110 tabL_nil) (k111 F110 )
abbrev T157cAs_Ass : Type 1 := (β : Type) → List UInt8 → List UInt8 → List UInt8 → Int → Int → List UInt8 → Int → Bool → List UInt8 → Int → List UInt8 → List UInt8 → List UInt8 → (Bool → Option β) → Option β
def P157cAs_Ass : T157cAs_Ass := fun β e_Top e_To_Host e_To_Path e_Response_Status e_Response_Kind e_Response_Body e_Response_Age e_Response_Shares e_Response_Policy e_Until c1_1 c2_1 c2_2 k =>
 br (e_Top == c1_1) (
 k ((e_To_Host == c2_1) && ((e_To_Path == c2_2) && true))) (
 k false)
def F157cAs_Ass : T157cAs_Ass := P157cAs_Ass
def W157cAs_Ass (F : T157cAs_Ass) : (β : Type) → List V → (V → Option β) → Option β := fun β args k => match args with
 | [.agg [.str e_Top, .str e_To_Host, .str e_To_Path, .int .i64 e_Response_Status, .int .i64 e_Response_Kind, .str e_Response_Body, .int .i64 e_Response_Age, .bool e_Response_Shares, .str e_Response_Policy, .int .i64 e_Until], .iptr (.agg [.str c1_1]) 0, .iptr (.agg [.str c2_1, .str c2_2]) 0] => F β e_Top e_To_Host e_To_Path e_Response_Status e_Response_Kind e_Response_Body e_Response_Age e_Response_Shares e_Response_Policy e_Until c1_1 c2_1 c2_2 (fun y1 => k (.bool y1))
 | _ => none
theorem k157cAs_Ass {β : Type} (e_Top : List UInt8) (e_To_Host : List UInt8) (e_To_Path : List UInt8) (e_Response_Status : Int) (e_Response_Kind : Int) (e_Response_Body : List UInt8) (e_Response_Age : Int) (e_Response_Shares : Bool) (e_Response_Policy : List UInt8) (e_Until : Int) (c1_1 : List UInt8) (c2_1 : List UInt8) (c2_2 : List UInt8) (k : V → Option β) : fnK cfg (tabL []) noX 157 Tryz.f157 β [.agg [.str e_Top, .str e_To_Host, .str e_To_Path, .int .i64 e_Response_Status, .int .i64 e_Response_Kind, .str e_Response_Body, .int .i64 e_Response_Age, .bool e_Response_Shares, .str e_Response_Policy, .int .i64 e_Until], .iptr (.agg [.str c1_1]) 0, .iptr (.agg [.str c2_1, .str c2_2]) 0] k = P157cAs_Ass β e_Top e_To_Host e_To_Path e_Response_Status e_Response_Kind e_Response_Body e_Response_Age e_Response_Shares e_Response_Policy e_Until c1_1 c2_1 c2_2 (fun y1 => k (.bool y1)) := by kernel_rfl
theorem ok157cAs_Ass : FnOk D 157 (W157cAs_Ass F157cAs_Ass) := fn_ok (l := []) (X := noX) (fun _ => rfl) Tryz.func157 rfl (tabL_nil) (fun β args k r h => by
 unfold W157cAs_Ass at h
 split at h
 · rw [← h]; exact k157cAs_Ass _ _ _ _ _ _ _ _ _ _ _ _ _ k
 · cases h)
abbrev T156c157 : Type 1 := (β : Type) → List V → List UInt8 → List UInt8 → List UInt8 → (Int → Option β) → Option β
def P156c157 (F157cAs_Ass : T157cAs_Ass) : T156c157 := fun β s f_1 f_2 f_3 k =>
 whileK (fun s1 =>
 br (decide ((lI s1 5) < (lI s1 4))) (
 chk (0 ≤ (lI s1 5)) <|
 idx true [.str, .str, .str, .int .i64, .int .i64, .str, .int .i64, .bool, .str, .int .i64] (lL s1 0) ((lI s1 5).toNat) fun (e2 : List UInt8 × List UInt8 × List UInt8 × Int × Int × List UInt8 × Int × Bool × List UInt8 × Int × Unit) =>
 F157cAs_Ass _ e2.1 e2.2.1 e2.2.2.1 e2.2.2.2.1 e2.2.2.2.2.1 e2.2.2.2.2.2.1 e2.2.2.2.2.2.2.1 e2.2.2.2.2.2.2.2.1 e2.2.2.2.2.2.2.2.2.1 e2.2.2.2.2.2.2.2.2.2.1 (lS s1 1) (lS s1 2) (lS s1 3) fun b3 =>
 br b3 (
 some (.inr (0, [.i (lI s1 5)]))) (
 some (.inl [.l (lL s1 0), .s (lS s1 1), .s (lS s1 2), .s (lS s1 3), .i (lI s1 4), .i (IntKind.wrap .i64 ((lI s1 5) + 1))]))) (
 some (.inr (1, [])))) [.l s, .s f_1, .s f_2, .s f_3, .i (s.length : Int), .i 0] fun (r4 : Nat × List Leaf) =>
 if r4.1 = 0 then
 k (lI r4.2 0)
 else
 k (-1)
def F156c157 : T156c157 := P156c157 F157cAs_Ass
def X156c157 : Exits := fun i => lookN i [] [(2, [(.ret, xk 19 [(4, .int .i64 0)] []), (.exit 0, xk 19 [] [])])]
def W156c157 (F : T156c157) : (β : Type) → List V → (V → Option β) → Option β := fun β args k => match args with
 | [.sl 10 true s, .clo 157 [.iptr (.agg [.str f_1]) 0, .iptr (.agg [.str f_2, .str f_3]) 0]] => F β s f_1 f_2 f_3 (fun y1 => k (.int .i64 y1))
 | _ => none
theorem k156c157 (F157cAs_Ass : T157cAs_Ass) {β : Type} (s : List V) (f_1 : List UInt8) (f_2 : List UInt8) (f_3 : List UInt8) (k : V → Option β) : fnK cfg (tabL [(157, W157cAs_Ass F157cAs_Ass)]) X156c157 156 Tryz.f156 β [.sl 10 true s, .clo 157 [.iptr (.agg [.str f_1]) 0, .iptr (.agg [.str f_2, .str f_3]) 0]] k = P156c157 F157cAs_Ass β s f_1 f_2 f_3 (fun y1 => k (.int .i64 y1)) := by kernel_rfl
theorem ok156c157 : FnOk D 156 (W156c157 F156c157) := fn_ok (l := [(157, W157cAs_Ass F157cAs_Ass)]) (X := X156c157) (fun _ => rfl) Tryz.func156 rfl (tabL_cons ok157cAs_Ass tabL_nil) (fun β args k r h => by
 unfold W156c157 at h
 split at h
 · rw [← h]; exact k156c157 F157cAs_Ass _ _ _ _ k
 · cases h)
abbrev T113 : Type 1 := (β : Type) → List V → List UInt8 → List UInt8 → List UInt8 → (Int → Option β) → Option β
def P113 (F156c157 : T156c157) : T113 := fun β c_Entries top a_Host a_Path k =>
 F156c157 _ c_Entries top a_Host a_Path fun n1 =>
 k n1
def F113 : T113 := P113 F156c157
abbrev s113 : List (Bool × List CK) := [(true, [.sl 10 true]), (false, [.str]), (true, [.str, .str])]
def G113 (F : T113) (β : Type) (e : (List V × Unit) × (List UInt8 × Unit) × (List UInt8 × List UInt8 × Unit) × Unit) (k : V → Option β) : Option β := F β e.1.1 e.2.1.1 e.2.2.1.1 e.2.2.1.2.1 (fun y1 => k (.int .i64 y1))
abbrev W113 (F : T113) : WT := wrap s113 (G113 F)
theorem k113 (F156c157 : T156c157) (β : Type) (e : argsT s113) (k : V → Option β) : fnK cfg (tabL [(156, W156c157 F156c157)]) noX 113 Tryz.f113 β (argsEnc s113 e) k = G113 (P113 F156c157 ) β e k := by kernel_rfl
theorem ok113 : FnOk D 113 (W113 F113) := fn_okW [(156, W156c157 F156c157)] noX (fun _ => rfl) Tryz.func113 rfl (tabL_cons ok156c157 tabL_nil) (k113 F156c157 )
abbrev T49 : Type 1 := (β : Type) → List V → (Bool → Option β) → Option β
def P49 (F110 : T110) (F111 : T111) (F112 : T112) (F113 : T113) : T49 := fun β c_Entries k =>
 whileK (fun s1 =>
 br (decide ((lI s1 2) < (lI s1 1))) (
 chk (0 ≤ (lI s1 2)) <|
 idx true [.str, .str, .str, .int .i64, .int .i64, .str, .int .i64, .bool, .str, .int .i64] (lL s1 0) ((lI s1 2).toNat) fun (e2 : List UInt8 × List UInt8 × List UInt8 × Int × Int × List UInt8 × Int × Bool × List UInt8 × Int × Unit) =>
 F110 _ e2.1 fun b3 =>
 br (!b3) (
 some (.inr (0, [.b false, .l (lL s1 3)]))) (
 F111 _ e2.2.1 e2.2.2.1 fun b4 =>
 br (!b4) (
 some (.inr (0, [.b false, .l (lL s1 3)]))) (
 F112 _ e2.2.2.2.1 e2.2.2.2.2.1 e2.2.2.2.2.2.1 e2.2.2.2.2.2.2.1 e2.2.2.2.2.2.2.2.1 e2.2.2.2.2.2.2.2.2.1 fun b5 =>
 br (!b5) (
 some (.inr (0, [.b false, .l (lL s1 3)]))) (
 br (e2.2.2.2.1 != 200) (
 some (.inr (0, [.b false, .l (lL s1 3)]))) (
 F113 _ (lL s1 3) e2.1 e2.2.1 e2.2.2.1 fun n6 =>
 br (n6 != (lI s1 2)) (
 some (.inr (0, [.b false, .l (lL s1 3)]))) (
 some (.inl [.l (lL s1 0), .i (lI s1 1), .i (IntKind.wrap .i64 ((lI s1 2) + 1)), .l (lL s1 3)]))))))) (
 some (.inr (1, [.l (lL s1 3)])))) [.l c_Entries, .i (c_Entries.length : Int), .i 0, .l c_Entries] fun (r7 : Nat × List Leaf) =>
 if r7.1 = 0 then
 k (lB r7.2 0)
 else
 k (decide (((lL r7.2 0).length : Int) ≤ 100))
def F49 : T49 := P49 F110 F111 F112 F113
def X49 : Exits := fun i => lookN i [] [(2, [(.ret, xk 50 [(1, .ptr 1 0), (2, .bool false)] [(1, .agg [.sl 10 true []])]), (.exit 0, xk 50 [(1, .ptr 1 0)] [(1, .agg [.sl 10 true []])])])]
abbrev s49 : List (Bool × List CK) := [(true, [.sl 10 true])]
def G49 (F : T49) (β : Type) (e : (List V × Unit) × Unit) (k : V → Option β) : Option β := F β e.1.1 (fun y1 => k (.bool y1))
abbrev W49 (F : T49) : WT := wrap s49 (G49 F)
theorem k49 (F110 : T110) (F111 : T111) (F112 : T112) (F113 : T113) (β : Type) (e : argsT s49) (k : V → Option β) : fnK cfg (tabL [(110, W110 F110), (111, W111 F111), (112, W112 F112), (113, W113 F113)]) X49 49 Tryz.f49 β (argsEnc s49 e) k = G49 (P49 F110 F111 F112 F113 ) β e k := by kernel_rfl
theorem ok49 : FnOk D 49 (W49 F49) := fn_okW [(110, W110 F110), (111, W111 F111), (112, W112 F112), (113, W113 F113)] X49 (fun _ => rfl) Tryz.func49 rfl (tabL_cons ok110 (tabL_cons ok111 (tabL_cons ok112 (tabL_cons ok113 tabL_nil)))) (k49 F110 F111 F112 F113 )
abbrev T20 : Type 1 := (β : Type) → List V → List V → List V → Int → (Bool → Option β) → Option β
def P20 (F48 : T48) (F49 : T49) (F50 : T50) : T20 := fun β n_Servers n_Cache_Entries n_Log n_Now k =>
 F48 _ n_Servers fun b1 =>
 br b1 (
 F49 _ n_Cache_Entries fun b2 =>
 br b2 (
 br (decide ((n_Log.length : Int) ≤ 400)) (
 F50 _ n_Now 0 999999998000 fun b3 =>
 k b3) (
 k false)) (
 k false)) (
 k false)
def F20 : T20 := P20 F48 F49 F50
abbrev s20 : List (Bool × List CK) := [(true, [.sl 2 false, .sl 10 true, .sl 4 true, .int .i64])]
def G20 (F : T20) (β : Type) (e : (List V × List V × List V × Int × Unit) × Unit) (k : V → Option β) : Option β := F β e.1.1 e.1.2.1 e.1.2.2.1 e.1.2.2.2.1 (fun y1 => k (.bool y1))
abbrev W20 (F : T20) : WT := wrap s20 (G20 F)
theorem k20 (F48 : T48) (F49 : T49) (F50 : T50) (β : Type) (e : argsT s20) (k : V → Option β) : fnK cfg (tabL [(48, W48 F48), (49, W49 F49), (50, W50 F50)]) noX 20 Tryz.f20 β (argsEnc s20 e) k = G20 (P20 F48 F49 F50 ) β e k := by kernel_rfl
theorem ok20 : FnOk D 20 (W20 F20) := fn_okW [(48, W48 F48), (49, W49 F49), (50, W50 F50)] noX (fun _ => rfl) Tryz.func20 rfl (tabL_cons ok48 (tabL_cons ok49 (tabL_cons ok50 tabL_nil))) (k20 F48 F49 F50 )
abbrev T51 : Type 1 := (β : Type) → List V → Int → (Bool → Option β) → Option β
def P51 : T51 := fun β t_Visits t_At k =>
 br (decide (t_At ≥ 0)) (
 k (decide (t_At < (t_Visits.length : Int)))) (
 k false)
def F51 : T51 := P51
abbrev s51 : List (Bool × List CK) := [(true, [.sl 25 false, .int .i64])]
def G51 (F : T51) (β : Type) (e : (List V × Int × Unit) × Unit) (k : V → Option β) : Option β := F β e.1.1 e.1.2.1 (fun y1 => k (.bool y1))
abbrev W51 (F : T51) : WT := wrap s51 (G51 F)
theorem k51 (β : Type) (e : argsT s51) (k : V → Option β) : fnK cfg (tabL []) noX 51 Tryz.f51 β (argsEnc s51 e) k = G51 (P51 ) β e k := by kernel_rfl
theorem ok51 : FnOk D 51 (W51 F51) := fn_okW [] noX (fun _ => rfl) Tryz.func51 rfl (tabL_nil) (k51 )
abbrev T21 : Type 1 := (β : Type) → List V → Int → (Bool → Option β) → Option β
def P21 (F51 : T51) : T21 := fun β t_Visits t_At k =>
 whileK (fun s1 =>
 br (decide ((lI s1 2) < (lI s1 1))) (
 chk (0 ≤ (lI s1 2)) <|
 idx true [.str, .str, .str, .str, .bool, .sl 1 true, .sl 1 true, .sl 1 true, .str, .str, .sl 4 false, .bool, .sl 4 false, .sl 1 true, .sl 8 true, .sl 5 true, .sl 2 true, .int .i64, .int .i64, .int .i64, .int .i64, .sl 2 true, .sl 1 true, .bool, .bool] (lL s1 0) ((lI s1 2).toNat) fun (e2 : List UInt8 × List UInt8 × List UInt8 × List UInt8 × Bool × List V × List V × List V × List UInt8 × List UInt8 × List V × Bool × List V × List V × List V × List V × List V × Int × Int × Int × Int × List V × List V × Bool × Bool × Unit) =>
 br e2.2.2.2.2.2.2.2.2.2.2.2.2.2.2.2.2.2.2.2.2.2.2.2.2.1 (
 br (!((e2.2.2.1 == e2.1) && ((e2.2.2.2.1 == e2.2.1) && true))) (
 some (.inr (0, [.b false, .l (lL s1 3), .i (lI s1 4)]))) (
 some (.inl [.l (lL s1 0), .i (lI s1 1), .i (IntKind.wrap .i64 ((lI s1 2) + 1)), .l (lL s1 3), .i (lI s1 4)]))) (
 some (.inl [.l (lL s1 0), .i (lI s1 1), .i (IntKind.wrap .i64 ((lI s1 2) + 1)), .l (lL s1 3), .i (lI s1 4)]))) (
 some (.inr (1, [.l (lL s1 3), .i (lI s1 4)])))) [.l t_Visits, .i (t_Visits.length : Int), .i 0, .l t_Visits, .i t_At] fun (r3 : Nat × List Leaf) =>
 if r3.1 = 0 then
 k (lB r3.2 0)
 else
 br (decide (((lL r3.2 0).length : Int) ≤ 6)) (
 F51 _ (lL r3.2 0) (lI r3.2 1) fun b4 =>
 br b4 (
 k true) (
 br (((lL r3.2 0).length : Int) == 0) (
 k ((lI r3.2 1) == (-1))) (
 k false))) (
 k false)
def F21 : T21 := P21 F51
def X21 : Exits := fun i => lookN i [] [(2, [(.ret, xk 42 [(1, .ptr 1 0), (2, .bool false)] [(1, .agg [.sl 25 false [], .int .i64 0])]), (.exit 0, xk 42 [(1, .ptr 1 0)] [(1, .agg [.sl 25 false [], .int .i64 0])])])]
abbrev s21 : List (Bool × List CK) := [(true, [.sl 25 false, .int .i64])]
def G21 (F : T21) (β : Type) (e : (List V × Int × Unit) × Unit) (k : V → Option β) : Option β := F β e.1.1 e.1.2.1 (fun y1 => k (.bool y1))
abbrev W21 (F : T21) : WT := wrap s21 (G21 F)
theorem k21 (F51 : T51) (β : Type) (e : argsT s21) (k : V → Option β) : fnK cfg (tabL [(51, W51 F51)]) X21 21 Tryz.f21 β (argsEnc s21 e) k = G21 (P21 F51 ) β e k := by kernel_rfl
theorem ok21 : FnOk D 21 (W21 F21) := fn_okW [(51, W51 F51)] X21 (fun _ => rfl) Tryz.func21 rfl (tabL_cons ok51 tabL_nil) (k21 F51 )
abbrev T8 : Type 1 := (β : Type) → List V → List V → List V → Int → List V → Int → Bool → List UInt8 → List UInt8 → Bool → List V → List V → List V → List UInt8 → List UInt8 → List V → Bool → List V → List V → List V → List V → List V → Int → Int → Int → Int → List V → List V → Bool → List V → List V → Int → Bool → (Bool → Option β) → Option β
def P8 (F20 : T20) (F21 : T21) : T8 := fun β w_Net_Servers w_Net_Cache_Entries w_Net_Log w_Net_Now w_Tab_Visits w_Tab_At w_Hidden_Ready w_Hidden_Page_Addr_Host w_Hidden_Page_Addr_Path w_Hidden_Page_Policy_Set w_Hidden_Page_Policy_Scripts w_Hidden_Page_Policy_Styles w_Hidden_Page_Policy_Images w_Hidden_Page_Policy_Nonce w_Hidden_Page_Tok_Rest w_Hidden_Page_Queue w_Hidden_Page_Ended w_Hidden_Page_Builder_Nodes w_Hidden_Page_Builder_Open w_Hidden_Page_Slots w_Hidden_Page_Mods w_Hidden_Page_Entries w_Hidden_Page_Block w_Hidden_Page_Inline w_Hidden_Page_Deferred w_Hidden_Page_Entered w_Hidden_Page_Ran w_Hidden_Page_Log w_Hidden_Page_Loaded w_Hidden_Taken w_Hidden_Servers w_Hidden_Now w_Fast k =>
 F20 _ w_Net_Servers w_Net_Cache_Entries w_Net_Log w_Net_Now fun b1 =>
 br b1 (
 F21 _ w_Tab_Visits w_Tab_At fun b2 =>
 k b2) (
 k false)
def F8 : T8 := P8 F20 F21
abbrev s8 : List (Bool × List CK) := [(true, [.sl 2 false, .sl 10 true, .sl 4 true, .int .i64, .sl 25 false, .int .i64, .bool, .str, .str, .bool, .sl 1 true, .sl 1 true, .sl 1 true, .str, .str, .sl 4 false, .bool, .sl 4 false, .sl 1 true, .sl 8 true, .sl 5 true, .sl 2 true, .int .i64, .int .i64, .int .i64, .int .i64, .sl 2 true, .sl 1 true, .bool, .sl 8 true, .sl 2 false, .int .i64, .bool])]
def G8 (F : T8) (β : Type) (e : (List V × List V × List V × Int × List V × Int × Bool × List UInt8 × List UInt8 × Bool × List V × List V × List V × List UInt8 × List UInt8 × List V × Bool × List V × List V × List V × List V × List V × Int × Int × Int × Int × List V × List V × Bool × List V × List V × Int × Bool × Unit) × Unit) (k : V → Option β) : Option β := let a0_0 := e.1; let a0_1 := a0_0.2; let a0_2 := a0_1.2; let a0_3 := a0_2.2; let a0_4 := a0_3.2; let a0_5 := a0_4.2; let a0_6 := a0_5.2; let a0_7 := a0_6.2; let a0_8 := a0_7.2; let a0_9 := a0_8.2; let a0_10 := a0_9.2; let a0_11 := a0_10.2; let a0_12 := a0_11.2; let a0_13 := a0_12.2; let a0_14 := a0_13.2; let a0_15 := a0_14.2; let a0_16 := a0_15.2; let a0_17 := a0_16.2; let a0_18 := a0_17.2; let a0_19 := a0_18.2; let a0_20 := a0_19.2; let a0_21 := a0_20.2; let a0_22 := a0_21.2; let a0_23 := a0_22.2; let a0_24 := a0_23.2; let a0_25 := a0_24.2; let a0_26 := a0_25.2; let a0_27 := a0_26.2; let a0_28 := a0_27.2; let a0_29 := a0_28.2; let a0_30 := a0_29.2; let a0_31 := a0_30.2; let a0_32 := a0_31.2; F β a0_0.1 a0_1.1 a0_2.1 a0_3.1 a0_4.1 a0_5.1 a0_6.1 a0_7.1 a0_8.1 a0_9.1 a0_10.1 a0_11.1 a0_12.1 a0_13.1 a0_14.1 a0_15.1 a0_16.1 a0_17.1 a0_18.1 a0_19.1 a0_20.1 a0_21.1 a0_22.1 a0_23.1 a0_24.1 a0_25.1 a0_26.1 a0_27.1 a0_28.1 a0_29.1 a0_30.1 a0_31.1 a0_32.1 (fun y1 => k (.bool y1))
abbrev W8 (F : T8) : WT := wrap s8 (G8 F)
theorem k8 (F20 : T20) (F21 : T21) (β : Type) (e : argsT s8) (k : V → Option β) : fnK cfg (tabL [(20, W20 F20), (21, W21 F21)]) noX 8 Tryz.f8 β (argsEnc s8 e) k = G8 (P8 F20 F21 ) β e k := by kernel_rfl
theorem ok8 : FnOk D 8 (W8 F8) := fn_okW [(20, W20 F20), (21, W21 F21)] noX (fun _ => rfl) Tryz.func8 rfl (tabL_cons ok20 (tabL_cons ok21 tabL_nil)) (k8 F20 F21 )
abbrev T165 : Type 1 := (β : Type) → Int → Int → List UInt8 → Int → Bool → List UInt8 → Int → Int → List UInt8 → Int → Bool → List UInt8 → (Bool → Option β) → Option β
def P165 : T165 := fun β a_Status a_Kind a_Body a_Age a_Shares a_Policy b_Status b_Kind b_Body b_Age b_Shares b_Policy k =>
 br (a_Status != b_Status) (
 k false) (
 br (a_Kind != b_Kind) (
 k false) (
 br (!(a_Body == b_Body)) (
 k false) (
 br (a_Age != b_Age) (
 k false) (
 br (!(a_Shares == b_Shares)) (
 k false) (
 br (!(a_Policy == b_Policy)) (
 k false) (
 k true))))))
def F165 : T165 := P165
abbrev s165 : List (Bool × List CK) := [(true, [.int .i64, .int .i64, .str, .int .i64, .bool, .str]), (true, [.int .i64, .int .i64, .str, .int .i64, .bool, .str])]
def G165 (F : T165) (β : Type) (e : (Int × Int × List UInt8 × Int × Bool × List UInt8 × Unit) × (Int × Int × List UInt8 × Int × Bool × List UInt8 × Unit) × Unit) (k : V → Option β) : Option β := let a0_0 := e.1; let a0_1 := a0_0.2; let a0_2 := a0_1.2; let a0_3 := a0_2.2; let a0_4 := a0_3.2; let a0_5 := a0_4.2; let a1_0 := e.2.1; let a1_1 := a1_0.2; let a1_2 := a1_1.2; let a1_3 := a1_2.2; let a1_4 := a1_3.2; let a1_5 := a1_4.2; F β a0_0.1 a0_1.1 a0_2.1 a0_3.1 a0_4.1 a0_5.1 a1_0.1 a1_1.1 a1_2.1 a1_3.1 a1_4.1 a1_5.1 (fun y1 => k (.bool y1))
abbrev W165 (F : T165) : WT := wrap s165 (G165 F)
theorem k165 (β : Type) (e : argsT s165) (k : V → Option β) : fnK cfg (tabL []) noX 165 Tryz.f165 β (argsEnc s165 e) k = G165 (P165 ) β e k := by kernel_rfl
theorem ok165 : FnOk D 165 (W165 F165) := fn_okW [] noX (fun _ => rfl) Tryz.func165 rfl (tabL_nil) (k165 )
abbrev T184 : Type 1 := (β : Type) → List UInt8 → Int → Int → List UInt8 → Int → Bool → List UInt8 → List UInt8 → Int → Int → List UInt8 → Int → Bool → List UInt8 → (Bool → Option β) → Option β
def P184 (F165 : T165) : T184 := fun β a_Path a_Response_Status a_Response_Kind a_Response_Body a_Response_Age a_Response_Shares a_Response_Policy b_Path b_Response_Status b_Response_Kind b_Response_Body b_Response_Age b_Response_Shares b_Response_Policy k =>
 br (!(a_Path == b_Path)) (
 k false) (
 F165 _ a_Response_Status a_Response_Kind a_Response_Body a_Response_Age a_Response_Shares a_Response_Policy b_Response_Status b_Response_Kind b_Response_Body b_Response_Age b_Response_Shares b_Response_Policy fun b1 =>
 br (!b1) (
 k false) (
 k true))
def F184 : T184 := P184 F165
abbrev s184 : List (Bool × List CK) := [(true, [.str, .int .i64, .int .i64, .str, .int .i64, .bool, .str]), (true, [.str, .int .i64, .int .i64, .str, .int .i64, .bool, .str])]
def G184 (F : T184) (β : Type) (e : (List UInt8 × Int × Int × List UInt8 × Int × Bool × List UInt8 × Unit) × (List UInt8 × Int × Int × List UInt8 × Int × Bool × List UInt8 × Unit) × Unit) (k : V → Option β) : Option β := let a0_0 := e.1; let a0_1 := a0_0.2; let a0_2 := a0_1.2; let a0_3 := a0_2.2; let a0_4 := a0_3.2; let a0_5 := a0_4.2; let a0_6 := a0_5.2; let a1_0 := e.2.1; let a1_1 := a1_0.2; let a1_2 := a1_1.2; let a1_3 := a1_2.2; let a1_4 := a1_3.2; let a1_5 := a1_4.2; let a1_6 := a1_5.2; F β a0_0.1 a0_1.1 a0_2.1 a0_3.1 a0_4.1 a0_5.1 a0_6.1 a1_0.1 a1_1.1 a1_2.1 a1_3.1 a1_4.1 a1_5.1 a1_6.1 (fun y1 => k (.bool y1))
abbrev W184 (F : T184) : WT := wrap s184 (G184 F)
theorem k184 (F165 : T165) (β : Type) (e : argsT s184) (k : V → Option β) : fnK cfg (tabL [(165, W165 F165)]) noX 184 Tryz.f184 β (argsEnc s184 e) k = G184 (P184 F165 ) β e k := by kernel_rfl
theorem ok184 : FnOk D 184 (W184 F184) := fn_okW [(165, W165 F165)] noX (fun _ => rfl) Tryz.func184 rfl (tabL_cons ok165 tabL_nil) (k184 F165 )
abbrev T158 : Type 1 := (β : Type) → List V → List V → (Bool → Option β) → Option β
def P158 (F184 : T184) : T158 := fun β a b k =>
 br ((a.length : Int) != (b.length : Int)) (
 k false) (
 whileK (fun s1 =>
 br (decide ((lI s1 2) < ((lL s1 0).length : Int))) (
 chk (0 ≤ (lI s1 2)) <|
 idx true [.str, .int .i64, .int .i64, .str, .int .i64, .bool, .str] (lL s1 0) ((lI s1 2).toNat) fun (e2 : List UInt8 × Int × Int × List UInt8 × Int × Bool × List UInt8 × Unit) =>
 chk (0 ≤ (lI s1 2)) <|
 idx true [.str, .int .i64, .int .i64, .str, .int .i64, .bool, .str] (lL s1 1) ((lI s1 2).toNat) fun (e3 : List UInt8 × Int × Int × List UInt8 × Int × Bool × List UInt8 × Unit) =>
 F184 _ e2.1 e2.2.1 e2.2.2.1 e2.2.2.2.1 e2.2.2.2.2.1 e2.2.2.2.2.2.1 e2.2.2.2.2.2.2.1 e3.1 e3.2.1 e3.2.2.1 e3.2.2.2.1 e3.2.2.2.2.1 e3.2.2.2.2.2.1 e3.2.2.2.2.2.2.1 fun b4 =>
 br (!b4) (
 some (.inr (0, [.b false]))) (
 some (.inl [.l (lL s1 0), .l (lL s1 1), .i (IntKind.wrap .i64 ((lI s1 2) + 1))]))) (
 some (.inr (1, [])))) [.l a, .l b, .i 0] fun (r5 : Nat × List Leaf) =>
 if r5.1 = 0 then
 k (lB r5.2 0)
 else
 k true)
def F158 : T158 := P158 F184
def X158 : Exits := fun i => lookN i [] [(4, [(.ret, xk 27 [(4, .bool false)] []), (.exit 0, xk 27 [] [])])]
abbrev s158 : List (Bool × List CK) := [(false, [.sl 7 true]), (false, [.sl 7 true])]
def G158 (F : T158) (β : Type) (e : (List V × Unit) × (List V × Unit) × Unit) (k : V → Option β) : Option β := F β e.1.1 e.2.1.1 (fun y1 => k (.bool y1))
abbrev W158 (F : T158) : WT := wrap s158 (G158 F)
theorem k158 (F184 : T184) (β : Type) (e : argsT s158) (k : V → Option β) : fnK cfg (tabL [(184, W184 F184)]) X158 158 Tryz.f158 β (argsEnc s158 e) k = G158 (P158 F184 ) β e k := by kernel_rfl
theorem ok158 : FnOk D 158 (W158 F158) := fn_okW [(184, W184 F184)] X158 (fun _ => rfl) Tryz.func158 rfl (tabL_cons ok184 tabL_nil) (k158 F184 )
abbrev T114 : Type 1 := (β : Type) → List UInt8 → List V → List UInt8 → List V → (Bool → Option β) → Option β
def P114 (F158 : T158) : T114 := fun β a_Host a_Files b_Host b_Files k =>
 br (!(a_Host == b_Host)) (
 k false) (
 F158 _ a_Files b_Files fun b1 =>
 br (!b1) (
 k false) (
 k true))
def F114 : T114 := P114 F158
abbrev s114 : List (Bool × List CK) := [(true, [.str, .sl 7 true]), (true, [.str, .sl 7 true])]
def G114 (F : T114) (β : Type) (e : (List UInt8 × List V × Unit) × (List UInt8 × List V × Unit) × Unit) (k : V → Option β) : Option β := F β e.1.1 e.1.2.1 e.2.1.1 e.2.1.2.1 (fun y1 => k (.bool y1))
abbrev W114 (F : T114) : WT := wrap s114 (G114 F)
theorem k114 (F158 : T158) (β : Type) (e : argsT s114) (k : V → Option β) : fnK cfg (tabL [(158, W158 F158)]) noX 114 Tryz.f114 β (argsEnc s114 e) k = G114 (P114 F158 ) β e k := by kernel_rfl
theorem ok114 : FnOk D 114 (W114 F114) := fn_okW [(158, W158 F158)] noX (fun _ => rfl) Tryz.func114 rfl (tabL_cons ok158 tabL_nil) (k114 F158 )
abbrev T52 : Type 1 := (β : Type) → List V → List V → (Bool → Option β) → Option β
def P52 (F114 : T114) : T52 := fun β a b k =>
 br ((a.length : Int) != (b.length : Int)) (
 k false) (
 whileK (fun s1 =>
 br (decide ((lI s1 2) < ((lL s1 0).length : Int))) (
 chk (0 ≤ (lI s1 2)) <|
 idx true [.str, .sl 7 true] (lL s1 0) ((lI s1 2).toNat) fun (e2 : List UInt8 × List V × Unit) =>
 chk (0 ≤ (lI s1 2)) <|
 idx true [.str, .sl 7 true] (lL s1 1) ((lI s1 2).toNat) fun (e3 : List UInt8 × List V × Unit) =>
 F114 _ e2.1 e2.2.1 e3.1 e3.2.1 fun b4 =>
 br (!b4) (
 some (.inr (0, [.b false]))) (
 some (.inl [.l (lL s1 0), .l (lL s1 1), .i (IntKind.wrap .i64 ((lI s1 2) + 1))]))) (
 some (.inr (1, [])))) [.l a, .l b, .i 0] fun (r5 : Nat × List Leaf) =>
 if r5.1 = 0 then
 k (lB r5.2 0)
 else
 k true)
def F52 : T52 := P52 F114
def X52 : Exits := fun i => lookN i [] [(4, [(.ret, xk 27 [(4, .bool false)] []), (.exit 0, xk 27 [] [])])]
abbrev s52 : List (Bool × List CK) := [(false, [.sl 2 false]), (false, [.sl 2 false])]
def G52 (F : T52) (β : Type) (e : (List V × Unit) × (List V × Unit) × Unit) (k : V → Option β) : Option β := F β e.1.1 e.2.1.1 (fun y1 => k (.bool y1))
abbrev W52 (F : T52) : WT := wrap s52 (G52 F)
theorem k52 (F114 : T114) (β : Type) (e : argsT s52) (k : V → Option β) : fnK cfg (tabL [(114, W114 F114)]) X52 52 Tryz.f52 β (argsEnc s52 e) k = G52 (P52 F114 ) β e k := by kernel_rfl
theorem ok52 : FnOk D 52 (W52 F52) := fn_okW [(114, W114 F114)] X52 (fun _ => rfl) Tryz.func52 rfl (tabL_cons ok114 tabL_nil) (k52 F114 )
abbrev T118 : Type 1 := (β : Type) → List UInt8 → List UInt8 → List UInt8 → List UInt8 → (Bool → Option β) → Option β
def P118 : T118 := fun β a_Host a_Path b_Host b_Path k =>
 br (!(a_Host == b_Host)) (
 k false) (
 br (!(a_Path == b_Path)) (
 k false) (
 k true))
def F118 : T118 := P118
abbrev s118 : List (Bool × List CK) := [(true, [.str, .str]), (true, [.str, .str])]
def G118 (F : T118) (β : Type) (e : (List UInt8 × List UInt8 × Unit) × (List UInt8 × List UInt8 × Unit) × Unit) (k : V → Option β) : Option β := F β e.1.1 e.1.2.1 e.2.1.1 e.2.1.2.1 (fun y1 => k (.bool y1))
abbrev W118 (F : T118) : WT := wrap s118 (G118 F)
theorem k118 (β : Type) (e : argsT s118) (k : V → Option β) : fnK cfg (tabL []) noX 118 Tryz.f118 β (argsEnc s118 e) k = G118 (P118 ) β e k := by kernel_rfl
theorem ok118 : FnOk D 118 (W118 F118) := fn_okW [] noX (fun _ => rfl) Tryz.func118 rfl (tabL_nil) (k118 )
abbrev T159 : Type 1 := (β : Type) → List UInt8 → List UInt8 → List UInt8 → Int → Int → List UInt8 → Int → Bool → List UInt8 → Int → List UInt8 → List UInt8 → List UInt8 → Int → Int → List UInt8 → Int → Bool → List UInt8 → Int → (Bool → Option β) → Option β
def P159 (F118 : T118) (F165 : T165) : T159 := fun β a_Top a_To_Host a_To_Path a_Response_Status a_Response_Kind a_Response_Body a_Response_Age a_Response_Shares a_Response_Policy a_Until b_Top b_To_Host b_To_Path b_Response_Status b_Response_Kind b_Response_Body b_Response_Age b_Response_Shares b_Response_Policy b_Until k =>
 br (!(a_Top == b_Top)) (
 k false) (
 F118 _ a_To_Host a_To_Path b_To_Host b_To_Path fun b1 =>
 br (!b1) (
 k false) (
 F165 _ a_Response_Status a_Response_Kind a_Response_Body a_Response_Age a_Response_Shares a_Response_Policy b_Response_Status b_Response_Kind b_Response_Body b_Response_Age b_Response_Shares b_Response_Policy fun b2 =>
 br (!b2) (
 k false) (
 br (a_Until != b_Until) (
 k false) (
 k true))))
def F159 : T159 := P159 F118 F165
abbrev s159 : List (Bool × List CK) := [(true, [.str, .str, .str, .int .i64, .int .i64, .str, .int .i64, .bool, .str, .int .i64]), (true, [.str, .str, .str, .int .i64, .int .i64, .str, .int .i64, .bool, .str, .int .i64])]
def G159 (F : T159) (β : Type) (e : (List UInt8 × List UInt8 × List UInt8 × Int × Int × List UInt8 × Int × Bool × List UInt8 × Int × Unit) × (List UInt8 × List UInt8 × List UInt8 × Int × Int × List UInt8 × Int × Bool × List UInt8 × Int × Unit) × Unit) (k : V → Option β) : Option β := let a0_0 := e.1; let a0_1 := a0_0.2; let a0_2 := a0_1.2; let a0_3 := a0_2.2; let a0_4 := a0_3.2; let a0_5 := a0_4.2; let a0_6 := a0_5.2; let a0_7 := a0_6.2; let a0_8 := a0_7.2; let a0_9 := a0_8.2; let a1_0 := e.2.1; let a1_1 := a1_0.2; let a1_2 := a1_1.2; let a1_3 := a1_2.2; let a1_4 := a1_3.2; let a1_5 := a1_4.2; let a1_6 := a1_5.2; let a1_7 := a1_6.2; let a1_8 := a1_7.2; let a1_9 := a1_8.2; F β a0_0.1 a0_1.1 a0_2.1 a0_3.1 a0_4.1 a0_5.1 a0_6.1 a0_7.1 a0_8.1 a0_9.1 a1_0.1 a1_1.1 a1_2.1 a1_3.1 a1_4.1 a1_5.1 a1_6.1 a1_7.1 a1_8.1 a1_9.1 (fun y1 => k (.bool y1))
abbrev W159 (F : T159) : WT := wrap s159 (G159 F)
theorem k159 (F118 : T118) (F165 : T165) (β : Type) (e : argsT s159) (k : V → Option β) : fnK cfg (tabL [(118, W118 F118), (165, W165 F165)]) noX 159 Tryz.f159 β (argsEnc s159 e) k = G159 (P159 F118 F165 ) β e k := by kernel_rfl
theorem ok159 : FnOk D 159 (W159 F159) := fn_okW [(118, W118 F118), (165, W165 F165)] noX (fun _ => rfl) Tryz.func159 rfl (tabL_cons ok118 (tabL_cons ok165 tabL_nil)) (k159 F118 F165 )
abbrev T115 : Type 1 := (β : Type) → List V → List V → (Bool → Option β) → Option β
def P115 (F159 : T159) : T115 := fun β a b k =>
 br ((a.length : Int) != (b.length : Int)) (
 k false) (
 whileK (fun s1 =>
 br (decide ((lI s1 2) < ((lL s1 0).length : Int))) (
 chk (0 ≤ (lI s1 2)) <|
 idx true [.str, .str, .str, .int .i64, .int .i64, .str, .int .i64, .bool, .str, .int .i64] (lL s1 0) ((lI s1 2).toNat) fun (e2 : List UInt8 × List UInt8 × List UInt8 × Int × Int × List UInt8 × Int × Bool × List UInt8 × Int × Unit) =>
 chk (0 ≤ (lI s1 2)) <|
 idx true [.str, .str, .str, .int .i64, .int .i64, .str, .int .i64, .bool, .str, .int .i64] (lL s1 1) ((lI s1 2).toNat) fun (e3 : List UInt8 × List UInt8 × List UInt8 × Int × Int × List UInt8 × Int × Bool × List UInt8 × Int × Unit) =>
 F159 _ e2.1 e2.2.1 e2.2.2.1 e2.2.2.2.1 e2.2.2.2.2.1 e2.2.2.2.2.2.1 e2.2.2.2.2.2.2.1 e2.2.2.2.2.2.2.2.1 e2.2.2.2.2.2.2.2.2.1 e2.2.2.2.2.2.2.2.2.2.1 e3.1 e3.2.1 e3.2.2.1 e3.2.2.2.1 e3.2.2.2.2.1 e3.2.2.2.2.2.1 e3.2.2.2.2.2.2.1 e3.2.2.2.2.2.2.2.1 e3.2.2.2.2.2.2.2.2.1 e3.2.2.2.2.2.2.2.2.2.1 fun b4 =>
 br (!b4) (
 some (.inr (0, [.b false]))) (
 some (.inl [.l (lL s1 0), .l (lL s1 1), .i (IntKind.wrap .i64 ((lI s1 2) + 1))]))) (
 some (.inr (1, [])))) [.l a, .l b, .i 0] fun (r5 : Nat × List Leaf) =>
 if r5.1 = 0 then
 k (lB r5.2 0)
 else
 k true)
def F115 : T115 := P115 F159
def X115 : Exits := fun i => lookN i [] [(4, [(.ret, xk 27 [(4, .bool false)] []), (.exit 0, xk 27 [] [])])]
abbrev s115 : List (Bool × List CK) := [(false, [.sl 10 true]), (false, [.sl 10 true])]
def G115 (F : T115) (β : Type) (e : (List V × Unit) × (List V × Unit) × Unit) (k : V → Option β) : Option β := F β e.1.1 e.2.1.1 (fun y1 => k (.bool y1))
abbrev W115 (F : T115) : WT := wrap s115 (G115 F)
theorem k115 (F159 : T159) (β : Type) (e : argsT s115) (k : V → Option β) : fnK cfg (tabL [(159, W159 F159)]) X115 115 Tryz.f115 β (argsEnc s115 e) k = G115 (P115 F159 ) β e k := by kernel_rfl
theorem ok115 : FnOk D 115 (W115 F115) := fn_okW [(159, W159 F159)] X115 (fun _ => rfl) Tryz.func115 rfl (tabL_cons ok159 tabL_nil) (k115 F159 )
abbrev T53 : Type 1 := (β : Type) → List V → List V → (Bool → Option β) → Option β
def P53 (F115 : T115) : T53 := fun β a_Entries b_Entries k =>
 F115 _ a_Entries b_Entries fun b1 =>
 br (!b1) (
 k false) (
 k true)
def F53 : T53 := P53 F115
abbrev s53 : List (Bool × List CK) := [(true, [.sl 10 true]), (true, [.sl 10 true])]
def G53 (F : T53) (β : Type) (e : (List V × Unit) × (List V × Unit) × Unit) (k : V → Option β) : Option β := F β e.1.1 e.2.1.1 (fun y1 => k (.bool y1))
abbrev W53 (F : T53) : WT := wrap s53 (G53 F)
theorem k53 (F115 : T115) (β : Type) (e : argsT s53) (k : V → Option β) : fnK cfg (tabL [(115, W115 F115)]) noX 53 Tryz.f53 β (argsEnc s53 e) k = G53 (P53 F115 ) β e k := by kernel_rfl
theorem ok53 : FnOk D 53 (W53 F53) := fn_okW [(115, W115 F115)] noX (fun _ => rfl) Tryz.func53 rfl (tabL_cons ok115 tabL_nil) (k53 F115 )
abbrev T116 : Type 1 := (β : Type) → List UInt8 → List UInt8 → List UInt8 → Bool → List UInt8 → List UInt8 → List UInt8 → Bool → (Bool → Option β) → Option β
def P116 (F118 : T118) : T116 := fun β a_Top a_To_Host a_To_Path a_Guess b_Top b_To_Host b_To_Path b_Guess k =>
 br (!(a_Top == b_Top)) (
 k false) (
 F118 _ a_To_Host a_To_Path b_To_Host b_To_Path fun b1 =>
 br (!b1) (
 k false) (
 br (!(a_Guess == b_Guess)) (
 k false) (
 k true)))
def F116 : T116 := P116 F118
abbrev s116 : List (Bool × List CK) := [(true, [.str, .str, .str, .bool]), (true, [.str, .str, .str, .bool])]
def G116 (F : T116) (β : Type) (e : (List UInt8 × List UInt8 × List UInt8 × Bool × Unit) × (List UInt8 × List UInt8 × List UInt8 × Bool × Unit) × Unit) (k : V → Option β) : Option β := F β e.1.1 e.1.2.1 e.1.2.2.1 e.1.2.2.2.1 e.2.1.1 e.2.1.2.1 e.2.1.2.2.1 e.2.1.2.2.2.1 (fun y1 => k (.bool y1))
abbrev W116 (F : T116) : WT := wrap s116 (G116 F)
theorem k116 (F118 : T118) (β : Type) (e : argsT s116) (k : V → Option β) : fnK cfg (tabL [(118, W118 F118)]) noX 116 Tryz.f116 β (argsEnc s116 e) k = G116 (P116 F118 ) β e k := by kernel_rfl
theorem ok116 : FnOk D 116 (W116 F116) := fn_okW [(118, W118 F118)] noX (fun _ => rfl) Tryz.func116 rfl (tabL_cons ok118 tabL_nil) (k116 F118 )
abbrev T54 : Type 1 := (β : Type) → List V → List V → (Bool → Option β) → Option β
def P54 (F116 : T116) : T54 := fun β a b k =>
 br ((a.length : Int) != (b.length : Int)) (
 k false) (
 whileK (fun s1 =>
 br (decide ((lI s1 2) < ((lL s1 0).length : Int))) (
 chk (0 ≤ (lI s1 2)) <|
 idx true [.str, .str, .str, .bool] (lL s1 0) ((lI s1 2).toNat) fun (e2 : List UInt8 × List UInt8 × List UInt8 × Bool × Unit) =>
 chk (0 ≤ (lI s1 2)) <|
 idx true [.str, .str, .str, .bool] (lL s1 1) ((lI s1 2).toNat) fun (e3 : List UInt8 × List UInt8 × List UInt8 × Bool × Unit) =>
 F116 _ e2.1 e2.2.1 e2.2.2.1 e2.2.2.2.1 e3.1 e3.2.1 e3.2.2.1 e3.2.2.2.1 fun b4 =>
 br (!b4) (
 some (.inr (0, [.b false]))) (
 some (.inl [.l (lL s1 0), .l (lL s1 1), .i (IntKind.wrap .i64 ((lI s1 2) + 1))]))) (
 some (.inr (1, [])))) [.l a, .l b, .i 0] fun (r5 : Nat × List Leaf) =>
 if r5.1 = 0 then
 k (lB r5.2 0)
 else
 k true)
def F54 : T54 := P54 F116
def X54 : Exits := fun i => lookN i [] [(4, [(.ret, xk 27 [(4, .bool false)] []), (.exit 0, xk 27 [] [])])]
abbrev s54 : List (Bool × List CK) := [(false, [.sl 4 true]), (false, [.sl 4 true])]
def G54 (F : T54) (β : Type) (e : (List V × Unit) × (List V × Unit) × Unit) (k : V → Option β) : Option β := F β e.1.1 e.2.1.1 (fun y1 => k (.bool y1))
abbrev W54 (F : T54) : WT := wrap s54 (G54 F)
theorem k54 (F116 : T116) (β : Type) (e : argsT s54) (k : V → Option β) : fnK cfg (tabL [(116, W116 F116)]) X54 54 Tryz.f54 β (argsEnc s54 e) k = G54 (P54 F116 ) β e k := by kernel_rfl
theorem ok54 : FnOk D 54 (W54 F54) := fn_okW [(116, W116 F116)] X54 (fun _ => rfl) Tryz.func54 rfl (tabL_cons ok116 tabL_nil) (k54 F116 )
abbrev T22 : Type 1 := (β : Type) → List V → List V → List V → Int → List V → List V → List V → Int → (Bool → Option β) → Option β
def P22 (F52 : T52) (F53 : T53) (F54 : T54) : T22 := fun β a_Servers a_Cache_Entries a_Log a_Now b_Servers b_Cache_Entries b_Log b_Now k =>
 F52 _ a_Servers b_Servers fun b1 =>
 br (!b1) (
 k false) (
 F53 _ a_Cache_Entries b_Cache_Entries fun b2 =>
 br (!b2) (
 k false) (
 F54 _ a_Log b_Log fun b3 =>
 br (!b3) (
 k false) (
 br (a_Now != b_Now) (
 k false) (
 k true))))
def F22 : T22 := P22 F52 F53 F54
abbrev s22 : List (Bool × List CK) := [(true, [.sl 2 false, .sl 10 true, .sl 4 true, .int .i64]), (true, [.sl 2 false, .sl 10 true, .sl 4 true, .int .i64])]
def G22 (F : T22) (β : Type) (e : (List V × List V × List V × Int × Unit) × (List V × List V × List V × Int × Unit) × Unit) (k : V → Option β) : Option β := F β e.1.1 e.1.2.1 e.1.2.2.1 e.1.2.2.2.1 e.2.1.1 e.2.1.2.1 e.2.1.2.2.1 e.2.1.2.2.2.1 (fun y1 => k (.bool y1))
abbrev W22 (F : T22) : WT := wrap s22 (G22 F)
theorem k22 (F52 : T52) (F53 : T53) (F54 : T54) (β : Type) (e : argsT s22) (k : V → Option β) : fnK cfg (tabL [(52, W52 F52), (53, W53 F53), (54, W54 F54)]) noX 22 Tryz.f22 β (argsEnc s22 e) k = G22 (P22 F52 F53 F54 ) β e k := by kernel_rfl
theorem ok22 : FnOk D 22 (W22 F22) := fn_okW [(52, W52 F52), (53, W53 F53), (54, W54 F54)] noX (fun _ => rfl) Tryz.func22 rfl (tabL_cons ok52 (tabL_cons ok53 (tabL_cons ok54 tabL_nil))) (k22 F52 F53 F54 )
abbrev T126 : Type 1 := (β : Type) → List V → List V → (Bool → Option β) → Option β
def P126 : T126 := fun β a b k =>
 br ((a.length : Int) != (b.length : Int)) (
 k false) (
 whileK (fun s1 =>
 br (decide ((lI s1 2) < ((lL s1 0).length : Int))) (
 chk (0 ≤ (lI s1 2)) <|
 idx false [.str] (lL s1 0) ((lI s1 2).toNat) fun (e2 : List UInt8 × Unit) =>
 chk (0 ≤ (lI s1 2)) <|
 idx false [.str] (lL s1 1) ((lI s1 2).toNat) fun (e3 : List UInt8 × Unit) =>
 br (!(e2.1 == e3.1)) (
 some (.inr (0, [.b false]))) (
 some (.inl [.l (lL s1 0), .l (lL s1 1), .i (IntKind.wrap .i64 ((lI s1 2) + 1))]))) (
 some (.inr (1, [])))) [.l a, .l b, .i 0] fun (r4 : Nat × List Leaf) =>
 if r4.1 = 0 then
 k (lB r4.2 0)
 else
 k true)
def F126 : T126 := P126
def X126 : Exits := fun i => lookN i [] [(4, [(.ret, xk 26 [(4, .bool false)] []), (.exit 0, xk 26 [] [])])]
abbrev s126 : List (Bool × List CK) := [(false, [.sl 1 true]), (false, [.sl 1 true])]
def G126 (F : T126) (β : Type) (e : (List V × Unit) × (List V × Unit) × Unit) (k : V → Option β) : Option β := F β e.1.1 e.2.1.1 (fun y1 => k (.bool y1))
abbrev W126 (F : T126) : WT := wrap s126 (G126 F)
theorem k126 (β : Type) (e : argsT s126) (k : V → Option β) : fnK cfg (tabL []) X126 126 Tryz.f126 β (argsEnc s126 e) k = G126 (P126 ) β e k := by kernel_rfl
theorem ok126 : FnOk D 126 (W126 F126) := fn_okW [] X126 (fun _ => rfl) Tryz.func126 rfl (tabL_nil) (k126 )
abbrev T119 : Type 1 := (β : Type) → Bool → List V → List V → List V → List UInt8 → Bool → List V → List V → List V → List UInt8 → (Bool → Option β) → Option β
def P119 (F126 : T126) : T119 := fun β a_Set a_Scripts a_Styles a_Images a_Nonce b_Set b_Scripts b_Styles b_Images b_Nonce k =>
 br (!(a_Set == b_Set)) (
 k false) (
 F126 _ a_Scripts b_Scripts fun b1 =>
 br (!b1) (
 k false) (
 F126 _ a_Styles b_Styles fun b2 =>
 br (!b2) (
 k false) (
 F126 _ a_Images b_Images fun b3 =>
 br (!b3) (
 k false) (
 br (!(a_Nonce == b_Nonce)) (
 k false) (
 k true)))))
def F119 : T119 := P119 F126
abbrev s119 : List (Bool × List CK) := [(true, [.bool, .sl 1 true, .sl 1 true, .sl 1 true, .str]), (true, [.bool, .sl 1 true, .sl 1 true, .sl 1 true, .str])]
def G119 (F : T119) (β : Type) (e : (Bool × List V × List V × List V × List UInt8 × Unit) × (Bool × List V × List V × List V × List UInt8 × Unit) × Unit) (k : V → Option β) : Option β := let a0_0 := e.1; let a0_1 := a0_0.2; let a0_2 := a0_1.2; let a0_3 := a0_2.2; let a0_4 := a0_3.2; let a1_0 := e.2.1; let a1_1 := a1_0.2; let a1_2 := a1_1.2; let a1_3 := a1_2.2; let a1_4 := a1_3.2; F β a0_0.1 a0_1.1 a0_2.1 a0_3.1 a0_4.1 a1_0.1 a1_1.1 a1_2.1 a1_3.1 a1_4.1 (fun y1 => k (.bool y1))
abbrev W119 (F : T119) : WT := wrap s119 (G119 F)
theorem k119 (F126 : T126) (β : Type) (e : argsT s119) (k : V → Option β) : fnK cfg (tabL [(126, W126 F126)]) noX 119 Tryz.f119 β (argsEnc s119 e) k = G119 (P119 F126 ) β e k := by kernel_rfl
theorem ok119 : FnOk D 119 (W119 F119) := fn_okW [(126, W126 F126)] noX (fun _ => rfl) Tryz.func119 rfl (tabL_cons ok126 tabL_nil) (k119 F126 )
abbrev T120 : Type 1 := (β : Type) → List UInt8 → List UInt8 → (Bool → Option β) → Option β
def P120 : T120 := fun β a_Rest b_Rest k =>
 br (!(a_Rest == b_Rest)) (
 k false) (
 k true)
def F120 : T120 := P120
abbrev s120 : List (Bool × List CK) := [(true, [.str]), (true, [.str])]
def G120 (F : T120) (β : Type) (e : (List UInt8 × Unit) × (List UInt8 × Unit) × Unit) (k : V → Option β) : Option β := F β e.1.1 e.2.1.1 (fun y1 => k (.bool y1))
abbrev W120 (F : T120) : WT := wrap s120 (G120 F)
theorem k120 (β : Type) (e : argsT s120) (k : V → Option β) : fnK cfg (tabL []) noX 120 Tryz.f120 β (argsEnc s120 e) k = G120 (P120 ) β e k := by kernel_rfl
theorem ok120 : FnOk D 120 (W120 F120) := fn_okW [] noX (fun _ => rfl) Tryz.func120 rfl (tabL_nil) (k120 )
abbrev T198 : Type 1 := (β : Type) → List UInt8 → List UInt8 → List UInt8 → List UInt8 → (Bool → Option β) → Option β
def P198 : T198 := fun β a_Name a_Value b_Name b_Value k =>
 br (!(a_Name == b_Name)) (
 k false) (
 br (!(a_Value == b_Value)) (
 k false) (
 k true))
def F198 : T198 := P198
abbrev s198 : List (Bool × List CK) := [(true, [.str, .str]), (true, [.str, .str])]
def G198 (F : T198) (β : Type) (e : (List UInt8 × List UInt8 × Unit) × (List UInt8 × List UInt8 × Unit) × Unit) (k : V → Option β) : Option β := F β e.1.1 e.1.2.1 e.2.1.1 e.2.1.2.1 (fun y1 => k (.bool y1))
abbrev W198 (F : T198) : WT := wrap s198 (G198 F)
theorem k198 (β : Type) (e : argsT s198) (k : V → Option β) : fnK cfg (tabL []) noX 198 Tryz.f198 β (argsEnc s198 e) k = G198 (P198 ) β e k := by kernel_rfl
theorem ok198 : FnOk D 198 (W198 F198) := fn_okW [] noX (fun _ => rfl) Tryz.func198 rfl (tabL_nil) (k198 )
abbrev T185 : Type 1 := (β : Type) → List V → List V → (Bool → Option β) → Option β
def P185 (F198 : T198) : T185 := fun β a b k =>
 br ((a.length : Int) != (b.length : Int)) (
 k false) (
 whileK (fun s1 =>
 br (decide ((lI s1 2) < ((lL s1 0).length : Int))) (
 chk (0 ≤ (lI s1 2)) <|
 idx true [.str, .str] (lL s1 0) ((lI s1 2).toNat) fun (e2 : List UInt8 × List UInt8 × Unit) =>
 chk (0 ≤ (lI s1 2)) <|
 idx true [.str, .str] (lL s1 1) ((lI s1 2).toNat) fun (e3 : List UInt8 × List UInt8 × Unit) =>
 F198 _ e2.1 e2.2.1 e3.1 e3.2.1 fun b4 =>
 br (!b4) (
 some (.inr (0, [.b false]))) (
 some (.inl [.l (lL s1 0), .l (lL s1 1), .i (IntKind.wrap .i64 ((lI s1 2) + 1))]))) (
 some (.inr (1, [])))) [.l a, .l b, .i 0] fun (r5 : Nat × List Leaf) =>
 if r5.1 = 0 then
 k (lB r5.2 0)
 else
 k true)
def F185 : T185 := P185 F198
def X185 : Exits := fun i => lookN i [] [(4, [(.ret, xk 27 [(4, .bool false)] []), (.exit 0, xk 27 [] [])])]
abbrev s185 : List (Bool × List CK) := [(false, [.sl 2 true]), (false, [.sl 2 true])]
def G185 (F : T185) (β : Type) (e : (List V × Unit) × (List V × Unit) × Unit) (k : V → Option β) : Option β := F β e.1.1 e.2.1.1 (fun y1 => k (.bool y1))
abbrev W185 (F : T185) : WT := wrap s185 (G185 F)
theorem k185 (F198 : T198) (β : Type) (e : argsT s185) (k : V → Option β) : fnK cfg (tabL [(198, W198 F198)]) X185 185 Tryz.f185 β (argsEnc s185 e) k = G185 (P185 F198 ) β e k := by kernel_rfl
theorem ok185 : FnOk D 185 (W185 F185) := fn_okW [(198, W198 F198)] X185 (fun _ => rfl) Tryz.func185 rfl (tabL_cons ok198 tabL_nil) (k185 F198 )
end
end Go.Am

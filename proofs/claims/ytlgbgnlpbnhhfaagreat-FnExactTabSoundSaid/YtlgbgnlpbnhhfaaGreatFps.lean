/-
  Functions of the program, extracted by program (sym.py) out of their code: what each computes, and, by the kernel's reckoning, that the machine's looking form computes just that; so what the machine answers.
-/
import Derived.Test.YtlgbgnlpbnhhfaaGreatAmCfg
import Derived.Test.YtlgbgnlpbnhhfaaGreatAmEvOk2
import Derived.KernelRfl
set_option maxRecDepth 10000
set_option linter.unusedVariables false
namespace Go.Am
open Go Go.Proofs
noncomputable section
abbrev WT : Type 1 := (β : Type) → List V → (V → Option β) → Option β
/-- laws.szAddr -/
abbrev T50 : Type 1 := (β : Type) → List UInt8 → List UInt8 → Int → (Int → Option β) → Option β
def P50 : T50 := fun β a_Host a_Path left k =>
 br (decide (IntKind.wrap .i64 (left - (a_Host.length : Int)) < 0)) (
 k (-1)) (
 br (decide (IntKind.wrap .i64 ((IntKind.wrap .i64 (left - (a_Host.length : Int))) - (a_Path.length : Int)) < 0)) (
 k (-1)) (
 k (IntKind.wrap .i64 ((IntKind.wrap .i64 (left - (a_Host.length : Int))) - (a_Path.length : Int)))))
def F50 : T50 := P50 
abbrev s50 : List (Bool × List CK) := [(true, [.str, .str]), (false, [.int .i64])]
def G50 (F : T50) (β : Type) (e : (List UInt8 × List UInt8 × Unit) × (Int × Unit) × Unit) (k : V → Option β) : Option β := F β e.1.1 e.1.2.1 e.2.1.1 (fun y1 => k (.int .i64 y1))
abbrev W50 (F : T50) : WT := wrap s50 (G50 F)
theorem k50 (β : Type) (e : argsT s50) (k : V → Option β) : fnK cfg (tabL []) noX 50 Tryz.f50 β (argsEnc s50 e) k = G50 (P50 ) β e k := by kernel_rfl
theorem ok50 : FnOk D 50 (W50 F50) := fn_okW [] noX (fun _ => rfl) Tryz.func50 rfl (tabL_nil) (k50 )

/-- laws.szStringS -/
abbrev T58 : Type 1 := (β : Type) → List V → Int → (Int → Option β) → Option β
def P58 : T58 := fun β a left k =>
 br (decide (IntKind.wrap .i64 (left - (a.length : Int)) < 0)) (
 k (-1)) (
 whileK (fun s1 =>
 br (decide ((lI s1 2) < ((lL s1 0).length : Int))) (
 chk (0 ≤ (lI s1 2)) <|
 idx false [.str] (lL s1 0) ((lI s1 2).toNat) fun (e2 : List UInt8 × Unit) =>
 br (decide (IntKind.wrap .i64 ((lI s1 1) - (e2.1.length : Int)) < 0)) (
 some (.inr (0, [.i (IntKind.wrap .i64 ((lI s1 1) - (e2.1.length : Int))), .i (-1)]))) (
 some (.inl [.l (lL s1 0), .i (IntKind.wrap .i64 ((lI s1 1) - (e2.1.length : Int))), .i (IntKind.wrap .i64 ((lI s1 2) + 1))]))) (
 some (.inr (1, [.i (lI s1 1)])))) [.l a, .i (IntKind.wrap .i64 (left - (a.length : Int))), .i 0] fun (r3 : Nat × List Leaf) =>
 if r3.1 = 0 then
 k (lI r3.2 1)
 else
 k (lI r3.2 0))
def F58 : T58 := P58 
def X58 : Exits := fun i => lookN i [] [(5, [(.ret, xk 28 [(1, .int .i64 0), (4, .int .i64 0)] []), (.exit 0, xk 28 [(1, .int .i64 0)] [])])]
abbrev s58 : List (Bool × List CK) := [(false, [.sl 1 true]), (false, [.int .i64])]
def G58 (F : T58) (β : Type) (e : (List V × Unit) × (Int × Unit) × Unit) (k : V → Option β) : Option β := F β e.1.1 e.2.1.1 (fun y1 => k (.int .i64 y1))
abbrev W58 (F : T58) : WT := wrap s58 (G58 F)
theorem k58 (β : Type) (e : argsT s58) (k : V → Option β) : fnK cfg (tabL []) X58 58 Tryz.f58 β (argsEnc s58 e) k = G58 (P58 ) β e k := by kernel_rfl
theorem ok58 : FnOk D 58 (W58 F58) := fn_okW [] X58 (fun _ => rfl) Tryz.func58 rfl (tabL_nil) (k58 )

/-- laws.szPolicy -/
abbrev T51 : Type 1 := (β : Type) → Bool → List V → List V → List V → List UInt8 → Int → (Int → Option β) → Option β
def P51 (F58 : T58) : T51 := fun β a_Set a_Scripts a_Styles a_Images a_Nonce left k =>
 F58 _ a_Scripts left fun n1 =>
 br (decide (n1 < 0)) (
 k (-1)) (
 F58 _ a_Styles n1 fun n2 =>
 br (decide (n2 < 0)) (
 k (-1)) (
 F58 _ a_Images n2 fun n3 =>
 br (decide (n3 < 0)) (
 k (-1)) (
 br (decide (IntKind.wrap .i64 (n3 - (a_Nonce.length : Int)) < 0)) (
 k (-1)) (
 k (IntKind.wrap .i64 (n3 - (a_Nonce.length : Int)))))))
def F51 : T51 := P51 F58 
abbrev s51 : List (Bool × List CK) := [(true, [.bool, .sl 1 true, .sl 1 true, .sl 1 true, .str]), (false, [.int .i64])]
def G51 (F : T51) (β : Type) (e : (Bool × List V × List V × List V × List UInt8 × Unit) × (Int × Unit) × Unit) (k : V → Option β) : Option β := let a0_0 := e.1; let a0_1 := a0_0.2; let a0_2 := a0_1.2; let a0_3 := a0_2.2; let a0_4 := a0_3.2; F β a0_0.1 a0_1.1 a0_2.1 a0_3.1 a0_4.1 e.2.1.1 (fun y1 => k (.int .i64 y1))
abbrev W51 (F : T51) : WT := wrap s51 (G51 F)
theorem k51 (F58 : T58) (β : Type) (e : argsT s51) (k : V → Option β) : fnK cfg (tabL [(58, W58 F58)]) noX 51 Tryz.f51 β (argsEnc s51 e) k = G51 (P51 F58 ) β e k := by kernel_rfl
theorem ok51 : FnOk D 51 (W51 F51) := fn_okW [(58, W58 F58)] noX (fun _ => rfl) Tryz.func51 rfl (tabL_cons ok58 tabL_nil) (k51 F58 )

/-- laws.szTokenizer -/
abbrev T52 : Type 1 := (β : Type) → List UInt8 → Int → (Int → Option β) → Option β
def P52 : T52 := fun β a_Rest left k =>
 br (decide (IntKind.wrap .i64 (left - (a_Rest.length : Int)) < 0)) (
 k (-1)) (
 k (IntKind.wrap .i64 (left - (a_Rest.length : Int))))
def F52 : T52 := P52 
abbrev s52 : List (Bool × List CK) := [(true, [.str]), (false, [.int .i64])]
def G52 (F : T52) (β : Type) (e : (List UInt8 × Unit) × (Int × Unit) × Unit) (k : V → Option β) : Option β := F β e.1.1 e.2.1.1 (fun y1 => k (.int .i64 y1))
abbrev W52 (F : T52) : WT := wrap s52 (G52 F)
theorem k52 (β : Type) (e : argsT s52) (k : V → Option β) : fnK cfg (tabL []) noX 52 Tryz.f52 β (argsEnc s52 e) k = G52 (P52 ) β e k := by kernel_rfl
theorem ok52 : FnOk D 52 (W52 F52) := fn_okW [] noX (fun _ => rfl) Tryz.func52 rfl (tabL_nil) (k52 )

/-- laws.szAttr -/
abbrev T192 : Type 1 := (β : Type) → List UInt8 → List UInt8 → Int → (Int → Option β) → Option β
def P192 : T192 := fun β a_Name a_Value left k =>
 br (decide (IntKind.wrap .i64 (left - (a_Name.length : Int)) < 0)) (
 k (-1)) (
 br (decide (IntKind.wrap .i64 ((IntKind.wrap .i64 (left - (a_Name.length : Int))) - (a_Value.length : Int)) < 0)) (
 k (-1)) (
 k (IntKind.wrap .i64 ((IntKind.wrap .i64 (left - (a_Name.length : Int))) - (a_Value.length : Int)))))
def F192 : T192 := P192 
abbrev s192 : List (Bool × List CK) := [(true, [.str, .str]), (false, [.int .i64])]
def G192 (F : T192) (β : Type) (e : (List UInt8 × List UInt8 × Unit) × (Int × Unit) × Unit) (k : V → Option β) : Option β := F β e.1.1 e.1.2.1 e.2.1.1 (fun y1 => k (.int .i64 y1))
abbrev W192 (F : T192) : WT := wrap s192 (G192 F)
theorem k192 (β : Type) (e : argsT s192) (k : V → Option β) : fnK cfg (tabL []) noX 192 Tryz.f192 β (argsEnc s192 e) k = G192 (P192 ) β e k := by kernel_rfl
theorem ok192 : FnOk D 192 (W192 F192) := fn_okW [] noX (fun _ => rfl) Tryz.func192 rfl (tabL_nil) (k192 )

/-- laws.szAttrS -/
abbrev T177 : Type 1 := (β : Type) → List V → Int → (Int → Option β) → Option β
def P177 (F192 : T192) : T177 := fun β a left k =>
 br (decide (IntKind.wrap .i64 (left - (a.length : Int)) < 0)) (
 k (-1)) (
 whileK (fun s1 =>
 br (decide ((lI s1 2) < ((lL s1 0).length : Int))) (
 chk (0 ≤ (lI s1 2)) <|
 idx true [.str, .str] (lL s1 0) ((lI s1 2).toNat) fun (e2 : List UInt8 × List UInt8 × Unit) =>
 F192 _ e2.1 e2.2.1 (lI s1 1) fun n3 =>
 br (decide (n3 < 0)) (
 some (.inr (0, [.i n3, .i (-1)]))) (
 some (.inl [.l (lL s1 0), .i n3, .i (IntKind.wrap .i64 ((lI s1 2) + 1))]))) (
 some (.inr (1, [.i (lI s1 1)])))) [.l a, .i (IntKind.wrap .i64 (left - (a.length : Int))), .i 0] fun (r4 : Nat × List Leaf) =>
 if r4.1 = 0 then
 k (lI r4.2 1)
 else
 k (lI r4.2 0))
def F177 : T177 := P177 F192 
def X177 : Exits := fun i => lookN i [] [(5, [(.ret, xk 27 [(1, .int .i64 0), (4, .int .i64 0)] []), (.exit 0, xk 27 [(1, .int .i64 0)] [])])]
abbrev s177 : List (Bool × List CK) := [(false, [.sl 2 true]), (false, [.int .i64])]
def G177 (F : T177) (β : Type) (e : (List V × Unit) × (Int × Unit) × Unit) (k : V → Option β) : Option β := F β e.1.1 e.2.1.1 (fun y1 => k (.int .i64 y1))
abbrev W177 (F : T177) : WT := wrap s177 (G177 F)
theorem k177 (F192 : T192) (β : Type) (e : argsT s177) (k : V → Option β) : fnK cfg (tabL [(192, W192 F192)]) X177 177 Tryz.f177 β (argsEnc s177 e) k = G177 (P177 F192 ) β e k := by kernel_rfl
theorem ok177 : FnOk D 177 (W177 F177) := fn_okW [(192, W192 F192)] X177 (fun _ => rfl) Tryz.func177 rfl (tabL_cons ok192 tabL_nil) (k177 F192 )

/-- laws.szToken -/
abbrev T127 : Type 1 := (β : Type) → Int → List UInt8 → List V → List UInt8 → Int → (Int → Option β) → Option β
def P127 (F177 : T177) : T127 := fun β a_Kind a_Name a_Attrs a_Text left k =>
 br (decide (IntKind.wrap .i64 (left - (a_Name.length : Int)) < 0)) (
 k (-1)) (
 F177 _ a_Attrs (IntKind.wrap .i64 (left - (a_Name.length : Int))) fun n1 =>
 br (decide (n1 < 0)) (
 k (-1)) (
 br (decide (IntKind.wrap .i64 (n1 - (a_Text.length : Int)) < 0)) (
 k (-1)) (
 k (IntKind.wrap .i64 (n1 - (a_Text.length : Int))))))
def F127 : T127 := P127 F177 
abbrev s127 : List (Bool × List CK) := [(true, [.int .i64, .str, .sl 2 true, .str]), (false, [.int .i64])]
def G127 (F : T127) (β : Type) (e : (Int × List UInt8 × List V × List UInt8 × Unit) × (Int × Unit) × Unit) (k : V → Option β) : Option β := F β e.1.1 e.1.2.1 e.1.2.2.1 e.1.2.2.2.1 e.2.1.1 (fun y1 => k (.int .i64 y1))
abbrev W127 (F : T127) : WT := wrap s127 (G127 F)
theorem k127 (F177 : T177) (β : Type) (e : argsT s127) (k : V → Option β) : fnK cfg (tabL [(177, W177 F177)]) noX 127 Tryz.f127 β (argsEnc s127 e) k = G127 (P127 F177 ) β e k := by kernel_rfl
theorem ok127 : FnOk D 127 (W127 F127) := fn_okW [(177, W177 F177)] noX (fun _ => rfl) Tryz.func127 rfl (tabL_cons ok177 tabL_nil) (k127 F177 )

/-- laws.szTokenS -/
abbrev T53 : Type 1 := (β : Type) → List V → Int → (Int → Option β) → Option β
def P53 (F127 : T127) : T53 := fun β a left k =>
 br (decide (IntKind.wrap .i64 (left - (a.length : Int)) < 0)) (
 k (-1)) (
 whileK (fun s1 =>
 br (decide ((lI s1 2) < ((lL s1 0).length : Int))) (
 chk (0 ≤ (lI s1 2)) <|
 idx true [.int .i64, .str, .sl 2 true, .str] (lL s1 0) ((lI s1 2).toNat) fun (e2 : Int × List UInt8 × List V × List UInt8 × Unit) =>
 F127 _ e2.1 e2.2.1 e2.2.2.1 e2.2.2.2.1 (lI s1 1) fun n3 =>
 br (decide (n3 < 0)) (
 some (.inr (0, [.i n3, .i (-1)]))) (
 some (.inl [.l (lL s1 0), .i n3, .i (IntKind.wrap .i64 ((lI s1 2) + 1))]))) (
 some (.inr (1, [.i (lI s1 1)])))) [.l a, .i (IntKind.wrap .i64 (left - (a.length : Int))), .i 0] fun (r4 : Nat × List Leaf) =>
 if r4.1 = 0 then
 k (lI r4.2 1)
 else
 k (lI r4.2 0))
def F53 : T53 := P53 F127 
def X53 : Exits := fun i => lookN i [] [(5, [(.ret, xk 27 [(1, .int .i64 0), (4, .int .i64 0)] []), (.exit 0, xk 27 [(1, .int .i64 0)] [])])]
abbrev s53 : List (Bool × List CK) := [(false, [.sl 4 false]), (false, [.int .i64])]
def G53 (F : T53) (β : Type) (e : (List V × Unit) × (Int × Unit) × Unit) (k : V → Option β) : Option β := F β e.1.1 e.2.1.1 (fun y1 => k (.int .i64 y1))
abbrev W53 (F : T53) : WT := wrap s53 (G53 F)
theorem k53 (F127 : T127) (β : Type) (e : argsT s53) (k : V → Option β) : fnK cfg (tabL [(127, W127 F127)]) X53 53 Tryz.f53 β (argsEnc s53 e) k = G53 (P53 F127 ) β e k := by kernel_rfl
theorem ok53 : FnOk D 53 (W53 F53) := fn_okW [(127, W127 F127)] X53 (fun _ => rfl) Tryz.func53 rfl (tabL_cons ok127 tabL_nil) (k53 F127 )

/-- laws.szNode -/
abbrev T178 : Type 1 := (β : Type) → List UInt8 → List UInt8 → Int → List V → Int → (Int → Option β) → Option β
def P178 (F177 : T177) : T178 := fun β a_Name a_Text a_Parent a_Attrs left k =>
 br (decide (IntKind.wrap .i64 (left - (a_Name.length : Int)) < 0)) (
 k (-1)) (
 br (decide (IntKind.wrap .i64 ((IntKind.wrap .i64 (left - (a_Name.length : Int))) - (a_Text.length : Int)) < 0)) (
 k (-1)) (
 F177 _ a_Attrs (IntKind.wrap .i64 ((IntKind.wrap .i64 (left - (a_Name.length : Int))) - (a_Text.length : Int))) fun n1 =>
 br (decide (n1 < 0)) (
 k (-1)) (
 k n1)))
def F178 : T178 := P178 F177 
abbrev s178 : List (Bool × List CK) := [(true, [.str, .str, .int .i64, .sl 2 true]), (false, [.int .i64])]
def G178 (F : T178) (β : Type) (e : (List UInt8 × List UInt8 × Int × List V × Unit) × (Int × Unit) × Unit) (k : V → Option β) : Option β := F β e.1.1 e.1.2.1 e.1.2.2.1 e.1.2.2.2.1 e.2.1.1 (fun y1 => k (.int .i64 y1))
abbrev W178 (F : T178) : WT := wrap s178 (G178 F)
theorem k178 (F177 : T177) (β : Type) (e : argsT s178) (k : V → Option β) : fnK cfg (tabL [(177, W177 F177)]) noX 178 Tryz.f178 β (argsEnc s178 e) k = G178 (P178 F177 ) β e k := by kernel_rfl
theorem ok178 : FnOk D 178 (W178 F178) := fn_okW [(177, W177 F177)] noX (fun _ => rfl) Tryz.func178 rfl (tabL_cons ok177 tabL_nil) (k178 F177 )

/-- laws.szNodeS -/
abbrev T128 : Type 1 := (β : Type) → List V → Int → (Int → Option β) → Option β
def P128 (F178 : T178) : T128 := fun β a left k =>
 br (decide (IntKind.wrap .i64 (left - (a.length : Int)) < 0)) (
 k (-1)) (
 whileK (fun s1 =>
 br (decide ((lI s1 2) < ((lL s1 0).length : Int))) (
 chk (0 ≤ (lI s1 2)) <|
 idx true [.str, .str, .int .i64, .sl 2 true] (lL s1 0) ((lI s1 2).toNat) fun (e2 : List UInt8 × List UInt8 × Int × List V × Unit) =>
 F178 _ e2.1 e2.2.1 e2.2.2.1 e2.2.2.2.1 (lI s1 1) fun n3 =>
 br (decide (n3 < 0)) (
 some (.inr (0, [.i n3, .i (-1)]))) (
 some (.inl [.l (lL s1 0), .i n3, .i (IntKind.wrap .i64 ((lI s1 2) + 1))]))) (
 some (.inr (1, [.i (lI s1 1)])))) [.l a, .i (IntKind.wrap .i64 (left - (a.length : Int))), .i 0] fun (r4 : Nat × List Leaf) =>
 if r4.1 = 0 then
 k (lI r4.2 1)
 else
 k (lI r4.2 0))
def F128 : T128 := P128 F178 
def X128 : Exits := fun i => lookN i [] [(5, [(.ret, xk 27 [(1, .int .i64 0), (4, .int .i64 0)] []), (.exit 0, xk 27 [(1, .int .i64 0)] [])])]
abbrev s128 : List (Bool × List CK) := [(false, [.sl 4 false]), (false, [.int .i64])]
def G128 (F : T128) (β : Type) (e : (List V × Unit) × (Int × Unit) × Unit) (k : V → Option β) : Option β := F β e.1.1 e.2.1.1 (fun y1 => k (.int .i64 y1))
abbrev W128 (F : T128) : WT := wrap s128 (G128 F)
theorem k128 (F178 : T178) (β : Type) (e : argsT s128) (k : V → Option β) : fnK cfg (tabL [(178, W178 F178)]) X128 128 Tryz.f128 β (argsEnc s128 e) k = G128 (P128 F178 ) β e k := by kernel_rfl
theorem ok128 : FnOk D 128 (W128 F128) := fn_okW [(178, W178 F178)] X128 (fun _ => rfl) Tryz.func128 rfl (tabL_cons ok178 tabL_nil) (k128 F178 )

/-- laws.szIntS -/
abbrev T129 : Type 1 := (β : Type) → List V → Int → (Int → Option β) → Option β
def P129 : T129 := fun β a left k =>
 br (decide (IntKind.wrap .i64 (left - (a.length : Int)) < 0)) (
 k (-1)) (
 k (IntKind.wrap .i64 (left - (a.length : Int))))
def F129 : T129 := P129 
abbrev s129 : List (Bool × List CK) := [(false, [.sl 1 true]), (false, [.int .i64])]
def G129 (F : T129) (β : Type) (e : (List V × Unit) × (Int × Unit) × Unit) (k : V → Option β) : Option β := F β e.1.1 e.2.1.1 (fun y1 => k (.int .i64 y1))
abbrev W129 (F : T129) : WT := wrap s129 (G129 F)
theorem k129 (β : Type) (e : argsT s129) (k : V → Option β) : fnK cfg (tabL []) noX 129 Tryz.f129 β (argsEnc s129 e) k = G129 (P129 ) β e k := by kernel_rfl
theorem ok129 : FnOk D 129 (W129 F129) := fn_okW [] noX (fun _ => rfl) Tryz.func129 rfl (tabL_nil) (k129 )

/-- laws.szBuilder -/
abbrev T54 : Type 1 := (β : Type) → List V → List V → Int → (Int → Option β) → Option β
def P54 (F128 : T128) (F129 : T129) : T54 := fun β a_Nodes a_Open left k =>
 F128 _ a_Nodes left fun n1 =>
 br (decide (n1 < 0)) (
 k (-1)) (
 F129 _ a_Open n1 fun n2 =>
 br (decide (n2 < 0)) (
 k (-1)) (
 k n2))
def F54 : T54 := P54 F128 F129 
abbrev s54 : List (Bool × List CK) := [(true, [.sl 4 false, .sl 1 true]), (false, [.int .i64])]
def G54 (F : T54) (β : Type) (e : (List V × List V × Unit) × (Int × Unit) × Unit) (k : V → Option β) : Option β := F β e.1.1 e.1.2.1 e.2.1.1 (fun y1 => k (.int .i64 y1))
abbrev W54 (F : T54) : WT := wrap s54 (G54 F)
theorem k54 (F128 : T128) (F129 : T129) (β : Type) (e : argsT s54) (k : V → Option β) : fnK cfg (tabL [(128, W128 F128), (129, W129 F129)]) noX 54 Tryz.f54 β (argsEnc s54 e) k = G54 (P54 F128 F129 ) β e k := by kernel_rfl
theorem ok54 : FnOk D 54 (W54 F54) := fn_okW [(128, W128 F128), (129, W129 F129)] noX (fun _ => rfl) Tryz.func54 rfl (tabL_cons ok128 (tabL_cons ok129 tabL_nil)) (k54 F128 F129 )

/-- laws.szSlot -/
abbrev T130 : Type 1 := (β : Type) → Int → List UInt8 → List UInt8 → List UInt8 → Int → Bool → Int → List UInt8 → Int → (Int → Option β) → Option β
def P130 (F50 : T50) : T130 := fun β a_Mode a_To_Host a_To_Path a_Digest a_Node a_Done a_Code a_Body left k =>
 F50 _ a_To_Host a_To_Path left fun n1 =>
 br (decide (n1 < 0)) (
 k (-1)) (
 br (decide (IntKind.wrap .i64 (n1 - (a_Digest.length : Int)) < 0)) (
 k (-1)) (
 br (decide (IntKind.wrap .i64 ((IntKind.wrap .i64 (n1 - (a_Digest.length : Int))) - (a_Body.length : Int)) < 0)) (
 k (-1)) (
 k (IntKind.wrap .i64 ((IntKind.wrap .i64 (n1 - (a_Digest.length : Int))) - (a_Body.length : Int))))))
def F130 : T130 := P130 F50 
abbrev s130 : List (Bool × List CK) := [(true, [.int .i64, .str, .str, .str, .int .i64, .bool, .int .i64, .str]), (false, [.int .i64])]
def G130 (F : T130) (β : Type) (e : (Int × List UInt8 × List UInt8 × List UInt8 × Int × Bool × Int × List UInt8 × Unit) × (Int × Unit) × Unit) (k : V → Option β) : Option β := let a0_0 := e.1; let a0_1 := a0_0.2; let a0_2 := a0_1.2; let a0_3 := a0_2.2; let a0_4 := a0_3.2; let a0_5 := a0_4.2; let a0_6 := a0_5.2; let a0_7 := a0_6.2; F β a0_0.1 a0_1.1 a0_2.1 a0_3.1 a0_4.1 a0_5.1 a0_6.1 a0_7.1 e.2.1.1 (fun y1 => k (.int .i64 y1))
abbrev W130 (F : T130) : WT := wrap s130 (G130 F)
theorem k130 (F50 : T50) (β : Type) (e : argsT s130) (k : V → Option β) : fnK cfg (tabL [(50, W50 F50)]) noX 130 Tryz.f130 β (argsEnc s130 e) k = G130 (P130 F50 ) β e k := by kernel_rfl
theorem ok130 : FnOk D 130 (W130 F130) := fn_okW [(50, W50 F50)] noX (fun _ => rfl) Tryz.func130 rfl (tabL_cons ok50 tabL_nil) (k130 F50 )

/-- laws.szSlotS -/
abbrev T55 : Type 1 := (β : Type) → List V → Int → (Int → Option β) → Option β
def P55 (F130 : T130) : T55 := fun β a left k =>
 br (decide (IntKind.wrap .i64 (left - (a.length : Int)) < 0)) (
 k (-1)) (
 whileK (fun s1 =>
 br (decide ((lI s1 2) < ((lL s1 0).length : Int))) (
 chk (0 ≤ (lI s1 2)) <|
 idx true [.int .i64, .str, .str, .str, .int .i64, .bool, .int .i64, .str] (lL s1 0) ((lI s1 2).toNat) fun (e2 : Int × List UInt8 × List UInt8 × List UInt8 × Int × Bool × Int × List UInt8 × Unit) =>
 F130 _ e2.1 e2.2.1 e2.2.2.1 e2.2.2.2.1 e2.2.2.2.2.1 e2.2.2.2.2.2.1 e2.2.2.2.2.2.2.1 e2.2.2.2.2.2.2.2.1 (lI s1 1) fun n3 =>
 br (decide (n3 < 0)) (
 some (.inr (0, [.i n3, .i (-1)]))) (
 some (.inl [.l (lL s1 0), .i n3, .i (IntKind.wrap .i64 ((lI s1 2) + 1))]))) (
 some (.inr (1, [.i (lI s1 1)])))) [.l a, .i (IntKind.wrap .i64 (left - (a.length : Int))), .i 0] fun (r4 : Nat × List Leaf) =>
 if r4.1 = 0 then
 k (lI r4.2 1)
 else
 k (lI r4.2 0))
def F55 : T55 := P55 F130 
def X55 : Exits := fun i => lookN i [] [(5, [(.ret, xk 27 [(1, .int .i64 0), (4, .int .i64 0)] []), (.exit 0, xk 27 [(1, .int .i64 0)] [])])]
abbrev s55 : List (Bool × List CK) := [(false, [.sl 8 true]), (false, [.int .i64])]
def G55 (F : T55) (β : Type) (e : (List V × Unit) × (Int × Unit) × Unit) (k : V → Option β) : Option β := F β e.1.1 e.2.1.1 (fun y1 => k (.int .i64 y1))
abbrev W55 (F : T55) : WT := wrap s55 (G55 F)
theorem k55 (F130 : T130) (β : Type) (e : argsT s55) (k : V → Option β) : fnK cfg (tabL [(130, W130 F130)]) X55 55 Tryz.f55 β (argsEnc s55 e) k = G55 (P55 F130 ) β e k := by kernel_rfl
theorem ok55 : FnOk D 55 (W55 F55) := fn_okW [(130, W130 F130)] X55 (fun _ => rfl) Tryz.func55 rfl (tabL_cons ok130 tabL_nil) (k55 F130 )

/-- laws.szModule -/
abbrev T131 : Type 1 := (β : Type) → List UInt8 → List UInt8 → Bool → Int → List UInt8 → Int → (Int → Option β) → Option β
def P131 (F50 : T50) : T131 := fun β a_To_Host a_To_Path a_Done a_Code a_Body left k =>
 F50 _ a_To_Host a_To_Path left fun n1 =>
 br (decide (n1 < 0)) (
 k (-1)) (
 br (decide (IntKind.wrap .i64 (n1 - (a_Body.length : Int)) < 0)) (
 k (-1)) (
 k (IntKind.wrap .i64 (n1 - (a_Body.length : Int)))))
def F131 : T131 := P131 F50 
abbrev s131 : List (Bool × List CK) := [(true, [.str, .str, .bool, .int .i64, .str]), (false, [.int .i64])]
def G131 (F : T131) (β : Type) (e : (List UInt8 × List UInt8 × Bool × Int × List UInt8 × Unit) × (Int × Unit) × Unit) (k : V → Option β) : Option β := let a0_0 := e.1; let a0_1 := a0_0.2; let a0_2 := a0_1.2; let a0_3 := a0_2.2; let a0_4 := a0_3.2; F β a0_0.1 a0_1.1 a0_2.1 a0_3.1 a0_4.1 e.2.1.1 (fun y1 => k (.int .i64 y1))
abbrev W131 (F : T131) : WT := wrap s131 (G131 F)
theorem k131 (F50 : T50) (β : Type) (e : argsT s131) (k : V → Option β) : fnK cfg (tabL [(50, W50 F50)]) noX 131 Tryz.f131 β (argsEnc s131 e) k = G131 (P131 F50 ) β e k := by kernel_rfl
theorem ok131 : FnOk D 131 (W131 F131) := fn_okW [(50, W50 F50)] noX (fun _ => rfl) Tryz.func131 rfl (tabL_cons ok50 tabL_nil) (k131 F50 )

/-- laws.szModuleS -/
abbrev T56 : Type 1 := (β : Type) → List V → Int → (Int → Option β) → Option β
def P56 (F131 : T131) : T56 := fun β a left k =>
 br (decide (IntKind.wrap .i64 (left - (a.length : Int)) < 0)) (
 k (-1)) (
 whileK (fun s1 =>
 br (decide ((lI s1 2) < ((lL s1 0).length : Int))) (
 chk (0 ≤ (lI s1 2)) <|
 idx true [.str, .str, .bool, .int .i64, .str] (lL s1 0) ((lI s1 2).toNat) fun (e2 : List UInt8 × List UInt8 × Bool × Int × List UInt8 × Unit) =>
 F131 _ e2.1 e2.2.1 e2.2.2.1 e2.2.2.2.1 e2.2.2.2.2.1 (lI s1 1) fun n3 =>
 br (decide (n3 < 0)) (
 some (.inr (0, [.i n3, .i (-1)]))) (
 some (.inl [.l (lL s1 0), .i n3, .i (IntKind.wrap .i64 ((lI s1 2) + 1))]))) (
 some (.inr (1, [.i (lI s1 1)])))) [.l a, .i (IntKind.wrap .i64 (left - (a.length : Int))), .i 0] fun (r4 : Nat × List Leaf) =>
 if r4.1 = 0 then
 k (lI r4.2 1)
 else
 k (lI r4.2 0))
def F56 : T56 := P56 F131 
def X56 : Exits := fun i => lookN i [] [(5, [(.ret, xk 27 [(1, .int .i64 0), (4, .int .i64 0)] []), (.exit 0, xk 27 [(1, .int .i64 0)] [])])]
abbrev s56 : List (Bool × List CK) := [(false, [.sl 5 true]), (false, [.int .i64])]
def G56 (F : T56) (β : Type) (e : (List V × Unit) × (Int × Unit) × Unit) (k : V → Option β) : Option β := F β e.1.1 e.2.1.1 (fun y1 => k (.int .i64 y1))
abbrev W56 (F : T56) : WT := wrap s56 (G56 F)
theorem k56 (F131 : T131) (β : Type) (e : argsT s56) (k : V → Option β) : fnK cfg (tabL [(131, W131 F131)]) X56 56 Tryz.f56 β (argsEnc s56 e) k = G56 (P56 F131 ) β e k := by kernel_rfl
theorem ok56 : FnOk D 56 (W56 F56) := fn_okW [(131, W131 F131)] X56 (fun _ => rfl) Tryz.func56 rfl (tabL_cons ok131 tabL_nil) (k56 F131 )

/-- laws.szAddrS -/
abbrev T57 : Type 1 := (β : Type) → List V → Int → (Int → Option β) → Option β
def P57 (F50 : T50) : T57 := fun β a left k =>
 br (decide (IntKind.wrap .i64 (left - (a.length : Int)) < 0)) (
 k (-1)) (
 whileK (fun s1 =>
 br (decide ((lI s1 2) < ((lL s1 0).length : Int))) (
 chk (0 ≤ (lI s1 2)) <|
 idx true [.str, .str] (lL s1 0) ((lI s1 2).toNat) fun (e2 : List UInt8 × List UInt8 × Unit) =>
 F50 _ e2.1 e2.2.1 (lI s1 1) fun n3 =>
 br (decide (n3 < 0)) (
 some (.inr (0, [.i n3, .i (-1)]))) (
 some (.inl [.l (lL s1 0), .i n3, .i (IntKind.wrap .i64 ((lI s1 2) + 1))]))) (
 some (.inr (1, [.i (lI s1 1)])))) [.l a, .i (IntKind.wrap .i64 (left - (a.length : Int))), .i 0] fun (r4 : Nat × List Leaf) =>
 if r4.1 = 0 then
 k (lI r4.2 1)
 else
 k (lI r4.2 0))
def F57 : T57 := P57 F50 
def X57 : Exits := fun i => lookN i [] [(5, [(.ret, xk 27 [(1, .int .i64 0), (4, .int .i64 0)] []), (.exit 0, xk 27 [(1, .int .i64 0)] [])])]
abbrev s57 : List (Bool × List CK) := [(false, [.sl 2 true]), (false, [.int .i64])]
def G57 (F : T57) (β : Type) (e : (List V × Unit) × (Int × Unit) × Unit) (k : V → Option β) : Option β := F β e.1.1 e.2.1.1 (fun y1 => k (.int .i64 y1))
abbrev W57 (F : T57) : WT := wrap s57 (G57 F)
theorem k57 (F50 : T50) (β : Type) (e : argsT s57) (k : V → Option β) : fnK cfg (tabL [(50, W50 F50)]) X57 57 Tryz.f57 β (argsEnc s57 e) k = G57 (P57 F50 ) β e k := by kernel_rfl
theorem ok57 : FnOk D 57 (W57 F57) := fn_okW [(50, W50 F50)] X57 (fun _ => rfl) Tryz.func57 rfl (tabL_cons ok50 tabL_nil) (k57 F50 )

/-- laws.szPage -/
abbrev T18 : Type 1 := (β : Type) → List UInt8 → List UInt8 → Bool → List V → List V → List V → List UInt8 → List UInt8 → List V → Bool → List V → List V → List V → List V → List V → Int → Int → Int → Int → List V → List V → Bool → Int → (Int → Option β) → Option β
def P18 (F50 : T50) (F51 : T51) (F52 : T52) (F53 : T53) (F54 : T54) (F55 : T55) (F56 : T56) (F57 : T57) (F58 : T58) : T18 := fun β a_Addr_Host a_Addr_Path a_Policy_Set a_Policy_Scripts a_Policy_Styles a_Policy_Images a_Policy_Nonce a_Tok_Rest a_Queue a_Ended a_Builder_Nodes a_Builder_Open a_Slots a_Mods a_Entries a_Block a_Inline a_Deferred a_Entered a_Ran a_Log a_Loaded left k =>
 F50 _ a_Addr_Host a_Addr_Path left fun n1 =>
 br (decide (n1 < 0)) (
 k (-1)) (
 F51 _ a_Policy_Set a_Policy_Scripts a_Policy_Styles a_Policy_Images a_Policy_Nonce n1 fun n2 =>
 br (decide (n2 < 0)) (
 k (-1)) (
 F52 _ a_Tok_Rest n2 fun n3 =>
 br (decide (n3 < 0)) (
 k (-1)) (
 F53 _ a_Queue n3 fun n4 =>
 br (decide (n4 < 0)) (
 k (-1)) (
 F54 _ a_Builder_Nodes a_Builder_Open n4 fun n5 =>
 br (decide (n5 < 0)) (
 k (-1)) (
 F55 _ a_Slots n5 fun n6 =>
 br (decide (n6 < 0)) (
 k (-1)) (
 F56 _ a_Mods n6 fun n7 =>
 br (decide (n7 < 0)) (
 k (-1)) (
 F57 _ a_Entries n7 fun n8 =>
 br (decide (n8 < 0)) (
 k (-1)) (
 F57 _ a_Ran n8 fun n9 =>
 br (decide (n9 < 0)) (
 k (-1)) (
 F58 _ a_Log n9 fun n10 =>
 br (decide (n10 < 0)) (
 k (-1)) (
 k n10))))))))))
def F18 : T18 := P18 F50 F51 F52 F53 F54 F55 F56 F57 F58 
abbrev s18 : List (Bool × List CK) := [(true, [.str, .str, .bool, .sl 1 true, .sl 1 true, .sl 1 true, .str, .str, .sl 4 false, .bool, .sl 4 false, .sl 1 true, .sl 8 true, .sl 5 true, .sl 2 true, .int .i64, .int .i64, .int .i64, .int .i64, .sl 2 true, .sl 1 true, .bool]), (false, [.int .i64])]
def G18 (F : T18) (β : Type) (e : (List UInt8 × List UInt8 × Bool × List V × List V × List V × List UInt8 × List UInt8 × List V × Bool × List V × List V × List V × List V × List V × Int × Int × Int × Int × List V × List V × Bool × Unit) × (Int × Unit) × Unit) (k : V → Option β) : Option β := let a0_0 := e.1; let a0_1 := a0_0.2; let a0_2 := a0_1.2; let a0_3 := a0_2.2; let a0_4 := a0_3.2; let a0_5 := a0_4.2; let a0_6 := a0_5.2; let a0_7 := a0_6.2; let a0_8 := a0_7.2; let a0_9 := a0_8.2; let a0_10 := a0_9.2; let a0_11 := a0_10.2; let a0_12 := a0_11.2; let a0_13 := a0_12.2; let a0_14 := a0_13.2; let a0_15 := a0_14.2; let a0_16 := a0_15.2; let a0_17 := a0_16.2; let a0_18 := a0_17.2; let a0_19 := a0_18.2; let a0_20 := a0_19.2; let a0_21 := a0_20.2; F β a0_0.1 a0_1.1 a0_2.1 a0_3.1 a0_4.1 a0_5.1 a0_6.1 a0_7.1 a0_8.1 a0_9.1 a0_10.1 a0_11.1 a0_12.1 a0_13.1 a0_14.1 a0_15.1 a0_16.1 a0_17.1 a0_18.1 a0_19.1 a0_20.1 a0_21.1 e.2.1.1 (fun y1 => k (.int .i64 y1))
abbrev W18 (F : T18) : WT := wrap s18 (G18 F)
theorem k18 (F50 : T50) (F51 : T51) (F52 : T52) (F53 : T53) (F54 : T54) (F55 : T55) (F56 : T56) (F57 : T57) (F58 : T58) (β : Type) (e : argsT s18) (k : V → Option β) : fnK cfg (tabL [(50, W50 F50), (51, W51 F51), (52, W52 F52), (53, W53 F53), (54, W54 F54), (55, W55 F55), (56, W56 F56), (57, W57 F57), (58, W58 F58)]) noX 18 Tryz.f18 β (argsEnc s18 e) k = G18 (P18 F50 F51 F52 F53 F54 F55 F56 F57 F58 ) β e k := by kernel_rfl
theorem ok18 : FnOk D 18 (W18 F18) := fn_okW [(50, W50 F50), (51, W51 F51), (52, W52 F52), (53, W53 F53), (54, W54 F54), (55, W55 F55), (56, W56 F56), (57, W57 F57), (58, W58 F58)] noX (fun _ => rfl) Tryz.func18 rfl (tabL_cons ok50 (tabL_cons ok51 (tabL_cons ok52 (tabL_cons ok53 (tabL_cons ok54 (tabL_cons ok55 (tabL_cons ok56 (tabL_cons ok57 (tabL_cons ok58 tabL_nil))))))))) (k18 F50 F51 F52 F53 F54 F55 F56 F57 F58 )

/-- laws.toAddr -/
abbrev T65 : Type 1 := (β : Type) → List UInt8 → List UInt8 → (List UInt8 → List UInt8 → Option β) → Option β
def P65 : T65 := fun β a_Host a_Path k =>
 k a_Host a_Path
def F65 : T65 := P65 
abbrev s65 : List (Bool × List CK) := [(true, [.str, .str])]
def G65 (F : T65) (β : Type) (e : (List UInt8 × List UInt8 × Unit) × Unit) (k : V → Option β) : Option β := F β e.1.1 e.1.2.1 (fun y1 y2 => k (.agg [.str y1, .str y2]))
abbrev W65 (F : T65) : WT := wrap s65 (G65 F)
theorem k65 (β : Type) (e : argsT s65) (k : V → Option β) : fnK cfg (tabL []) noX 65 Tryz.f65 β (argsEnc s65 e) k = G65 (P65 ) β e k := by kernel_rfl
theorem ok65 : FnOk D 65 (W65 F65) := fn_okW [] noX (fun _ => rfl) Tryz.func65 rfl (tabL_nil) (k65 )

/-- laws.toStringS -/
abbrev T73 : Type 1 := (β : Type) → List V → (List V → Option β) → Option β
def P73 : T73 := fun β a k =>
 chk (0 ≤ (a.length : Int) ∧ (a.length : Int) ≤ (a.length : Int) ∧ (a.length : Int) * 16 ≤ 140737488355328 ∧ (a.length : Int) ≤ 140737488355328) <|
 whileK (fun s1 =>
 br (decide ((lI s1 2) < ((lL s1 0).length : Int))) (
 chk (0 ≤ (lI s1 2)) <|
 idx false [.str] (lL s1 0) ((lI s1 2).toNat) fun (e2 : List UInt8 × Unit) =>
 chk (0 ≤ (lI s1 2) ∧ (lI s1 2).toNat < (lL s1 1).length) <|
 storeO (lL s1 1) ((lI s1 2).toNat) 0 [.str e2.1] fun l3 =>
 some (.inl [.l (lL s1 0), .l l3, .i (IntKind.wrap .i64 ((lI s1 2) + 1))])) (
 some (.inr (0, [.l (lL s1 1)])))) [.l a, .l (List.replicate ((a.length : Int).toNat) (.str [])), .i 0] fun (r4 : Nat × List Leaf) =>
 k (lL r4.2 0)
def F73 : T73 := P73 
def X73 : Exits := fun i => lookN i [] [(3, [(.exit 0, xk 22 [(3, .own 1000000 1 .flat [])] [])])]
abbrev s73 : List (Bool × List CK) := [(false, [.sl 1 true])]
def G73 (F : T73) (β : Type) (e : (List V × Unit) × Unit) (k : V → Option β) : Option β := F β e.1.1 (fun y1 => k (.own 0 1 .flat y1))
abbrev W73 (F : T73) : WT := wrap s73 (G73 F)
theorem k73 (β : Type) (e : argsT s73) (k : V → Option β) : fnK cfg (tabL []) X73 73 Tryz.f73 β (argsEnc s73 e) k = G73 (P73 ) β e k := by kernel_rfl
theorem ok73 : FnOk D 73 (W73 F73) := fn_okW [] X73 (fun _ => rfl) Tryz.func73 rfl (tabL_nil) (k73 )

/-- laws.toPolicy -/
abbrev T66 : Type 1 := (β : Type) → Bool → List V → List V → List V → List UInt8 → (Bool → List V → List V → List V → List UInt8 → Option β) → Option β
def P66 (F73 : T73) : T66 := fun β a_Set a_Scripts a_Styles a_Images a_Nonce k =>
 F73 _ a_Scripts fun l1 =>
 F73 _ a_Styles fun l2 =>
 F73 _ a_Images fun l3 =>
 k a_Set l1 l2 l3 a_Nonce
def F66 : T66 := P66 F73 
abbrev s66 : List (Bool × List CK) := [(true, [.bool, .sl 1 true, .sl 1 true, .sl 1 true, .str])]
def G66 (F : T66) (β : Type) (e : (Bool × List V × List V × List V × List UInt8 × Unit) × Unit) (k : V → Option β) : Option β := let a0_0 := e.1; let a0_1 := a0_0.2; let a0_2 := a0_1.2; let a0_3 := a0_2.2; let a0_4 := a0_3.2; F β a0_0.1 a0_1.1 a0_2.1 a0_3.1 a0_4.1 (fun y1 y2 y3 y4 y5 => k (.agg [.bool y1, .own 1 1 .flat y2, .own 2 1 .flat y3, .own 3 1 .flat y4, .str y5]))
abbrev W66 (F : T66) : WT := wrap s66 (G66 F)
theorem k66 (F73 : T73) (β : Type) (e : argsT s66) (k : V → Option β) : fnK cfg (tabL [(73, W73 F73)]) noX 66 Tryz.f66 β (argsEnc s66 e) k = G66 (P66 F73 ) β e k := by kernel_rfl
theorem ok66 : FnOk D 66 (W66 F66) := fn_okW [(73, W73 F73)] noX (fun _ => rfl) Tryz.func66 rfl (tabL_cons ok73 tabL_nil) (k66 F73 )

/-- laws.toTokenizer -/
abbrev T67 : Type 1 := (β : Type) → List UInt8 → (List UInt8 → Option β) → Option β
def P67 : T67 := fun β a_Rest k =>
 k a_Rest
def F67 : T67 := P67 
abbrev s67 : List (Bool × List CK) := [(true, [.str])]
def G67 (F : T67) (β : Type) (e : (List UInt8 × Unit) × Unit) (k : V → Option β) : Option β := F β e.1.1 (fun y1 => k (.agg [.str y1]))
abbrev W67 (F : T67) : WT := wrap s67 (G67 F)
theorem k67 (β : Type) (e : argsT s67) (k : V → Option β) : fnK cfg (tabL []) noX 67 Tryz.f67 β (argsEnc s67 e) k = G67 (P67 ) β e k := by kernel_rfl
theorem ok67 : FnOk D 67 (W67 F67) := fn_okW [] noX (fun _ => rfl) Tryz.func67 rfl (tabL_nil) (k67 )

/-- laws.toAttr -/
abbrev T193 : Type 1 := (β : Type) → List UInt8 → List UInt8 → (List UInt8 → List UInt8 → Option β) → Option β
def P193 : T193 := fun β a_Name a_Value k =>
 k a_Name a_Value
def F193 : T193 := P193 
abbrev s193 : List (Bool × List CK) := [(true, [.str, .str])]
def G193 (F : T193) (β : Type) (e : (List UInt8 × List UInt8 × Unit) × Unit) (k : V → Option β) : Option β := F β e.1.1 e.1.2.1 (fun y1 y2 => k (.agg [.str y1, .str y2]))
abbrev W193 (F : T193) : WT := wrap s193 (G193 F)
theorem k193 (β : Type) (e : argsT s193) (k : V → Option β) : fnK cfg (tabL []) noX 193 Tryz.f193 β (argsEnc s193 e) k = G193 (P193 ) β e k := by kernel_rfl
theorem ok193 : FnOk D 193 (W193 F193) := fn_okW [] noX (fun _ => rfl) Tryz.func193 rfl (tabL_nil) (k193 )

/-- laws.toAttrS -/
abbrev T180 : Type 1 := (β : Type) → List V → (List V → Option β) → Option β
def P180 (F193 : T193) : T180 := fun β a k =>
 chk (0 ≤ (a.length : Int) ∧ (a.length : Int) ≤ (a.length : Int) ∧ (a.length : Int) * 32 ≤ 140737488355328 ∧ (a.length : Int) ≤ 140737488355328) <|
 whileK (fun s1 =>
 br (decide ((lI s1 2) < ((lL s1 0).length : Int))) (
 chk (0 ≤ (lI s1 2)) <|
 idx true [.str, .str] (lL s1 0) ((lI s1 2).toNat) fun (e2 : List UInt8 × List UInt8 × Unit) =>
 F193 _ e2.1 e2.2.1 fun t3 t4 =>
 chk (0 ≤ (lI s1 2) ∧ (lI s1 2).toNat < (lL s1 1).length) <|
 storeO (lL s1 1) ((lI s1 2).toNat) 0 [.str t3, .str t4] fun l5 =>
 some (.inl [.l (lL s1 0), .l l5, .i (IntKind.wrap .i64 ((lI s1 2) + 1))])) (
 some (.inr (0, [.l (lL s1 1)])))) [.l a, .l (List.replicate ((a.length : Int).toNat) (.agg [.str [], .str []])), .i 0] fun (r6 : Nat × List Leaf) =>
 k (lL r6.2 0)
def F180 : T180 := P180 F193 
def X180 : Exits := fun i => lookN i [] [(3, [(.exit 0, xk 23 [(3, .own 1000000 2 .flat [])] [])])]
abbrev s180 : List (Bool × List CK) := [(false, [.sl 2 true])]
def G180 (F : T180) (β : Type) (e : (List V × Unit) × Unit) (k : V → Option β) : Option β := F β e.1.1 (fun y1 => k (.own 0 2 .flat y1))
abbrev W180 (F : T180) : WT := wrap s180 (G180 F)
theorem k180 (F193 : T193) (β : Type) (e : argsT s180) (k : V → Option β) : fnK cfg (tabL [(193, W193 F193)]) X180 180 Tryz.f180 β (argsEnc s180 e) k = G180 (P180 F193 ) β e k := by kernel_rfl
theorem ok180 : FnOk D 180 (W180 F180) := fn_okW [(193, W193 F193)] X180 (fun _ => rfl) Tryz.func180 rfl (tabL_cons ok193 tabL_nil) (k180 F193 )

/-- laws.toToken -/
abbrev T136 : Type 1 := (β : Type) → Int → List UInt8 → List V → List UInt8 → (Int → List UInt8 → List V → List UInt8 → Option β) → Option β
def P136 (F180 : T180) : T136 := fun β a_Kind a_Name a_Attrs a_Text k =>
 F180 _ a_Attrs fun l1 =>
 k a_Kind a_Name l1 a_Text
def F136 : T136 := P136 F180 
abbrev s136 : List (Bool × List CK) := [(true, [.int .i64, .str, .sl 2 true, .str])]
def G136 (F : T136) (β : Type) (e : (Int × List UInt8 × List V × List UInt8 × Unit) × Unit) (k : V → Option β) : Option β := F β e.1.1 e.1.2.1 e.1.2.2.1 e.1.2.2.2.1 (fun y1 y2 y3 y4 => k (.agg [.int .i64 y1, .str y2, .own 2 2 .flat y3, .str y4]))
abbrev W136 (F : T136) : WT := wrap s136 (G136 F)
theorem k136 (F180 : T180) (β : Type) (e : argsT s136) (k : V → Option β) : fnK cfg (tabL [(180, W180 F180)]) noX 136 Tryz.f136 β (argsEnc s136 e) k = G136 (P136 F180 ) β e k := by kernel_rfl
theorem ok136 : FnOk D 136 (W136 F136) := fn_okW [(180, W180 F180)] noX (fun _ => rfl) Tryz.func136 rfl (tabL_cons ok180 tabL_nil) (k136 F180 )

/-- laws.toTokenS -/
abbrev T68 : Type 1 := (β : Type) → List V → (List V → Option β) → Option β
def P68 (F136 : T136) : T68 := fun β a k =>
 chk (0 ≤ (a.length : Int) ∧ (a.length : Int) ≤ (a.length : Int) ∧ (a.length : Int) * 64 ≤ 140737488355328 ∧ (a.length : Int) ≤ 140737488355328) <|
 whileK (fun s1 =>
 br (decide ((lI s1 2) < ((lL s1 0).length : Int))) (
 chk (0 ≤ (lI s1 2)) <|
 idx true [.int .i64, .str, .sl 2 true, .str] (lL s1 0) ((lI s1 2).toNat) fun (e2 : Int × List UInt8 × List V × List UInt8 × Unit) =>
 F136 _ e2.1 e2.2.1 e2.2.2.1 e2.2.2.2.1 fun n3 t4 l5 t6 =>
 chk (0 ≤ (lI s1 2) ∧ (lI s1 2).toNat < (lL s1 1).length) <|
 storeO (lL s1 1) ((lI s1 2).toNat) 0 [.int .i64 n3, .str t4, .sl 2 true l5, .str t6] fun l7 =>
 some (.inl [.l (lL s1 0), .l l7, .i (IntKind.wrap .i64 ((lI s1 2) + 1))])) (
 some (.inr (0, [.l (lL s1 1)])))) [.l a, .l (List.replicate ((a.length : Int).toNat) (.agg [.int .i64 0, .str [], .sl 2 true [], .str []])), .i 0] fun (r8 : Nat × List Leaf) =>
 k (lL r8.2 0)
def F68 : T68 := P68 F136 
def X68 : Exits := fun i => lookN i [] [(3, [(.exit 0, xk 23 [(3, .own 1000000 4 .clean [])] [])])]
abbrev s68 : List (Bool × List CK) := [(false, [.sl 4 false])]
def G68 (F : T68) (β : Type) (e : (List V × Unit) × Unit) (k : V → Option β) : Option β := F β e.1.1 (fun y1 => k (.own 0 4 .clean y1))
abbrev W68 (F : T68) : WT := wrap s68 (G68 F)
theorem k68 (F136 : T136) (β : Type) (e : argsT s68) (k : V → Option β) : fnK cfg (tabL [(136, W136 F136)]) X68 68 Tryz.f68 β (argsEnc s68 e) k = G68 (P68 F136 ) β e k := by kernel_rfl
theorem ok68 : FnOk D 68 (W68 F68) := fn_okW [(136, W136 F136)] X68 (fun _ => rfl) Tryz.func68 rfl (tabL_cons ok136 tabL_nil) (k68 F136 )

/-- laws.toNode -/
abbrev T181 : Type 1 := (β : Type) → List UInt8 → List UInt8 → Int → List V → (List UInt8 → List UInt8 → Int → List V → Option β) → Option β
def P181 (F180 : T180) : T181 := fun β a_Name a_Text a_Parent a_Attrs k =>
 F180 _ a_Attrs fun l1 =>
 k a_Name a_Text a_Parent l1
def F181 : T181 := P181 F180 
abbrev s181 : List (Bool × List CK) := [(true, [.str, .str, .int .i64, .sl 2 true])]
def G181 (F : T181) (β : Type) (e : (List UInt8 × List UInt8 × Int × List V × Unit) × Unit) (k : V → Option β) : Option β := F β e.1.1 e.1.2.1 e.1.2.2.1 e.1.2.2.2.1 (fun y1 y2 y3 y4 => k (.agg [.str y1, .str y2, .int .i64 y3, .own 3 2 .flat y4]))
abbrev W181 (F : T181) : WT := wrap s181 (G181 F)
theorem k181 (F180 : T180) (β : Type) (e : argsT s181) (k : V → Option β) : fnK cfg (tabL [(180, W180 F180)]) noX 181 Tryz.f181 β (argsEnc s181 e) k = G181 (P181 F180 ) β e k := by kernel_rfl
theorem ok181 : FnOk D 181 (W181 F181) := fn_okW [(180, W180 F180)] noX (fun _ => rfl) Tryz.func181 rfl (tabL_cons ok180 tabL_nil) (k181 F180 )

/-- laws.toNodeS -/
abbrev T137 : Type 1 := (β : Type) → List V → (List V → Option β) → Option β
def P137 (F181 : T181) : T137 := fun β a k =>
 chk (0 ≤ (a.length : Int) ∧ (a.length : Int) ≤ (a.length : Int) ∧ (a.length : Int) * 64 ≤ 140737488355328 ∧ (a.length : Int) ≤ 140737488355328) <|
 whileK (fun s1 =>
 br (decide ((lI s1 2) < ((lL s1 0).length : Int))) (
 chk (0 ≤ (lI s1 2)) <|
 idx true [.str, .str, .int .i64, .sl 2 true] (lL s1 0) ((lI s1 2).toNat) fun (e2 : List UInt8 × List UInt8 × Int × List V × Unit) =>
 F181 _ e2.1 e2.2.1 e2.2.2.1 e2.2.2.2.1 fun t3 t4 n5 l6 =>
 chk (0 ≤ (lI s1 2) ∧ (lI s1 2).toNat < (lL s1 1).length) <|
 storeO (lL s1 1) ((lI s1 2).toNat) 0 [.str t3, .str t4, .int .i64 n5, .sl 2 true l6] fun l7 =>
 some (.inl [.l (lL s1 0), .l l7, .i (IntKind.wrap .i64 ((lI s1 2) + 1))])) (
 some (.inr (0, [.l (lL s1 1)])))) [.l a, .l (List.replicate ((a.length : Int).toNat) (.agg [.str [], .str [], .int .i64 0, .sl 2 true []])), .i 0] fun (r8 : Nat × List Leaf) =>
 k (lL r8.2 0)
def F137 : T137 := P137 F181 
def X137 : Exits := fun i => lookN i [] [(3, [(.exit 0, xk 23 [(3, .own 1000000 4 .clean [])] [])])]
abbrev s137 : List (Bool × List CK) := [(false, [.sl 4 false])]
def G137 (F : T137) (β : Type) (e : (List V × Unit) × Unit) (k : V → Option β) : Option β := F β e.1.1 (fun y1 => k (.own 0 4 .clean y1))
abbrev W137 (F : T137) : WT := wrap s137 (G137 F)
theorem k137 (F181 : T181) (β : Type) (e : argsT s137) (k : V → Option β) : fnK cfg (tabL [(181, W181 F181)]) X137 137 Tryz.f137 β (argsEnc s137 e) k = G137 (P137 F181 ) β e k := by kernel_rfl
theorem ok137 : FnOk D 137 (W137 F137) := fn_okW [(181, W181 F181)] X137 (fun _ => rfl) Tryz.func137 rfl (tabL_cons ok181 tabL_nil) (k137 F181 )

/-- laws.toIntS -/
abbrev T138 : Type 1 := (β : Type) → List V → (List V → Option β) → Option β
def P138 : T138 := fun β a k =>
 chk (0 ≤ (a.length : Int) ∧ (a.length : Int) ≤ (a.length : Int) ∧ (a.length : Int) * 8 ≤ 140737488355328 ∧ (a.length : Int) ≤ 140737488355328) <|
 whileK (fun s1 =>
 br (decide ((lI s1 2) < ((lL s1 0).length : Int))) (
 chk (0 ≤ (lI s1 2)) <|
 idx false [.int .i64] (lL s1 0) ((lI s1 2).toNat) fun (e2 : Int × Unit) =>
 chk (0 ≤ (lI s1 2) ∧ (lI s1 2).toNat < (lL s1 1).length) <|
 storeO (lL s1 1) ((lI s1 2).toNat) 0 [.int .i64 e2.1] fun l3 =>
 some (.inl [.l (lL s1 0), .l l3, .i (IntKind.wrap .i64 ((lI s1 2) + 1))])) (
 some (.inr (0, [.l (lL s1 1)])))) [.l a, .l (List.replicate ((a.length : Int).toNat) (.int .i64 0)), .i 0] fun (r4 : Nat × List Leaf) =>
 k (lL r4.2 0)
def F138 : T138 := P138 
def X138 : Exits := fun i => lookN i [] [(3, [(.exit 0, xk 22 [(3, .own 1000000 1 .flat [])] [])])]
abbrev s138 : List (Bool × List CK) := [(false, [.sl 1 true])]
def G138 (F : T138) (β : Type) (e : (List V × Unit) × Unit) (k : V → Option β) : Option β := F β e.1.1 (fun y1 => k (.own 0 1 .flat y1))
abbrev W138 (F : T138) : WT := wrap s138 (G138 F)
theorem k138 (β : Type) (e : argsT s138) (k : V → Option β) : fnK cfg (tabL []) X138 138 Tryz.f138 β (argsEnc s138 e) k = G138 (P138 ) β e k := by kernel_rfl
theorem ok138 : FnOk D 138 (W138 F138) := fn_okW [] X138 (fun _ => rfl) Tryz.func138 rfl (tabL_nil) (k138 )

/-- laws.toBuilder -/
abbrev T69 : Type 1 := (β : Type) → List V → List V → (List V → List V → Option β) → Option β
def P69 (F137 : T137) (F138 : T138) : T69 := fun β a_Nodes a_Open k =>
 F137 _ a_Nodes fun l1 =>
 F138 _ a_Open fun l2 =>
 k l1 l2
def F69 : T69 := P69 F137 F138 
abbrev s69 : List (Bool × List CK) := [(true, [.sl 4 false, .sl 1 true])]
def G69 (F : T69) (β : Type) (e : (List V × List V × Unit) × Unit) (k : V → Option β) : Option β := F β e.1.1 e.1.2.1 (fun y1 y2 => k (.agg [.own 0 4 .clean y1, .own 1 1 .flat y2]))
abbrev W69 (F : T69) : WT := wrap s69 (G69 F)
theorem k69 (F137 : T137) (F138 : T138) (β : Type) (e : argsT s69) (k : V → Option β) : fnK cfg (tabL [(137, W137 F137), (138, W138 F138)]) noX 69 Tryz.f69 β (argsEnc s69 e) k = G69 (P69 F137 F138 ) β e k := by kernel_rfl
theorem ok69 : FnOk D 69 (W69 F69) := fn_okW [(137, W137 F137), (138, W138 F138)] noX (fun _ => rfl) Tryz.func69 rfl (tabL_cons ok137 (tabL_cons ok138 tabL_nil)) (k69 F137 F138 )

/-- laws.toSlot -/
abbrev T139 : Type 1 := (β : Type) → Int → List UInt8 → List UInt8 → List UInt8 → Int → Bool → Int → List UInt8 → (Int → List UInt8 → List UInt8 → List UInt8 → Int → Bool → Int → List UInt8 → Option β) → Option β
def P139 (F65 : T65) : T139 := fun β a_Mode a_To_Host a_To_Path a_Digest a_Node a_Done a_Code a_Body k =>
 F65 _ a_To_Host a_To_Path fun t1 t2 =>
 k a_Mode t1 t2 a_Digest a_Node a_Done a_Code a_Body
def F139 : T139 := P139 F65 
abbrev s139 : List (Bool × List CK) := [(true, [.int .i64, .str, .str, .str, .int .i64, .bool, .int .i64, .str])]
def G139 (F : T139) (β : Type) (e : (Int × List UInt8 × List UInt8 × List UInt8 × Int × Bool × Int × List UInt8 × Unit) × Unit) (k : V → Option β) : Option β := let a0_0 := e.1; let a0_1 := a0_0.2; let a0_2 := a0_1.2; let a0_3 := a0_2.2; let a0_4 := a0_3.2; let a0_5 := a0_4.2; let a0_6 := a0_5.2; let a0_7 := a0_6.2; F β a0_0.1 a0_1.1 a0_2.1 a0_3.1 a0_4.1 a0_5.1 a0_6.1 a0_7.1 (fun y1 y2 y3 y4 y5 y6 y7 y8 => k (.agg [.int .i64 y1, .str y2, .str y3, .str y4, .int .i64 y5, .bool y6, .int .i64 y7, .str y8]))
abbrev W139 (F : T139) : WT := wrap s139 (G139 F)
theorem k139 (F65 : T65) (β : Type) (e : argsT s139) (k : V → Option β) : fnK cfg (tabL [(65, W65 F65)]) noX 139 Tryz.f139 β (argsEnc s139 e) k = G139 (P139 F65 ) β e k := by kernel_rfl
theorem ok139 : FnOk D 139 (W139 F139) := fn_okW [(65, W65 F65)] noX (fun _ => rfl) Tryz.func139 rfl (tabL_cons ok65 tabL_nil) (k139 F65 )

/-- laws.toSlotS -/
abbrev T70 : Type 1 := (β : Type) → List V → (List V → Option β) → Option β
def P70 (F139 : T139) : T70 := fun β a k =>
 chk (0 ≤ (a.length : Int) ∧ (a.length : Int) ≤ (a.length : Int) ∧ (a.length : Int) * 96 ≤ 140737488355328 ∧ (a.length : Int) ≤ 140737488355328) <|
 whileK (fun s1 =>
 br (decide ((lI s1 2) < ((lL s1 0).length : Int))) (
 chk (0 ≤ (lI s1 2)) <|
 idx true [.int .i64, .str, .str, .str, .int .i64, .bool, .int .i64, .str] (lL s1 0) ((lI s1 2).toNat) fun (e2 : Int × List UInt8 × List UInt8 × List UInt8 × Int × Bool × Int × List UInt8 × Unit) =>
 F139 _ e2.1 e2.2.1 e2.2.2.1 e2.2.2.2.1 e2.2.2.2.2.1 e2.2.2.2.2.2.1 e2.2.2.2.2.2.2.1 e2.2.2.2.2.2.2.2.1 fun n3 t4 t5 t6 n7 b8 n9 t10 =>
 chk (0 ≤ (lI s1 2) ∧ (lI s1 2).toNat < (lL s1 1).length) <|
 storeO (lL s1 1) ((lI s1 2).toNat) 0 [.int .i64 n3, .str t4, .str t5, .str t6, .int .i64 n7, .bool b8, .int .i64 n9, .str t10] fun l11 =>
 some (.inl [.l (lL s1 0), .l l11, .i (IntKind.wrap .i64 ((lI s1 2) + 1))])) (
 some (.inr (0, [.l (lL s1 1)])))) [.l a, .l (List.replicate ((a.length : Int).toNat) (.agg [.int .i64 0, .str [], .str [], .str [], .int .i64 0, .bool false, .int .i64 0, .str []])), .i 0] fun (r12 : Nat × List Leaf) =>
 k (lL r12.2 0)
def F70 : T70 := P70 F139 
def X70 : Exits := fun i => lookN i [] [(3, [(.exit 0, xk 23 [(3, .own 1000000 8 .flat [])] [])])]
abbrev s70 : List (Bool × List CK) := [(false, [.sl 8 true])]
def G70 (F : T70) (β : Type) (e : (List V × Unit) × Unit) (k : V → Option β) : Option β := F β e.1.1 (fun y1 => k (.own 0 8 .flat y1))
abbrev W70 (F : T70) : WT := wrap s70 (G70 F)
theorem k70 (F139 : T139) (β : Type) (e : argsT s70) (k : V → Option β) : fnK cfg (tabL [(139, W139 F139)]) X70 70 Tryz.f70 β (argsEnc s70 e) k = G70 (P70 F139 ) β e k := by kernel_rfl
theorem ok70 : FnOk D 70 (W70 F70) := fn_okW [(139, W139 F139)] X70 (fun _ => rfl) Tryz.func70 rfl (tabL_cons ok139 tabL_nil) (k70 F139 )

/-- laws.toModule -/
abbrev T140 : Type 1 := (β : Type) → List UInt8 → List UInt8 → Bool → Int → List UInt8 → (List UInt8 → List UInt8 → Bool → Int → List UInt8 → Option β) → Option β
def P140 (F65 : T65) : T140 := fun β a_To_Host a_To_Path a_Done a_Code a_Body k =>
 F65 _ a_To_Host a_To_Path fun t1 t2 =>
 k t1 t2 a_Done a_Code a_Body
def F140 : T140 := P140 F65 
abbrev s140 : List (Bool × List CK) := [(true, [.str, .str, .bool, .int .i64, .str])]
def G140 (F : T140) (β : Type) (e : (List UInt8 × List UInt8 × Bool × Int × List UInt8 × Unit) × Unit) (k : V → Option β) : Option β := let a0_0 := e.1; let a0_1 := a0_0.2; let a0_2 := a0_1.2; let a0_3 := a0_2.2; let a0_4 := a0_3.2; F β a0_0.1 a0_1.1 a0_2.1 a0_3.1 a0_4.1 (fun y1 y2 y3 y4 y5 => k (.agg [.str y1, .str y2, .bool y3, .int .i64 y4, .str y5]))
abbrev W140 (F : T140) : WT := wrap s140 (G140 F)
theorem k140 (F65 : T65) (β : Type) (e : argsT s140) (k : V → Option β) : fnK cfg (tabL [(65, W65 F65)]) noX 140 Tryz.f140 β (argsEnc s140 e) k = G140 (P140 F65 ) β e k := by kernel_rfl
theorem ok140 : FnOk D 140 (W140 F140) := fn_okW [(65, W65 F65)] noX (fun _ => rfl) Tryz.func140 rfl (tabL_cons ok65 tabL_nil) (k140 F65 )

/-- laws.toModuleS -/
abbrev T71 : Type 1 := (β : Type) → List V → (List V → Option β) → Option β
def P71 (F140 : T140) : T71 := fun β a k =>
 chk (0 ≤ (a.length : Int) ∧ (a.length : Int) ≤ (a.length : Int) ∧ (a.length : Int) * 64 ≤ 140737488355328 ∧ (a.length : Int) ≤ 140737488355328) <|
 whileK (fun s1 =>
 br (decide ((lI s1 2) < ((lL s1 0).length : Int))) (
 chk (0 ≤ (lI s1 2)) <|
 idx true [.str, .str, .bool, .int .i64, .str] (lL s1 0) ((lI s1 2).toNat) fun (e2 : List UInt8 × List UInt8 × Bool × Int × List UInt8 × Unit) =>
 F140 _ e2.1 e2.2.1 e2.2.2.1 e2.2.2.2.1 e2.2.2.2.2.1 fun t3 t4 b5 n6 t7 =>
 chk (0 ≤ (lI s1 2) ∧ (lI s1 2).toNat < (lL s1 1).length) <|
 storeO (lL s1 1) ((lI s1 2).toNat) 0 [.str t3, .str t4, .bool b5, .int .i64 n6, .str t7] fun l8 =>
 some (.inl [.l (lL s1 0), .l l8, .i (IntKind.wrap .i64 ((lI s1 2) + 1))])) (
 some (.inr (0, [.l (lL s1 1)])))) [.l a, .l (List.replicate ((a.length : Int).toNat) (.agg [.str [], .str [], .bool false, .int .i64 0, .str []])), .i 0] fun (r9 : Nat × List Leaf) =>
 k (lL r9.2 0)
def F71 : T71 := P71 F140 
def X71 : Exits := fun i => lookN i [] [(3, [(.exit 0, xk 23 [(3, .own 1000000 5 .flat [])] [])])]
abbrev s71 : List (Bool × List CK) := [(false, [.sl 5 true])]
def G71 (F : T71) (β : Type) (e : (List V × Unit) × Unit) (k : V → Option β) : Option β := F β e.1.1 (fun y1 => k (.own 0 5 .flat y1))
abbrev W71 (F : T71) : WT := wrap s71 (G71 F)
theorem k71 (F140 : T140) (β : Type) (e : argsT s71) (k : V → Option β) : fnK cfg (tabL [(140, W140 F140)]) X71 71 Tryz.f71 β (argsEnc s71 e) k = G71 (P71 F140 ) β e k := by kernel_rfl
theorem ok71 : FnOk D 71 (W71 F71) := fn_okW [(140, W140 F140)] X71 (fun _ => rfl) Tryz.func71 rfl (tabL_cons ok140 tabL_nil) (k71 F140 )

/-- laws.toAddrS -/
abbrev T72 : Type 1 := (β : Type) → List V → (List V → Option β) → Option β
def P72 (F65 : T65) : T72 := fun β a k =>
 chk (0 ≤ (a.length : Int) ∧ (a.length : Int) ≤ (a.length : Int) ∧ (a.length : Int) * 32 ≤ 140737488355328 ∧ (a.length : Int) ≤ 140737488355328) <|
 whileK (fun s1 =>
 br (decide ((lI s1 2) < ((lL s1 0).length : Int))) (
 chk (0 ≤ (lI s1 2)) <|
 idx true [.str, .str] (lL s1 0) ((lI s1 2).toNat) fun (e2 : List UInt8 × List UInt8 × Unit) =>
 F65 _ e2.1 e2.2.1 fun t3 t4 =>
 chk (0 ≤ (lI s1 2) ∧ (lI s1 2).toNat < (lL s1 1).length) <|
 storeO (lL s1 1) ((lI s1 2).toNat) 0 [.str t3, .str t4] fun l5 =>
 some (.inl [.l (lL s1 0), .l l5, .i (IntKind.wrap .i64 ((lI s1 2) + 1))])) (
 some (.inr (0, [.l (lL s1 1)])))) [.l a, .l (List.replicate ((a.length : Int).toNat) (.agg [.str [], .str []])), .i 0] fun (r6 : Nat × List Leaf) =>
 k (lL r6.2 0)
def F72 : T72 := P72 F65 
def X72 : Exits := fun i => lookN i [] [(3, [(.exit 0, xk 23 [(3, .own 1000000 2 .flat [])] [])])]
abbrev s72 : List (Bool × List CK) := [(false, [.sl 2 true])]
def G72 (F : T72) (β : Type) (e : (List V × Unit) × Unit) (k : V → Option β) : Option β := F β e.1.1 (fun y1 => k (.own 0 2 .flat y1))
abbrev W72 (F : T72) : WT := wrap s72 (G72 F)
theorem k72 (F65 : T65) (β : Type) (e : argsT s72) (k : V → Option β) : fnK cfg (tabL [(65, W65 F65)]) X72 72 Tryz.f72 β (argsEnc s72 e) k = G72 (P72 F65 ) β e k := by kernel_rfl
theorem ok72 : FnOk D 72 (W72 F72) := fn_okW [(65, W65 F65)] X72 (fun _ => rfl) Tryz.func72 rfl (tabL_cons ok65 tabL_nil) (k72 F65 )

/-- laws.toPage -/
abbrev T20 : Type 1 := (β : Type) → List UInt8 → List UInt8 → Bool → List V → List V → List V → List UInt8 → List UInt8 → List V → Bool → List V → List V → List V → List V → List V → Int → Int → Int → Int → List V → List V → Bool → (List UInt8 → List UInt8 → Bool → List V → List V → List V → List UInt8 → List UInt8 → List V → Bool → List V → List V → List V → List V → List V → Int → Int → Int → Int → List V → List V → Bool → Option β) → Option β
def P20 (F65 : T65) (F66 : T66) (F67 : T67) (F68 : T68) (F69 : T69) (F70 : T70) (F71 : T71) (F72 : T72) (F73 : T73) : T20 := fun β a_Addr_Host a_Addr_Path a_Policy_Set a_Policy_Scripts a_Policy_Styles a_Policy_Images a_Policy_Nonce a_Tok_Rest a_Queue a_Ended a_Builder_Nodes a_Builder_Open a_Slots a_Mods a_Entries a_Block a_Inline a_Deferred a_Entered a_Ran a_Log a_Loaded k =>
 F65 _ a_Addr_Host a_Addr_Path fun t1 t2 =>
 F66 _ a_Policy_Set a_Policy_Scripts a_Policy_Styles a_Policy_Images a_Policy_Nonce fun b3 l4 l5 l6 t7 =>
 F67 _ a_Tok_Rest fun t8 =>
 F68 _ a_Queue fun l9 =>
 F69 _ a_Builder_Nodes a_Builder_Open fun l10 l11 =>
 F70 _ a_Slots fun l12 =>
 F71 _ a_Mods fun l13 =>
 F72 _ a_Entries fun l14 =>
 F72 _ a_Ran fun l15 =>
 F73 _ a_Log fun l16 =>
 k t1 t2 b3 l4 l5 l6 t7 t8 l9 a_Ended l10 l11 l12 l13 l14 a_Block a_Inline a_Deferred a_Entered l15 l16 a_Loaded
def F20 : T20 := P20 F65 F66 F67 F68 F69 F70 F71 F72 F73 
abbrev s20 : List (Bool × List CK) := [(true, [.str, .str, .bool, .sl 1 true, .sl 1 true, .sl 1 true, .str, .str, .sl 4 false, .bool, .sl 4 false, .sl 1 true, .sl 8 true, .sl 5 true, .sl 2 true, .int .i64, .int .i64, .int .i64, .int .i64, .sl 2 true, .sl 1 true, .bool])]
def G20 (F : T20) (β : Type) (e : (List UInt8 × List UInt8 × Bool × List V × List V × List V × List UInt8 × List UInt8 × List V × Bool × List V × List V × List V × List V × List V × Int × Int × Int × Int × List V × List V × Bool × Unit) × Unit) (k : V → Option β) : Option β := let a0_0 := e.1; let a0_1 := a0_0.2; let a0_2 := a0_1.2; let a0_3 := a0_2.2; let a0_4 := a0_3.2; let a0_5 := a0_4.2; let a0_6 := a0_5.2; let a0_7 := a0_6.2; let a0_8 := a0_7.2; let a0_9 := a0_8.2; let a0_10 := a0_9.2; let a0_11 := a0_10.2; let a0_12 := a0_11.2; let a0_13 := a0_12.2; let a0_14 := a0_13.2; let a0_15 := a0_14.2; let a0_16 := a0_15.2; let a0_17 := a0_16.2; let a0_18 := a0_17.2; let a0_19 := a0_18.2; let a0_20 := a0_19.2; let a0_21 := a0_20.2; F β a0_0.1 a0_1.1 a0_2.1 a0_3.1 a0_4.1 a0_5.1 a0_6.1 a0_7.1 a0_8.1 a0_9.1 a0_10.1 a0_11.1 a0_12.1 a0_13.1 a0_14.1 a0_15.1 a0_16.1 a0_17.1 a0_18.1 a0_19.1 a0_20.1 a0_21.1 (fun y1 y2 y3 y4 y5 y6 y7 y8 y9 y10 y11 y12 y13 y14 y15 y16 y17 y18 y19 y20 y21 y22 => k (.agg [.str y1, .str y2, .bool y3, .own 3 1 .flat y4, .own 4 1 .flat y5, .own 5 1 .flat y6, .str y7, .str y8, .own 8 4 .clean y9, .bool y10, .own 10 4 .clean y11, .own 11 1 .flat y12, .own 12 8 .flat y13, .own 13 5 .flat y14, .own 14 2 .flat y15, .int .i64 y16, .int .i64 y17, .int .i64 y18, .int .i64 y19, .own 19 2 .flat y20, .own 20 1 .flat y21, .bool y22]))
abbrev W20 (F : T20) : WT := wrap s20 (G20 F)
theorem k20 (F65 : T65) (F66 : T66) (F67 : T67) (F68 : T68) (F69 : T69) (F70 : T70) (F71 : T71) (F72 : T72) (F73 : T73) (β : Type) (e : argsT s20) (k : V → Option β) : fnK cfg (tabL [(65, W65 F65), (66, W66 F66), (67, W67 F67), (68, W68 F68), (69, W69 F69), (70, W70 F70), (71, W71 F71), (72, W72 F72), (73, W73 F73)]) noX 20 Tryz.f20 β (argsEnc s20 e) k = G20 (P20 F65 F66 F67 F68 F69 F70 F71 F72 F73 ) β e k := by kernel_rfl
theorem ok20 : FnOk D 20 (W20 F20) := fn_okW [(65, W65 F65), (66, W66 F66), (67, W67 F67), (68, W68 F68), (69, W69 F69), (70, W70 F70), (71, W71 F71), (72, W72 F72), (73, W73 F73)] noX (fun _ => rfl) Tryz.func20 rfl (tabL_cons ok65 (tabL_cons ok66 (tabL_cons ok67 (tabL_cons ok68 (tabL_cons ok69 (tabL_cons ok70 (tabL_cons ok71 (tabL_cons ok72 (tabL_cons ok73 tabL_nil))))))))) (k20 F65 F66 F67 F68 F69 F70 F71 F72 F73 )

/-- spec.HasAddr -/
abbrev T132 : Type 1 := (β : Type) → List V → List UInt8 → List UInt8 → (Bool → Option β) → Option β
def P132 : T132 := fun β l a_Host a_Path k =>
 whileK (fun s1 =>
 br (decide ((lI s1 1) < ((lL s1 0).length : Int))) (
 chk (0 ≤ (lI s1 1)) <|
 idx true [.str, .str] (lL s1 0) ((lI s1 1).toNat) fun (e2 : List UInt8 × List UInt8 × Unit) =>
 br ((e2.1 == (lS s1 2)) && ((e2.2.1 == (lS s1 3)) && true)) (
 some (.inr (0, [.b true]))) (
 some (.inl [.l (lL s1 0), .i (IntKind.wrap .i64 ((lI s1 1) + 1)), .s (lS s1 2), .s (lS s1 3)]))) (
 some (.inr (1, [])))) [.l l, .i 0, .s a_Host, .s a_Path] fun (r3 : Nat × List Leaf) =>
 if r3.1 = 0 then
 k (lB r3.2 0)
 else
 k false
def F132 : T132 := P132 
def X132 : Exits := fun i => lookN i [] [(2, [(.ret, xk 18 [(4, .bool false)] []), (.exit 0, xk 18 [] [])])]
abbrev s132 : List (Bool × List CK) := [(false, [.sl 2 true]), (true, [.str, .str])]
def G132 (F : T132) (β : Type) (e : (List V × Unit) × (List UInt8 × List UInt8 × Unit) × Unit) (k : V → Option β) : Option β := F β e.1.1 e.2.1.1 e.2.1.2.1 (fun y1 => k (.bool y1))
abbrev W132 (F : T132) : WT := wrap s132 (G132 F)
theorem k132 (β : Type) (e : argsT s132) (k : V → Option β) : fnK cfg (tabL []) X132 132 Tryz.f132 β (argsEnc s132 e) k = G132 (P132 ) β e k := by kernel_rfl
theorem ok132 : FnOk D 132 (W132 F132) := fn_okW [] X132 (fun _ => rfl) Tryz.func132 rfl (tabL_nil) (k132 )

/-- spec.RanOnce -/
abbrev T59 : Type 1 := (β : Type) → List UInt8 → List UInt8 → Bool → List V → List V → List V → List UInt8 → List UInt8 → List V → Bool → List V → List V → List V → List V → List V → Int → Int → Int → Int → List V → List V → Bool → (Bool → Option β) → Option β
def P59 (F132 : T132) : T59 := fun β p_Addr_Host p_Addr_Path p_Policy_Set p_Policy_Scripts p_Policy_Styles p_Policy_Images p_Policy_Nonce p_Tok_Rest p_Queue p_Ended p_Builder_Nodes p_Builder_Open p_Slots p_Mods p_Entries p_Block p_Inline p_Deferred p_Entered p_Ran p_Log p_Loaded k =>
 whileK (fun s1 =>
 br (decide ((lI s1 0) < ((lL s1 20).length : Int))) (
 chk (0 ≤ (0 : Int) ∧ (0 : Int) ≤ (lI s1 0) ∧ (lI s1 0) ≤ ((lL s1 20).length : Int)) <|
 chk (0 ≤ (lI s1 0)) <|
 idx true [.str, .str] (lL s1 20) ((lI s1 0).toNat) fun (e2 : List UInt8 × List UInt8 × Unit) =>
 F132 _ (((lL s1 20).take ((lI s1 0).toNat)).drop 0) e2.1 e2.2.1 fun b3 =>
 br b3 (
 some (.inr (0, [.b false]))) (
 some (.inl [.i (IntKind.wrap .i64 ((lI s1 0) + 1)), .s (lS s1 1), .s (lS s1 2), .b (lB s1 3), .l (lL s1 4), .l (lL s1 5), .l (lL s1 6), .s (lS s1 7), .s (lS s1 8), .l (lL s1 9), .b (lB s1 10), .l (lL s1 11), .l (lL s1 12), .l (lL s1 13), .l (lL s1 14), .l (lL s1 15), .i (lI s1 16), .i (lI s1 17), .i (lI s1 18), .i (lI s1 19), .l (lL s1 20), .l (lL s1 21), .b (lB s1 22)]))) (
 some (.inr (1, [])))) [.i 0, .s p_Addr_Host, .s p_Addr_Path, .b p_Policy_Set, .l p_Policy_Scripts, .l p_Policy_Styles, .l p_Policy_Images, .s p_Policy_Nonce, .s p_Tok_Rest, .l p_Queue, .b p_Ended, .l p_Builder_Nodes, .l p_Builder_Open, .l p_Slots, .l p_Mods, .l p_Entries, .i p_Block, .i p_Inline, .i p_Deferred, .i p_Entered, .l p_Ran, .l p_Log, .b p_Loaded] fun (r4 : Nat × List Leaf) =>
 if r4.1 = 0 then
 k (lB r4.2 0)
 else
 k true
def F59 : T59 := P59 F132 
def X59 : Exits := fun i => lookN i [] [(2, [(.ret, xk 21 [(2, .bool false)] []), (.exit 0, xk 21 [] [])])]
abbrev s59 : List (Bool × List CK) := [(true, [.str, .str, .bool, .sl 1 true, .sl 1 true, .sl 1 true, .str, .str, .sl 4 false, .bool, .sl 4 false, .sl 1 true, .sl 8 true, .sl 5 true, .sl 2 true, .int .i64, .int .i64, .int .i64, .int .i64, .sl 2 true, .sl 1 true, .bool])]
def G59 (F : T59) (β : Type) (e : (List UInt8 × List UInt8 × Bool × List V × List V × List V × List UInt8 × List UInt8 × List V × Bool × List V × List V × List V × List V × List V × Int × Int × Int × Int × List V × List V × Bool × Unit) × Unit) (k : V → Option β) : Option β := let a0_0 := e.1; let a0_1 := a0_0.2; let a0_2 := a0_1.2; let a0_3 := a0_2.2; let a0_4 := a0_3.2; let a0_5 := a0_4.2; let a0_6 := a0_5.2; let a0_7 := a0_6.2; let a0_8 := a0_7.2; let a0_9 := a0_8.2; let a0_10 := a0_9.2; let a0_11 := a0_10.2; let a0_12 := a0_11.2; let a0_13 := a0_12.2; let a0_14 := a0_13.2; let a0_15 := a0_14.2; let a0_16 := a0_15.2; let a0_17 := a0_16.2; let a0_18 := a0_17.2; let a0_19 := a0_18.2; let a0_20 := a0_19.2; let a0_21 := a0_20.2; F β a0_0.1 a0_1.1 a0_2.1 a0_3.1 a0_4.1 a0_5.1 a0_6.1 a0_7.1 a0_8.1 a0_9.1 a0_10.1 a0_11.1 a0_12.1 a0_13.1 a0_14.1 a0_15.1 a0_16.1 a0_17.1 a0_18.1 a0_19.1 a0_20.1 a0_21.1 (fun y1 => k (.bool y1))
abbrev W59 (F : T59) : WT := wrap s59 (G59 F)
theorem k59 (F132 : T132) (β : Type) (e : argsT s59) (k : V → Option β) : fnK cfg (tabL [(132, W132 F132)]) X59 59 Tryz.f59 β (argsEnc s59 e) k = G59 (P59 F132 ) β e k := by kernel_rfl
theorem ok59 : FnOk D 59 (W59 F59) := fn_okW [(132, W132 F132)] X59 (fun _ => rfl) Tryz.func59 rfl (tabL_cons ok132 tabL_nil) (k59 F132 )

/-- spec.l1In -/
abbrev T133 : Type 1 := (β : Type) → Int → Int → Int → (Bool → Option β) → Option β
def P133 : T133 := fun β x least most k =>
 br (decide (x ≥ least)) (
 k (decide (x ≤ most))) (
 k false)
def F133 : T133 := P133 
abbrev s133 : List (Bool × List CK) := [(false, [.int .i64]), (false, [.int .i64]), (false, [.int .i64])]
def G133 (F : T133) (β : Type) (e : (Int × Unit) × (Int × Unit) × (Int × Unit) × Unit) (k : V → Option β) : Option β := F β e.1.1 e.2.1.1 e.2.2.1.1 (fun y1 => k (.bool y1))
abbrev W133 (F : T133) : WT := wrap s133 (G133 F)
theorem k133 (β : Type) (e : argsT s133) (k : V → Option β) : fnK cfg (tabL []) noX 133 Tryz.f133 β (argsEnc s133 e) k = G133 (P133 ) β e k := by kernel_rfl
theorem ok133 : FnOk D 133 (W133 F133) := fn_okW [] noX (fun _ => rfl) Tryz.func133 rfl (tabL_nil) (k133 )

/-- spec.IsVoid -/
abbrev T135 : Type 1 := (β : Type) → List UInt8 → (Bool → Option β) → Option β
def P135 : T135 := fun β name k =>
 br (name == [105, 109, 103]) (
 k true) (
 k (name == [108, 105, 110, 107]))
def F135 : T135 := P135 
abbrev s135 : List (Bool × List CK) := [(false, [.str])]
def G135 (F : T135) (β : Type) (e : (List UInt8 × Unit) × Unit) (k : V → Option β) : Option β := F β e.1.1 (fun y1 => k (.bool y1))
abbrev W135 (F : T135) : WT := wrap s135 (G135 F)
theorem k135 (β : Type) (e : argsT s135) (k : V → Option β) : fnK cfg (tabL []) noX 135 Tryz.f135 β (argsEnc s135 e) k = G135 (P135 ) β e k := by kernel_rfl
theorem ok135 : FnOk D 135 (W135 F135) := fn_okW [] noX (fun _ => rfl) Tryz.func135 rfl (tabL_nil) (k135 )

/-- spec.IsName -/
abbrev T179 : Type 1 := (β : Type) → List UInt8 → (Bool → Option β) → Option β
def P179 (F133 : T133) : T179 := fun β s k =>
 whileK (fun s1 =>
 br (decide ((lI s1 1) < ((lS s1 0).length : Int))) (
 idxS (lS s1 0) (lI s1 1) fun b2 =>
 br (decide (b2 < 97)) (
 some (.inr (0, [.s (lS s1 0), .b false]))) (
 idxS (lS s1 0) (lI s1 1) fun b3 =>
 br (decide (b3 > 122)) (
 some (.inr (0, [.s (lS s1 0), .b false]))) (
 some (.inl [.s (lS s1 0), .i (IntKind.wrap .i64 ((lI s1 1) + 1))])))) (
 some (.inr (1, [.s (lS s1 0)])))) [.s s, .i 0] fun (r4 : Nat × List Leaf) =>
 if r4.1 = 0 then
 k (lB r4.2 1)
 else
 F133 _ ((lS r4.2 0).length : Int) 1 8 fun b5 =>
 k b5
def F179 : T179 := P179 F133 
def X179 : Exits := fun i => lookN i [] [(2, [(.ret, xk 23 [(0, .str []), (2, .bool false)] []), (.exit 0, xk 23 [(0, .str [])] [])])]
abbrev s179 : List (Bool × List CK) := [(false, [.str])]
def G179 (F : T179) (β : Type) (e : (List UInt8 × Unit) × Unit) (k : V → Option β) : Option β := F β e.1.1 (fun y1 => k (.bool y1))
abbrev W179 (F : T179) : WT := wrap s179 (G179 F)
theorem k179 (F133 : T133) (β : Type) (e : argsT s179) (k : V → Option β) : fnK cfg (tabL [(133, W133 F133)]) X179 179 Tryz.f179 β (argsEnc s179 e) k = G179 (P179 F133 ) β e k := by kernel_rfl
theorem ok179 : FnOk D 179 (W179 F179) := fn_okW [(133, W133 F133)] X179 (fun _ => rfl) Tryz.func179 rfl (tabL_cons ok133 tabL_nil) (k179 F133 )

/-- spec.l6Node -/
abbrev T134 : Type 1 := (β : Type) → List V → List V → Int → (Bool → Option β) → Option β
def P134 (F133 : T133) (F135 : T135) (F179 : T179) : T134 := fun β b_Nodes b_Open i k =>
 chk (0 ≤ i) <|
 idx true [.str, .str, .int .i64, .sl 2 true] b_Nodes i.toNat fun (e1 : List UInt8 × List UInt8 × Int × List V × Unit) =>
 F133 _ e1.2.2.1 0 (IntKind.wrap .i64 (i - 1)) fun b2 =>
 br (!b2) (
 k false) (
 chk (0 ≤ e1.2.2.1) <|
 idx true [.str, .str, .int .i64, .sl 2 true] b_Nodes e1.2.2.1.toNat fun (e3 : List UInt8 × List UInt8 × Int × List V × Unit) =>
 br (e3.1 == []) (
 k false) (
 chk (0 ≤ e1.2.2.1) <|
 idx true [.str, .str, .int .i64, .sl 2 true] b_Nodes e1.2.2.1.toNat fun (e4 : List UInt8 × List UInt8 × Int × List V × Unit) =>
 F135 _ e4.1 fun b5 =>
 br b5 (
 k false) (
 br (e1.1 == []) (
 br (!(e1.2.1 == [])) (
 k ((e1.2.2.2.1.length : Int) == 0)) (
 k false)) (
 F179 _ e1.1 fun b6 =>
 br b6 (
 k (e1.2.1 == [])) (
 k false)))))
def F134 : T134 := P134 F133 F135 F179 
abbrev s134 : List (Bool × List CK) := [(true, [.sl 4 false, .sl 1 true]), (false, [.int .i64])]
def G134 (F : T134) (β : Type) (e : (List V × List V × Unit) × (Int × Unit) × Unit) (k : V → Option β) : Option β := F β e.1.1 e.1.2.1 e.2.1.1 (fun y1 => k (.bool y1))
abbrev W134 (F : T134) : WT := wrap s134 (G134 F)
theorem k134 (F133 : T133) (F135 : T135) (F179 : T179) (β : Type) (e : argsT s134) (k : V → Option β) : fnK cfg (tabL [(133, W133 F133), (135, W135 F135), (179, W179 F179)]) noX 134 Tryz.f134 β (argsEnc s134 e) k = G134 (P134 F133 F135 F179 ) β e k := by kernel_rfl
theorem ok134 : FnOk D 134 (W134 F134) := fn_okW [(133, W133 F133), (135, W135 F135), (179, W179 F179)] noX (fun _ => rfl) Tryz.func134 rfl (tabL_cons ok133 (tabL_cons ok135 (tabL_cons ok179 tabL_nil))) (k134 F133 F135 F179 )

/-- spec.IsBuilder -/
abbrev T60 : Type 1 := (β : Type) → List V → List V → (Bool → Option β) → Option β
def P60 (F133 : T133) (F134 : T134) (F135 : T135) : T60 := fun β b_Nodes b_Open k =>
 F133 _ (b_Nodes.length : Int) 1 40 fun b1 =>
 br (!b1) (
 k false) (
 F133 _ (b_Open.length : Int) 1 8 fun b2 =>
 br (!b2) (
 k false) (
 idx false [.int .i64] b_Open 0 fun (e3 : Int × Unit) =>
 br (e3.1 != 0) (
 k false) (
 idx true [.str, .str, .int .i64, .sl 2 true] b_Nodes 0 fun (e4 : List UInt8 × List UInt8 × Int × List V × Unit) =>
 br (!(e4.1 == [112, 97, 103, 101])) (
 k false) (
 br (e4.2.2.1 != (-1)) (
 k false) (
 br (!(e4.2.1 == [])) (
 k false) (
 br ((e4.2.2.2.1.length : Int) != 0) (
 k false) (
 whileK (fun s5 =>
 br (decide ((lI s5 0) < ((lL s5 1).length : Int))) (
 F134 _ (lL s5 1) (lL s5 2) (lI s5 0) fun b6 =>
 br (!b6) (
 some (.inr (0, [.b false, .l (lL s5 1), .l (lL s5 2)]))) (
 some (.inl [.i (IntKind.wrap .i64 ((lI s5 0) + 1)), .l (lL s5 1), .l (lL s5 2)]))) (
 some (.inr (1, [.l (lL s5 1), .l (lL s5 2)])))) [.i 1, .l b_Nodes, .l b_Open] fun (r7 : Nat × List Leaf) =>
 if r7.1 = 0 then
 k (lB r7.2 0)
 else
 whileK (fun s8 =>
 br (decide ((lI s8 0) < ((lL s8 2).length : Int))) (
 chk (0 ≤ (lI s8 0)) <|
 idx false [.int .i64] (lL s8 2) ((lI s8 0).toNat) fun (e9 : Int × Unit) =>
 F133 _ e9.1 1 (IntKind.wrap .i64 (((lL s8 1).length : Int) - 1)) fun b10 =>
 br (!b10) (
 some (.inr (0, [.b false]))) (
 chk (0 ≤ e9.1) <|
 idx true [.str, .str, .int .i64, .sl 2 true] (lL s8 1) e9.1.toNat fun (e11 : List UInt8 × List UInt8 × Int × List V × Unit) =>
 br (e11.1 == []) (
 some (.inr (0, [.b false]))) (
 chk (0 ≤ e9.1) <|
 idx true [.str, .str, .int .i64, .sl 2 true] (lL s8 1) e9.1.toNat fun (e12 : List UInt8 × List UInt8 × Int × List V × Unit) =>
 F135 _ e12.1 fun b13 =>
 br b13 (
 some (.inr (0, [.b false]))) (
 chk (0 ≤ e9.1) <|
 idx true [.str, .str, .int .i64, .sl 2 true] (lL s8 1) e9.1.toNat fun (e14 : List UInt8 × List UInt8 × Int × List V × Unit) =>
 chk (0 ≤ IntKind.wrap .i64 ((lI s8 0) - 1)) <|
 idx false [.int .i64] (lL s8 2) ((IntKind.wrap .i64 ((lI s8 0) - 1)).toNat) fun (e15 : Int × Unit) =>
 br (e14.2.2.1 != e15.1) (
 some (.inr (0, [.b false]))) (
 some (.inl [.i (IntKind.wrap .i64 ((lI s8 0) + 1)), .l (lL s8 1), .l (lL s8 2)])))))) (
 some (.inr (1, [])))) [.i 1, .l (lL r7.2 0), .l (lL r7.2 1)] fun (r16 : Nat × List Leaf) =>
 if r16.1 = 0 then
 k (lB r16.2 0)
 else
 k true)))))))
def F60 : T60 := P60 F133 F134 F135 
def X60 : Exits := fun i => lookN i [] [(7, [(.ret, xk 112 [(1, .ptr 1 0), (2, .bool false)] [(1, .agg [.sl 4 false [], .sl 1 true []])]), (.exit 0, xk 112 [(1, .ptr 1 0)] [(1, .agg [.sl 4 false [], .sl 1 true []])])]), (12, [(.ret, xk 112 [(2, .bool false)] []), (.exit 2, xk 112 [] [])])]
abbrev s60 : List (Bool × List CK) := [(true, [.sl 4 false, .sl 1 true])]
def G60 (F : T60) (β : Type) (e : (List V × List V × Unit) × Unit) (k : V → Option β) : Option β := F β e.1.1 e.1.2.1 (fun y1 => k (.bool y1))
abbrev W60 (F : T60) : WT := wrap s60 (G60 F)
theorem k60 (F133 : T133) (F134 : T134) (F135 : T135) (β : Type) (e : argsT s60) (k : V → Option β) : fnK cfg (tabL [(133, W133 F133), (134, W134 F134), (135, W135 F135)]) X60 60 Tryz.f60 β (argsEnc s60 e) k = G60 (P60 F133 F134 F135 ) β e k := by kernel_rfl
theorem ok60 : FnOk D 60 (W60 F60) := fn_okW [(133, W133 F133), (134, W134 F134), (135, W135 F135)] X60 (fun _ => rfl) Tryz.func60 rfl (tabL_cons ok133 (tabL_cons ok134 (tabL_cons ok135 tabL_nil))) (k60 F133 F134 F135 )

/-- spec.IsParsed -/
abbrev T61 : Type 1 := (β : Type) → List UInt8 → List UInt8 → Bool → List V → List V → List V → List UInt8 → List UInt8 → List V → Bool → List V → List V → List V → List V → List V → Int → Int → Int → Int → List V → List V → Bool → (Bool → Option β) → Option β
def P61 : T61 := fun β p_Addr_Host p_Addr_Path p_Policy_Set p_Policy_Scripts p_Policy_Styles p_Policy_Images p_Policy_Nonce p_Tok_Rest p_Queue p_Ended p_Builder_Nodes p_Builder_Open p_Slots p_Mods p_Entries p_Block p_Inline p_Deferred p_Entered p_Ran p_Log p_Loaded k =>
 br p_Ended (
 br ((p_Queue.length : Int) == 0) (
 br (p_Block == 0) (
 k (p_Inline == 0)) (
 k false)) (
 k false)) (
 k false)
def F61 : T61 := P61 
abbrev s61 : List (Bool × List CK) := [(true, [.str, .str, .bool, .sl 1 true, .sl 1 true, .sl 1 true, .str, .str, .sl 4 false, .bool, .sl 4 false, .sl 1 true, .sl 8 true, .sl 5 true, .sl 2 true, .int .i64, .int .i64, .int .i64, .int .i64, .sl 2 true, .sl 1 true, .bool])]
def G61 (F : T61) (β : Type) (e : (List UInt8 × List UInt8 × Bool × List V × List V × List V × List UInt8 × List UInt8 × List V × Bool × List V × List V × List V × List V × List V × Int × Int × Int × Int × List V × List V × Bool × Unit) × Unit) (k : V → Option β) : Option β := let a0_0 := e.1; let a0_1 := a0_0.2; let a0_2 := a0_1.2; let a0_3 := a0_2.2; let a0_4 := a0_3.2; let a0_5 := a0_4.2; let a0_6 := a0_5.2; let a0_7 := a0_6.2; let a0_8 := a0_7.2; let a0_9 := a0_8.2; let a0_10 := a0_9.2; let a0_11 := a0_10.2; let a0_12 := a0_11.2; let a0_13 := a0_12.2; let a0_14 := a0_13.2; let a0_15 := a0_14.2; let a0_16 := a0_15.2; let a0_17 := a0_16.2; let a0_18 := a0_17.2; let a0_19 := a0_18.2; let a0_20 := a0_19.2; let a0_21 := a0_20.2; F β a0_0.1 a0_1.1 a0_2.1 a0_3.1 a0_4.1 a0_5.1 a0_6.1 a0_7.1 a0_8.1 a0_9.1 a0_10.1 a0_11.1 a0_12.1 a0_13.1 a0_14.1 a0_15.1 a0_16.1 a0_17.1 a0_18.1 a0_19.1 a0_20.1 a0_21.1 (fun y1 => k (.bool y1))
abbrev W61 (F : T61) : WT := wrap s61 (G61 F)
theorem k61 (β : Type) (e : argsT s61) (k : V → Option β) : fnK cfg (tabL []) noX 61 Tryz.f61 β (argsEnc s61 e) k = G61 (P61 ) β e k := by kernel_rfl
theorem ok61 : FnOk D 61 (W61 F61) := fn_okW [] noX (fun _ => rfl) Tryz.func61 rfl (tabL_nil) (k61 )

/-- spec.OpenSlots -/
abbrev T62 : Type 1 := (β : Type) → List UInt8 → List UInt8 → Bool → List V → List V → List V → List UInt8 → List UInt8 → List V → Bool → List V → List V → List V → List V → List V → Int → Int → Int → Int → List V → List V → Bool → (List V → Option β) → Option β
def P62 : T62 := fun β p_Addr_Host p_Addr_Path p_Policy_Set p_Policy_Scripts p_Policy_Styles p_Policy_Images p_Policy_Nonce p_Tok_Rest p_Queue p_Ended p_Builder_Nodes p_Builder_Open p_Slots p_Mods p_Entries p_Block p_Inline p_Deferred p_Entered p_Ran p_Log p_Loaded k =>
 whileK (fun s1 =>
 br (decide ((lI s1 1) < ((lL s1 14).length : Int))) (
 chk (0 ≤ (lI s1 1)) <|
 idx true [.int .i64, .str, .str, .str, .int .i64, .bool, .int .i64, .str] (lL s1 14) ((lI s1 1).toNat) fun (e2 : Int × List UInt8 × List UInt8 × List UInt8 × Int × Bool × Int × List UInt8 × Unit) =>
 br (!e2.2.2.2.2.2.1) (
 chk (((lL s1 0).length + ([.int .i64 (lI s1 1)] : List V).length) * 8 ≤ 140737488355328 ∧ (lL s1 0).length + ([.int .i64 (lI s1 1)] : List V).length ≤ 140737488355328) <|
 some (.inl [.l ((lL s1 0) ++ ([.int .i64 (lI s1 1)] : List V)), .i (IntKind.wrap .i64 ((lI s1 1) + 1)), .s (lS s1 2), .s (lS s1 3), .b (lB s1 4), .l (lL s1 5), .l (lL s1 6), .l (lL s1 7), .s (lS s1 8), .s (lS s1 9), .l (lL s1 10), .b (lB s1 11), .l (lL s1 12), .l (lL s1 13), .l (lL s1 14), .l (lL s1 15), .l (lL s1 16), .i (lI s1 17), .i (lI s1 18), .i (lI s1 19), .i (lI s1 20), .l (lL s1 21), .l (lL s1 22), .b (lB s1 23)])) (
 some (.inl [.l (lL s1 0), .i (IntKind.wrap .i64 ((lI s1 1) + 1)), .s (lS s1 2), .s (lS s1 3), .b (lB s1 4), .l (lL s1 5), .l (lL s1 6), .l (lL s1 7), .s (lS s1 8), .s (lS s1 9), .l (lL s1 10), .b (lB s1 11), .l (lL s1 12), .l (lL s1 13), .l (lL s1 14), .l (lL s1 15), .l (lL s1 16), .i (lI s1 17), .i (lI s1 18), .i (lI s1 19), .i (lI s1 20), .l (lL s1 21), .l (lL s1 22), .b (lB s1 23)]))) (
 some (.inr (0, [.l (lL s1 0)])))) [.l [], .i 0, .s p_Addr_Host, .s p_Addr_Path, .b p_Policy_Set, .l p_Policy_Scripts, .l p_Policy_Styles, .l p_Policy_Images, .s p_Policy_Nonce, .s p_Tok_Rest, .l p_Queue, .b p_Ended, .l p_Builder_Nodes, .l p_Builder_Open, .l p_Slots, .l p_Mods, .l p_Entries, .i p_Block, .i p_Inline, .i p_Deferred, .i p_Entered, .l p_Ran, .l p_Log, .b p_Loaded] fun (r3 : Nat × List Leaf) =>
 k (lL r3.2 0)
def F62 : T62 := P62 
def X62 : Exits := fun i => lookN i [] [(3, [(.exit 0, xk 25 [(3, .own 1000000 1 .flat [])] [])])]
abbrev s62 : List (Bool × List CK) := [(true, [.str, .str, .bool, .sl 1 true, .sl 1 true, .sl 1 true, .str, .str, .sl 4 false, .bool, .sl 4 false, .sl 1 true, .sl 8 true, .sl 5 true, .sl 2 true, .int .i64, .int .i64, .int .i64, .int .i64, .sl 2 true, .sl 1 true, .bool])]
def G62 (F : T62) (β : Type) (e : (List UInt8 × List UInt8 × Bool × List V × List V × List V × List UInt8 × List UInt8 × List V × Bool × List V × List V × List V × List V × List V × Int × Int × Int × Int × List V × List V × Bool × Unit) × Unit) (k : V → Option β) : Option β := let a0_0 := e.1; let a0_1 := a0_0.2; let a0_2 := a0_1.2; let a0_3 := a0_2.2; let a0_4 := a0_3.2; let a0_5 := a0_4.2; let a0_6 := a0_5.2; let a0_7 := a0_6.2; let a0_8 := a0_7.2; let a0_9 := a0_8.2; let a0_10 := a0_9.2; let a0_11 := a0_10.2; let a0_12 := a0_11.2; let a0_13 := a0_12.2; let a0_14 := a0_13.2; let a0_15 := a0_14.2; let a0_16 := a0_15.2; let a0_17 := a0_16.2; let a0_18 := a0_17.2; let a0_19 := a0_18.2; let a0_20 := a0_19.2; let a0_21 := a0_20.2; F β a0_0.1 a0_1.1 a0_2.1 a0_3.1 a0_4.1 a0_5.1 a0_6.1 a0_7.1 a0_8.1 a0_9.1 a0_10.1 a0_11.1 a0_12.1 a0_13.1 a0_14.1 a0_15.1 a0_16.1 a0_17.1 a0_18.1 a0_19.1 a0_20.1 a0_21.1 (fun y1 => k (.own 0 1 .flat y1))
abbrev W62 (F : T62) : WT := wrap s62 (G62 F)
theorem k62 (β : Type) (e : argsT s62) (k : V → Option β) : fnK cfg (tabL []) X62 62 Tryz.f62 β (argsEnc s62 e) k = G62 (P62 ) β e k := by kernel_rfl
theorem ok62 : FnOk D 62 (W62 F62) := fn_okW [] X62 (fun _ => rfl) Tryz.func62 rfl (tabL_nil) (k62 )

/-- spec.OpenMods -/
abbrev T63 : Type 1 := (β : Type) → List UInt8 → List UInt8 → Bool → List V → List V → List V → List UInt8 → List UInt8 → List V → Bool → List V → List V → List V → List V → List V → Int → Int → Int → Int → List V → List V → Bool → (List V → Option β) → Option β
def P63 : T63 := fun β p_Addr_Host p_Addr_Path p_Policy_Set p_Policy_Scripts p_Policy_Styles p_Policy_Images p_Policy_Nonce p_Tok_Rest p_Queue p_Ended p_Builder_Nodes p_Builder_Open p_Slots p_Mods p_Entries p_Block p_Inline p_Deferred p_Entered p_Ran p_Log p_Loaded k =>
 whileK (fun s1 =>
 br (decide ((lI s1 1) < ((lL s1 15).length : Int))) (
 chk (0 ≤ (lI s1 1)) <|
 idx true [.str, .str, .bool, .int .i64, .str] (lL s1 15) ((lI s1 1).toNat) fun (e2 : List UInt8 × List UInt8 × Bool × Int × List UInt8 × Unit) =>
 br (!e2.2.2.1) (
 chk (((lL s1 0).length + ([.int .i64 (lI s1 1)] : List V).length) * 8 ≤ 140737488355328 ∧ (lL s1 0).length + ([.int .i64 (lI s1 1)] : List V).length ≤ 140737488355328) <|
 some (.inl [.l ((lL s1 0) ++ ([.int .i64 (lI s1 1)] : List V)), .i (IntKind.wrap .i64 ((lI s1 1) + 1)), .s (lS s1 2), .s (lS s1 3), .b (lB s1 4), .l (lL s1 5), .l (lL s1 6), .l (lL s1 7), .s (lS s1 8), .s (lS s1 9), .l (lL s1 10), .b (lB s1 11), .l (lL s1 12), .l (lL s1 13), .l (lL s1 14), .l (lL s1 15), .l (lL s1 16), .i (lI s1 17), .i (lI s1 18), .i (lI s1 19), .i (lI s1 20), .l (lL s1 21), .l (lL s1 22), .b (lB s1 23)])) (
 some (.inl [.l (lL s1 0), .i (IntKind.wrap .i64 ((lI s1 1) + 1)), .s (lS s1 2), .s (lS s1 3), .b (lB s1 4), .l (lL s1 5), .l (lL s1 6), .l (lL s1 7), .s (lS s1 8), .s (lS s1 9), .l (lL s1 10), .b (lB s1 11), .l (lL s1 12), .l (lL s1 13), .l (lL s1 14), .l (lL s1 15), .l (lL s1 16), .i (lI s1 17), .i (lI s1 18), .i (lI s1 19), .i (lI s1 20), .l (lL s1 21), .l (lL s1 22), .b (lB s1 23)]))) (
 some (.inr (0, [.l (lL s1 0)])))) [.l [], .i 0, .s p_Addr_Host, .s p_Addr_Path, .b p_Policy_Set, .l p_Policy_Scripts, .l p_Policy_Styles, .l p_Policy_Images, .s p_Policy_Nonce, .s p_Tok_Rest, .l p_Queue, .b p_Ended, .l p_Builder_Nodes, .l p_Builder_Open, .l p_Slots, .l p_Mods, .l p_Entries, .i p_Block, .i p_Inline, .i p_Deferred, .i p_Entered, .l p_Ran, .l p_Log, .b p_Loaded] fun (r3 : Nat × List Leaf) =>
 k (lL r3.2 0)
def F63 : T63 := P63 
def X63 : Exits := fun i => lookN i [] [(3, [(.exit 0, xk 25 [(3, .own 1000000 1 .flat [])] [])])]
abbrev s63 : List (Bool × List CK) := [(true, [.str, .str, .bool, .sl 1 true, .sl 1 true, .sl 1 true, .str, .str, .sl 4 false, .bool, .sl 4 false, .sl 1 true, .sl 8 true, .sl 5 true, .sl 2 true, .int .i64, .int .i64, .int .i64, .int .i64, .sl 2 true, .sl 1 true, .bool])]
def G63 (F : T63) (β : Type) (e : (List UInt8 × List UInt8 × Bool × List V × List V × List V × List UInt8 × List UInt8 × List V × Bool × List V × List V × List V × List V × List V × Int × Int × Int × Int × List V × List V × Bool × Unit) × Unit) (k : V → Option β) : Option β := let a0_0 := e.1; let a0_1 := a0_0.2; let a0_2 := a0_1.2; let a0_3 := a0_2.2; let a0_4 := a0_3.2; let a0_5 := a0_4.2; let a0_6 := a0_5.2; let a0_7 := a0_6.2; let a0_8 := a0_7.2; let a0_9 := a0_8.2; let a0_10 := a0_9.2; let a0_11 := a0_10.2; let a0_12 := a0_11.2; let a0_13 := a0_12.2; let a0_14 := a0_13.2; let a0_15 := a0_14.2; let a0_16 := a0_15.2; let a0_17 := a0_16.2; let a0_18 := a0_17.2; let a0_19 := a0_18.2; let a0_20 := a0_19.2; let a0_21 := a0_20.2; F β a0_0.1 a0_1.1 a0_2.1 a0_3.1 a0_4.1 a0_5.1 a0_6.1 a0_7.1 a0_8.1 a0_9.1 a0_10.1 a0_11.1 a0_12.1 a0_13.1 a0_14.1 a0_15.1 a0_16.1 a0_17.1 a0_18.1 a0_19.1 a0_20.1 a0_21.1 (fun y1 => k (.own 0 1 .flat y1))
abbrev W63 (F : T63) : WT := wrap s63 (G63 F)
theorem k63 (β : Type) (e : argsT s63) (k : V → Option β) : fnK cfg (tabL []) X63 63 Tryz.f63 β (argsEnc s63 e) k = G63 (P63 ) β e k := by kernel_rfl
theorem ok63 : FnOk D 63 (W63 F63) := fn_okW [] X63 (fun _ => rfl) Tryz.func63 rfl (tabL_nil) (k63 )

/-- spec.l9Has -/
abbrev T64 : Type 1 := (β : Type) → List V → List UInt8 → (Bool → Option β) → Option β
def P64 : T64 := fun β l s k =>
 whileK (fun s1 =>
 br (decide ((lI s1 2) < ((lL s1 0).length : Int))) (
 chk (0 ≤ (lI s1 2)) <|
 idx false [.str] (lL s1 0) ((lI s1 2).toNat) fun (e2 : List UInt8 × Unit) =>
 br (e2.1 == (lS s1 1)) (
 some (.inr (0, [.b true]))) (
 some (.inl [.l (lL s1 0), .s (lS s1 1), .i (IntKind.wrap .i64 ((lI s1 2) + 1))]))) (
 some (.inr (1, [])))) [.l l, .s s, .i 0] fun (r3 : Nat × List Leaf) =>
 if r3.1 = 0 then
 k (lB r3.2 0)
 else
 k false
def F64 : T64 := P64 
def X64 : Exits := fun i => lookN i [] [(2, [(.ret, xk 18 [(4, .bool false)] []), (.exit 0, xk 18 [] [])])]
abbrev s64 : List (Bool × List CK) := [(false, [.sl 1 true]), (false, [.str])]
def G64 (F : T64) (β : Type) (e : (List V × Unit) × (List UInt8 × Unit) × Unit) (k : V → Option β) : Option β := F β e.1.1 e.2.1.1 (fun y1 => k (.bool y1))
abbrev W64 (F : T64) : WT := wrap s64 (G64 F)
theorem k64 (β : Type) (e : argsT s64) (k : V → Option β) : fnK cfg (tabL []) X64 64 Tryz.f64 β (argsEnc s64 e) k = G64 (P64 ) β e k := by kernel_rfl
theorem ok64 : FnOk D 64 (W64 F64) := fn_okW [] X64 (fun _ => rfl) Tryz.func64 rfl (tabL_nil) (k64 )

/-- spec.PageSound -/
abbrev T19 : Type 1 := (β : Type) → List UInt8 → List UInt8 → Bool → List V → List V → List V → List UInt8 → List UInt8 → List V → Bool → List V → List V → List V → List V → List V → Int → Int → Int → Int → List V → List V → Bool → (Bool → Option β) → Option β
def P19 (F59 : T59) (F60 : T60) (F61 : T61) (F62 : T62) (F63 : T63) (F64 : T64) : T19 := fun β p_Addr_Host p_Addr_Path p_Policy_Set p_Policy_Scripts p_Policy_Styles p_Policy_Images p_Policy_Nonce p_Tok_Rest p_Queue p_Ended p_Builder_Nodes p_Builder_Open p_Slots p_Mods p_Entries p_Block p_Inline p_Deferred p_Entered p_Ran p_Log p_Loaded k =>
 whileK (fun s1 =>
 br (decide ((lI s1 0) < ((lL s1 13).length : Int))) (
 chk (0 ≤ (lI s1 0)) <|
 idx true [.int .i64, .str, .str, .str, .int .i64, .bool, .int .i64, .str] (lL s1 13) ((lI s1 0).toNat) fun (e2 : Int × List UInt8 × List UInt8 × List UInt8 × Int × Bool × Int × List UInt8 × Unit) =>
 br (e2.2.2.2.2.2.2.1 != 1) (
 chk (0 ≤ (lI s1 0)) <|
 idx true [.int .i64, .str, .str, .str, .int .i64, .bool, .int .i64, .str] (lL s1 13) ((lI s1 0).toNat) fun (e3 : Int × List UInt8 × List UInt8 × List UInt8 × Int × Bool × Int × List UInt8 × Unit) =>
 br (!(e3.2.2.2.2.2.2.2.1 == [])) (
 some (.inr (0, [.b false, .s (lS s1 1), .s (lS s1 2), .b (lB s1 3), .l (lL s1 4), .l (lL s1 5), .l (lL s1 6), .s (lS s1 7), .s (lS s1 8), .l (lL s1 9), .b (lB s1 10), .l (lL s1 11), .l (lL s1 12), .l (lL s1 13), .l (lL s1 14), .l (lL s1 15), .i (lI s1 16), .i (lI s1 17), .i (lI s1 18), .i (lI s1 19), .l (lL s1 20), .l (lL s1 21), .b (lB s1 22)]))) (
 some (.inl [.i (IntKind.wrap .i64 ((lI s1 0) + 1)), .s (lS s1 1), .s (lS s1 2), .b (lB s1 3), .l (lL s1 4), .l (lL s1 5), .l (lL s1 6), .s (lS s1 7), .s (lS s1 8), .l (lL s1 9), .b (lB s1 10), .l (lL s1 11), .l (lL s1 12), .l (lL s1 13), .l (lL s1 14), .l (lL s1 15), .i (lI s1 16), .i (lI s1 17), .i (lI s1 18), .i (lI s1 19), .l (lL s1 20), .l (lL s1 21), .b (lB s1 22)]))) (
 some (.inl [.i (IntKind.wrap .i64 ((lI s1 0) + 1)), .s (lS s1 1), .s (lS s1 2), .b (lB s1 3), .l (lL s1 4), .l (lL s1 5), .l (lL s1 6), .s (lS s1 7), .s (lS s1 8), .l (lL s1 9), .b (lB s1 10), .l (lL s1 11), .l (lL s1 12), .l (lL s1 13), .l (lL s1 14), .l (lL s1 15), .i (lI s1 16), .i (lI s1 17), .i (lI s1 18), .i (lI s1 19), .l (lL s1 20), .l (lL s1 21), .b (lB s1 22)]))) (
 some (.inr (1, [.s (lS s1 1), .s (lS s1 2), .b (lB s1 3), .l (lL s1 4), .l (lL s1 5), .l (lL s1 6), .s (lS s1 7), .s (lS s1 8), .l (lL s1 9), .b (lB s1 10), .l (lL s1 11), .l (lL s1 12), .l (lL s1 13), .l (lL s1 14), .l (lL s1 15), .i (lI s1 16), .i (lI s1 17), .i (lI s1 18), .i (lI s1 19), .l (lL s1 20), .l (lL s1 21), .b (lB s1 22)])))) [.i 0, .s p_Addr_Host, .s p_Addr_Path, .b p_Policy_Set, .l p_Policy_Scripts, .l p_Policy_Styles, .l p_Policy_Images, .s p_Policy_Nonce, .s p_Tok_Rest, .l p_Queue, .b p_Ended, .l p_Builder_Nodes, .l p_Builder_Open, .l p_Slots, .l p_Mods, .l p_Entries, .i p_Block, .i p_Inline, .i p_Deferred, .i p_Entered, .l p_Ran, .l p_Log, .b p_Loaded] fun (r4 : Nat × List Leaf) =>
 if r4.1 = 0 then
 k (lB r4.2 0)
 else
 whileK (fun s5 =>
 br (decide ((lI s5 0) < ((lL s5 14).length : Int))) (
 chk (0 ≤ (lI s5 0)) <|
 idx true [.str, .str, .bool, .int .i64, .str] (lL s5 14) ((lI s5 0).toNat) fun (e6 : List UInt8 × List UInt8 × Bool × Int × List UInt8 × Unit) =>
 br (e6.2.2.2.1 != 1) (
 chk (0 ≤ (lI s5 0)) <|
 idx true [.str, .str, .bool, .int .i64, .str] (lL s5 14) ((lI s5 0).toNat) fun (e7 : List UInt8 × List UInt8 × Bool × Int × List UInt8 × Unit) =>
 br (!(e7.2.2.2.2.1 == [])) (
 some (.inr (0, [.b false, .s (lS s5 1), .s (lS s5 2), .b (lB s5 3), .l (lL s5 4), .l (lL s5 5), .l (lL s5 6), .s (lS s5 7), .s (lS s5 8), .l (lL s5 9), .b (lB s5 10), .l (lL s5 11), .l (lL s5 12), .l (lL s5 13), .l (lL s5 14), .l (lL s5 15), .i (lI s5 16), .i (lI s5 17), .i (lI s5 18), .i (lI s5 19), .l (lL s5 20), .l (lL s5 21), .b (lB s5 22)]))) (
 some (.inl [.i (IntKind.wrap .i64 ((lI s5 0) + 1)), .s (lS s5 1), .s (lS s5 2), .b (lB s5 3), .l (lL s5 4), .l (lL s5 5), .l (lL s5 6), .s (lS s5 7), .s (lS s5 8), .l (lL s5 9), .b (lB s5 10), .l (lL s5 11), .l (lL s5 12), .l (lL s5 13), .l (lL s5 14), .l (lL s5 15), .i (lI s5 16), .i (lI s5 17), .i (lI s5 18), .i (lI s5 19), .l (lL s5 20), .l (lL s5 21), .b (lB s5 22)]))) (
 some (.inl [.i (IntKind.wrap .i64 ((lI s5 0) + 1)), .s (lS s5 1), .s (lS s5 2), .b (lB s5 3), .l (lL s5 4), .l (lL s5 5), .l (lL s5 6), .s (lS s5 7), .s (lS s5 8), .l (lL s5 9), .b (lB s5 10), .l (lL s5 11), .l (lL s5 12), .l (lL s5 13), .l (lL s5 14), .l (lL s5 15), .i (lI s5 16), .i (lI s5 17), .i (lI s5 18), .i (lI s5 19), .l (lL s5 20), .l (lL s5 21), .b (lB s5 22)]))) (
 some (.inr (1, [.s (lS s5 1), .s (lS s5 2), .b (lB s5 3), .l (lL s5 4), .l (lL s5 5), .l (lL s5 6), .s (lS s5 7), .s (lS s5 8), .l (lL s5 9), .b (lB s5 10), .l (lL s5 11), .l (lL s5 12), .l (lL s5 13), .l (lL s5 14), .l (lL s5 15), .i (lI s5 16), .i (lI s5 17), .i (lI s5 18), .i (lI s5 19), .l (lL s5 20), .l (lL s5 21), .b (lB s5 22)])))) [.i 0, .s (lS r4.2 0), .s (lS r4.2 1), .b (lB r4.2 2), .l (lL r4.2 3), .l (lL r4.2 4), .l (lL r4.2 5), .s (lS r4.2 6), .s (lS r4.2 7), .l (lL r4.2 8), .b (lB r4.2 9), .l (lL r4.2 10), .l (lL r4.2 11), .l (lL r4.2 12), .l (lL r4.2 13), .l (lL r4.2 14), .i (lI r4.2 15), .i (lI r4.2 16), .i (lI r4.2 17), .i (lI r4.2 18), .l (lL r4.2 19), .l (lL r4.2 20), .b (lB r4.2 21)] fun (r8 : Nat × List Leaf) =>
 if r8.1 = 0 then
 k (lB r8.2 0)
 else
 F59 _ (lS r8.2 0) (lS r8.2 1) (lB r8.2 2) (lL r8.2 3) (lL r8.2 4) (lL r8.2 5) (lS r8.2 6) (lS r8.2 7) (lL r8.2 8) (lB r8.2 9) (lL r8.2 10) (lL r8.2 11) (lL r8.2 12) (lL r8.2 13) (lL r8.2 14) (lI r8.2 15) (lI r8.2 16) (lI r8.2 17) (lI r8.2 18) (lL r8.2 19) (lL r8.2 20) (lB r8.2 21) fun b9 =>
 br (!b9) (
 k false) (
 F60 _ (lL r8.2 10) (lL r8.2 11) fun b10 =>
 br (!b10) (
 k false) (
 br (!(lB r8.2 21)) (
 k true) (
 F61 _ (lS r8.2 0) (lS r8.2 1) (lB r8.2 2) (lL r8.2 3) (lL r8.2 4) (lL r8.2 5) (lS r8.2 6) (lS r8.2 7) (lL r8.2 8) (lB r8.2 9) (lL r8.2 10) (lL r8.2 11) (lL r8.2 12) (lL r8.2 13) (lL r8.2 14) (lI r8.2 15) (lI r8.2 16) (lI r8.2 17) (lI r8.2 18) (lL r8.2 19) (lL r8.2 20) (lB r8.2 21) fun b11 =>
 br b11 (
 F62 _ (lS r8.2 0) (lS r8.2 1) (lB r8.2 2) (lL r8.2 3) (lL r8.2 4) (lL r8.2 5) (lS r8.2 6) (lS r8.2 7) (lL r8.2 8) (lB r8.2 9) (lL r8.2 10) (lL r8.2 11) (lL r8.2 12) (lL r8.2 13) (lL r8.2 14) (lI r8.2 15) (lI r8.2 16) (lI r8.2 17) (lI r8.2 18) (lL r8.2 19) (lL r8.2 20) (lB r8.2 21) fun l12 =>
 br ((l12.length : Int) == 0) (
 F63 _ (lS r8.2 0) (lS r8.2 1) (lB r8.2 2) (lL r8.2 3) (lL r8.2 4) (lL r8.2 5) (lS r8.2 6) (lS r8.2 7) (lL r8.2 8) (lB r8.2 9) (lL r8.2 10) (lL r8.2 11) (lL r8.2 12) (lL r8.2 13) (lL r8.2 14) (lI r8.2 15) (lI r8.2 16) (lI r8.2 17) (lI r8.2 18) (lL r8.2 19) (lL r8.2 20) (lB r8.2 21) fun l13 =>
 br ((l13.length : Int) == 0) (
 F64 _ (lL r8.2 20) [108, 111, 97, 100] fun b14 =>
 br b14 (
 k true) (
 k (((lL r8.2 20).length : Int) == 40))) (
 k false)) (
 k false)) (
 k false))))
def F19 : T19 := P19 F59 F60 F61 F62 F63 F64 
def X19 : Exits := fun i => lookN i [] [(2, [(.ret, xk 90 [(1, .ptr 1 0), (2, .bool false)] [(1, .agg [.str [], .str [], .bool false, .sl 1 true [], .sl 1 true [], .sl 1 true [], .str [], .str [], .sl 4 false [], .bool false, .sl 4 false [], .sl 1 true [], .sl 8 true [], .sl 5 true [], .sl 2 true [], .int .i64 0, .int .i64 0, .int .i64 0, .int .i64 0, .sl 2 true [], .sl 1 true [], .bool false])]), (.exit 0, xk 90 [(1, .ptr 1 0)] [(1, .agg [.str [], .str [], .bool false, .sl 1 true [], .sl 1 true [], .sl 1 true [], .str [], .str [], .sl 4 false [], .bool false, .sl 4 false [], .sl 1 true [], .sl 8 true [], .sl 5 true [], .sl 2 true [], .int .i64 0, .int .i64 0, .int .i64 0, .int .i64 0, .sl 2 true [], .sl 1 true [], .bool false])])]), (7, [(.ret, xk 90 [(1, .ptr 1 0), (2, .bool false)] [(1, .agg [.str [], .str [], .bool false, .sl 1 true [], .sl 1 true [], .sl 1 true [], .str [], .str [], .sl 4 false [], .bool false, .sl 4 false [], .sl 1 true [], .sl 8 true [], .sl 5 true [], .sl 2 true [], .int .i64 0, .int .i64 0, .int .i64 0, .int .i64 0, .sl 2 true [], .sl 1 true [], .bool false])]), (.exit 2, xk 90 [(1, .ptr 1 0)] [(1, .agg [.str [], .str [], .bool false, .sl 1 true [], .sl 1 true [], .sl 1 true [], .str [], .str [], .sl 4 false [], .bool false, .sl 4 false [], .sl 1 true [], .sl 8 true [], .sl 5 true [], .sl 2 true [], .int .i64 0, .int .i64 0, .int .i64 0, .int .i64 0, .sl 2 true [], .sl 1 true [], .bool false])])])]
abbrev s19 : List (Bool × List CK) := [(true, [.str, .str, .bool, .sl 1 true, .sl 1 true, .sl 1 true, .str, .str, .sl 4 false, .bool, .sl 4 false, .sl 1 true, .sl 8 true, .sl 5 true, .sl 2 true, .int .i64, .int .i64, .int .i64, .int .i64, .sl 2 true, .sl 1 true, .bool])]
def G19 (F : T19) (β : Type) (e : (List UInt8 × List UInt8 × Bool × List V × List V × List V × List UInt8 × List UInt8 × List V × Bool × List V × List V × List V × List V × List V × Int × Int × Int × Int × List V × List V × Bool × Unit) × Unit) (k : V → Option β) : Option β := let a0_0 := e.1; let a0_1 := a0_0.2; let a0_2 := a0_1.2; let a0_3 := a0_2.2; let a0_4 := a0_3.2; let a0_5 := a0_4.2; let a0_6 := a0_5.2; let a0_7 := a0_6.2; let a0_8 := a0_7.2; let a0_9 := a0_8.2; let a0_10 := a0_9.2; let a0_11 := a0_10.2; let a0_12 := a0_11.2; let a0_13 := a0_12.2; let a0_14 := a0_13.2; let a0_15 := a0_14.2; let a0_16 := a0_15.2; let a0_17 := a0_16.2; let a0_18 := a0_17.2; let a0_19 := a0_18.2; let a0_20 := a0_19.2; let a0_21 := a0_20.2; F β a0_0.1 a0_1.1 a0_2.1 a0_3.1 a0_4.1 a0_5.1 a0_6.1 a0_7.1 a0_8.1 a0_9.1 a0_10.1 a0_11.1 a0_12.1 a0_13.1 a0_14.1 a0_15.1 a0_16.1 a0_17.1 a0_18.1 a0_19.1 a0_20.1 a0_21.1 (fun y1 => k (.bool y1))
abbrev W19 (F : T19) : WT := wrap s19 (G19 F)
theorem k19 (F59 : T59) (F60 : T60) (F61 : T61) (F62 : T62) (F63 : T63) (F64 : T64) (β : Type) (e : argsT s19) (k : V → Option β) : fnK cfg (tabL [(59, W59 F59), (60, W60 F60), (61, W61 F61), (62, W62 F62), (63, W63 F63), (64, W64 F64)]) X19 19 Tryz.f19 β (argsEnc s19 e) k = G19 (P19 F59 F60 F61 F62 F63 F64 ) β e k := by kernel_rfl
theorem ok19 : FnOk D 19 (W19 F19) := fn_okW [(59, W59 F59), (60, W60 F60), (61, W61 F61), (62, W62 F62), (63, W63 F63), (64, W64 F64)] X19 (fun _ => rfl) Tryz.func19 rfl (tabL_cons ok59 (tabL_cons ok60 (tabL_cons ok61 (tabL_cons ok62 (tabL_cons ok63 (tabL_cons ok64 tabL_nil)))))) (k19 F59 F60 F61 F62 F63 F64 )

/-- impl.SortAddrs -/
abbrev T141 : Type 1 := (β : Type) → List V → (List V → Option β) → Option β
def F141 : T141 := sortPrK
abbrev s141 : List (Bool × List CK) := [(false, [.sl 2 true])]
def G141 (F : T141) (β : Type) (e : (List V × Unit) × Unit) (k : V → Option β) : Option β := F β e.1.1 (fun y1 => k (.own 0 2 .flat y1))
abbrev W141 (F : T141) : WT := wrap s141 (G141 F)
theorem ok141 : FnOk D 141 (W141 F141) := ok_sortPr (fun _ => rfl)

/-- impl.RanOnce -/
abbrev T74 : Type 1 := (β : Type) → List UInt8 → List UInt8 → Bool → List V → List V → List V → List UInt8 → List UInt8 → List V → Bool → List V → List V → List V → List V → List V → Int → Int → Int → Int → List V → List V → Bool → (Bool → Option β) → Option β
def P74 (F141 : T141) : T74 := fun β p_Addr_Host p_Addr_Path p_Policy_Set p_Policy_Scripts p_Policy_Styles p_Policy_Images p_Policy_Nonce p_Tok_Rest p_Queue p_Ended p_Builder_Nodes p_Builder_Open p_Slots p_Mods p_Entries p_Block p_Inline p_Deferred p_Entered p_Ran p_Log p_Loaded k =>
 F141 _ p_Ran fun l1 =>
 k ((l1.length : Int) == (p_Ran.length : Int))
def F74 : T74 := P74 F141 
abbrev s74 : List (Bool × List CK) := [(true, [.str, .str, .bool, .sl 1 true, .sl 1 true, .sl 1 true, .str, .str, .sl 4 false, .bool, .sl 4 false, .sl 1 true, .sl 8 true, .sl 5 true, .sl 2 true, .int .i64, .int .i64, .int .i64, .int .i64, .sl 2 true, .sl 1 true, .bool])]
def G74 (F : T74) (β : Type) (e : (List UInt8 × List UInt8 × Bool × List V × List V × List V × List UInt8 × List UInt8 × List V × Bool × List V × List V × List V × List V × List V × Int × Int × Int × Int × List V × List V × Bool × Unit) × Unit) (k : V → Option β) : Option β := let a0_0 := e.1; let a0_1 := a0_0.2; let a0_2 := a0_1.2; let a0_3 := a0_2.2; let a0_4 := a0_3.2; let a0_5 := a0_4.2; let a0_6 := a0_5.2; let a0_7 := a0_6.2; let a0_8 := a0_7.2; let a0_9 := a0_8.2; let a0_10 := a0_9.2; let a0_11 := a0_10.2; let a0_12 := a0_11.2; let a0_13 := a0_12.2; let a0_14 := a0_13.2; let a0_15 := a0_14.2; let a0_16 := a0_15.2; let a0_17 := a0_16.2; let a0_18 := a0_17.2; let a0_19 := a0_18.2; let a0_20 := a0_19.2; let a0_21 := a0_20.2; F β a0_0.1 a0_1.1 a0_2.1 a0_3.1 a0_4.1 a0_5.1 a0_6.1 a0_7.1 a0_8.1 a0_9.1 a0_10.1 a0_11.1 a0_12.1 a0_13.1 a0_14.1 a0_15.1 a0_16.1 a0_17.1 a0_18.1 a0_19.1 a0_20.1 a0_21.1 (fun y1 => k (.bool y1))
abbrev W74 (F : T74) : WT := wrap s74 (G74 F)
theorem k74 (F141 : T141) (β : Type) (e : argsT s74) (k : V → Option β) : fnK cfg (tabL [(141, W141 F141)]) noX 74 Tryz.f74 β (argsEnc s74 e) k = G74 (P74 F141 ) β e k := by kernel_rfl
theorem ok74 : FnOk D 74 (W74 F74) := fn_okW [(141, W141 F141)] noX (fun _ => rfl) Tryz.func74 rfl (tabL_cons ok141 tabL_nil) (k74 F141 )

/-- impl.InRange -/
abbrev T142 : Type 1 := (β : Type) → Int → Int → Int → (Bool → Option β) → Option β
def P142 : T142 := fun β n low high k =>
 br (decide (low ≤ n)) (
 k (decide (n ≤ high))) (
 k false)
def F142 : T142 := P142 
abbrev s142 : List (Bool × List CK) := [(false, [.int .i64]), (false, [.int .i64]), (false, [.int .i64])]
def G142 (F : T142) (β : Type) (e : (Int × Unit) × (Int × Unit) × (Int × Unit) × Unit) (k : V → Option β) : Option β := F β e.1.1 e.2.1.1 e.2.2.1.1 (fun y1 => k (.bool y1))
abbrev W142 (F : T142) : WT := wrap s142 (G142 F)
theorem k142 (β : Type) (e : argsT s142) (k : V → Option β) : fnK cfg (tabL []) noX 142 Tryz.f142 β (argsEnc s142 e) k = G142 (P142 ) β e k := by kernel_rfl
theorem ok142 : FnOk D 142 (W142 F142) := fn_okW [] noX (fun _ => rfl) Tryz.func142 rfl (tabL_nil) (k142 )

/-- impl.IsName -/
abbrev T143 : Type 1 := (β : Type) → List UInt8 → (Bool → Option β) → Option β
def P143 (F142 : T142) : T143 := fun β s k =>
 whileK (fun s1 =>
 br (decide ((lI s1 1) < ((lS s1 0).length : Int))) (
 idxS (lS s1 0) (lI s1 1) fun b2 =>
 br (decide (b2 < 97)) (
 some (.inr (0, [.s (lS s1 0), .b false]))) (
 idxS (lS s1 0) (lI s1 1) fun b3 =>
 br (decide (b3 > 122)) (
 some (.inr (0, [.s (lS s1 0), .b false]))) (
 some (.inl [.s (lS s1 0), .i (IntKind.wrap .i64 ((lI s1 1) + 1))])))) (
 some (.inr (1, [.s (lS s1 0)])))) [.s s, .i 0] fun (r4 : Nat × List Leaf) =>
 if r4.1 = 0 then
 k (lB r4.2 1)
 else
 F142 _ ((lS r4.2 0).length : Int) 1 8 fun b5 =>
 k b5
def F143 : T143 := P143 F142 
def X143 : Exits := fun i => lookN i [] [(2, [(.ret, xk 23 [(0, .str []), (2, .bool false)] []), (.exit 0, xk 23 [(0, .str [])] [])])]
abbrev s143 : List (Bool × List CK) := [(false, [.str])]
def G143 (F : T143) (β : Type) (e : (List UInt8 × Unit) × Unit) (k : V → Option β) : Option β := F β e.1.1 (fun y1 => k (.bool y1))
abbrev W143 (F : T143) : WT := wrap s143 (G143 F)
theorem k143 (F142 : T142) (β : Type) (e : argsT s143) (k : V → Option β) : fnK cfg (tabL [(142, W142 F142)]) X143 143 Tryz.f143 β (argsEnc s143 e) k = G143 (P143 F142 ) β e k := by kernel_rfl
theorem ok143 : FnOk D 143 (W143 F143) := fn_okW [(142, W142 F142)] X143 (fun _ => rfl) Tryz.func143 rfl (tabL_cons ok142 tabL_nil) (k143 F142 )

/-- impl.IsVoid -/
abbrev T185 : Type 1 := (β : Type) → List UInt8 → (Bool → Option β) → Option β
def P185 : T185 := fun β name k =>
 br (name == [105, 109, 103]) (
 k true) (
 k (name == [108, 105, 110, 107]))
def F185 : T185 := P185 
abbrev s185 : List (Bool × List CK) := [(false, [.str])]
def G185 (F : T185) (β : Type) (e : (List UInt8 × Unit) × Unit) (k : V → Option β) : Option β := F β e.1.1 (fun y1 => k (.bool y1))
abbrev W185 (F : T185) : WT := wrap s185 (G185 F)
theorem k185 (β : Type) (e : argsT s185) (k : V → Option β) : fnK cfg (tabL []) noX 185 Tryz.f185 β (argsEnc s185 e) k = G185 (P185 ) β e k := by kernel_rfl
theorem ok185 : FnOk D 185 (W185 F185) := fn_okW [] noX (fun _ => rfl) Tryz.func185 rfl (tabL_nil) (k185 )

/-- impl.isOpenable -/
abbrev T144 : Type 1 := (β : Type) → List V → List V → Int → (Bool → Option β) → Option β
def P144 (F185 : T185) : T144 := fun β b_Nodes b_Open n k =>
 br (decide (n ≥ 0)) (
 br (decide (n < (b_Nodes.length : Int))) (
 chk (0 ≤ n) <|
 idx true [.str, .str, .int .i64, .sl 2 true] b_Nodes n.toNat fun (e1 : List UInt8 × List UInt8 × Int × List V × Unit) =>
 br (!(e1.1 == [])) (
 chk (0 ≤ n) <|
 idx true [.str, .str, .int .i64, .sl 2 true] b_Nodes n.toNat fun (e2 : List UInt8 × List UInt8 × Int × List V × Unit) =>
 F185 _ e2.1 fun b3 =>
 k (!b3)) (
 k false)) (
 k false)) (
 k false)
def F144 : T144 := P144 F185 
abbrev s144 : List (Bool × List CK) := [(true, [.sl 4 false, .sl 1 true]), (false, [.int .i64])]
def G144 (F : T144) (β : Type) (e : (List V × List V × Unit) × (Int × Unit) × Unit) (k : V → Option β) : Option β := F β e.1.1 e.1.2.1 e.2.1.1 (fun y1 => k (.bool y1))
abbrev W144 (F : T144) : WT := wrap s144 (G144 F)
theorem k144 (F185 : T185) (β : Type) (e : argsT s144) (k : V → Option β) : fnK cfg (tabL [(185, W185 F185)]) noX 144 Tryz.f144 β (argsEnc s144 e) k = G144 (P144 F185 ) β e k := by kernel_rfl
theorem ok144 : FnOk D 144 (W144 F144) := fn_okW [(185, W185 F185)] noX (fun _ => rfl) Tryz.func144 rfl (tabL_cons ok185 tabL_nil) (k144 F185 )

/-- impl.IsBuilder -/
abbrev T75 : Type 1 := (β : Type) → List V → List V → (Bool → Option β) → Option β
def P75 (F142 : T142) (F143 : T143) (F144 : T144) : T75 := fun β b_Nodes b_Open k =>
 F142 _ (b_Nodes.length : Int) 1 40 fun b1 =>
 br (!b1) (
 k false) (
 F142 _ (b_Open.length : Int) 1 8 fun b2 =>
 br (!b2) (
 k false) (
 idx false [.int .i64] b_Open 0 fun (e3 : Int × Unit) =>
 br (e3.1 != 0) (
 k false) (
 idx true [.str, .str, .int .i64, .sl 2 true] b_Nodes 0 fun (e4 : List UInt8 × List UInt8 × Int × List V × Unit) =>
 br (!(e4.1 == [112, 97, 103, 101])) (
 k false) (
 br (e4.2.2.1 != (-1)) (
 k false) (
 br (!(e4.2.1 == [])) (
 k false) (
 br (decide ((e4.2.2.2.1.length : Int) > 0)) (
 k false) (
 whileK (fun s5 =>
 br (decide ((lI s5 2) < (lI s5 1))) (
 chk (0 ≤ (lI s5 2)) <|
 idx true [.str, .str, .int .i64, .sl 2 true] (lL s5 0) ((lI s5 2).toNat) fun (e6 : List UInt8 × List UInt8 × Int × List V × Unit) =>
 br ((lI s5 2) == 0) (
 some (.inl [.l (lL s5 0), .i (lI s5 1), .i (IntKind.wrap .i64 ((lI s5 2) + 1)), .l (lL s5 3), .l (lL s5 4)])) (
 F143 _ e6.1 fun b7 =>
 br b7 (
 br (e6.1 == []) (
 br (!(e6.2.1 == [])) (
 br (decide (e6.2.2.1 ≥ (lI s5 2))) (
 some (.inr (0, [.b false, .l (lL s5 3), .l (lL s5 4)]))) (
 F144 _ (lL s5 3) (lL s5 4) e6.2.2.1 fun b8 =>
 br (!b8) (
 some (.inr (0, [.b false, .l (lL s5 3), .l (lL s5 4)]))) (
 br (!(e6.2.1 == [])) (
 br (!((e6.2.2.2.1.length : Int) == 0)) (
 some (.inr (0, [.b false, .l (lL s5 3), .l (lL s5 4)]))) (
 some (.inl [.l (lL s5 0), .i (lI s5 1), .i (IntKind.wrap .i64 ((lI s5 2) + 1)), .l (lL s5 3), .l (lL s5 4)]))) (
 some (.inl [.l (lL s5 0), .i (lI s5 1), .i (IntKind.wrap .i64 ((lI s5 2) + 1)), .l (lL s5 3), .l (lL s5 4)]))))) (
 br (decide (e6.2.2.1 ≥ (lI s5 2))) (
 some (.inr (0, [.b false, .l (lL s5 3), .l (lL s5 4)]))) (
 F144 _ (lL s5 3) (lL s5 4) e6.2.2.1 fun b9 =>
 br (!b9) (
 some (.inr (0, [.b false, .l (lL s5 3), .l (lL s5 4)]))) (
 br (!(e6.2.1 == [])) (
 some (.inr (0, [.b false, .l (lL s5 3), .l (lL s5 4)]))) (
 some (.inl [.l (lL s5 0), .i (lI s5 1), .i (IntKind.wrap .i64 ((lI s5 2) + 1)), .l (lL s5 3), .l (lL s5 4)])))))) (
 br (decide (e6.2.2.1 ≥ (lI s5 2))) (
 some (.inr (0, [.b false, .l (lL s5 3), .l (lL s5 4)]))) (
 F144 _ (lL s5 3) (lL s5 4) e6.2.2.1 fun b10 =>
 br (!b10) (
 some (.inr (0, [.b false, .l (lL s5 3), .l (lL s5 4)]))) (
 br (!(e6.2.1 == [])) (
 some (.inr (0, [.b false, .l (lL s5 3), .l (lL s5 4)]))) (
 some (.inl [.l (lL s5 0), .i (lI s5 1), .i (IntKind.wrap .i64 ((lI s5 2) + 1)), .l (lL s5 3), .l (lL s5 4)])))))) (
 br (e6.1 == []) (
 br (!(e6.2.1 == [])) (
 br (decide (e6.2.2.1 ≥ (lI s5 2))) (
 some (.inr (0, [.b false, .l (lL s5 3), .l (lL s5 4)]))) (
 F144 _ (lL s5 3) (lL s5 4) e6.2.2.1 fun b11 =>
 br (!b11) (
 some (.inr (0, [.b false, .l (lL s5 3), .l (lL s5 4)]))) (
 br (!((e6.2.2.2.1.length : Int) == 0)) (
 some (.inr (0, [.b false, .l (lL s5 3), .l (lL s5 4)]))) (
 some (.inl [.l (lL s5 0), .i (lI s5 1), .i (IntKind.wrap .i64 ((lI s5 2) + 1)), .l (lL s5 3), .l (lL s5 4)]))))) (
 br (decide (e6.2.2.1 ≥ (lI s5 2))) (
 some (.inr (0, [.b false, .l (lL s5 3), .l (lL s5 4)]))) (
 F144 _ (lL s5 3) (lL s5 4) e6.2.2.1 fun b12 =>
 br (!b12) (
 some (.inr (0, [.b false, .l (lL s5 3), .l (lL s5 4)]))) (
 some (.inr (0, [.b false, .l (lL s5 3), .l (lL s5 4)])))))) (
 br (decide (e6.2.2.1 ≥ (lI s5 2))) (
 some (.inr (0, [.b false, .l (lL s5 3), .l (lL s5 4)]))) (
 F144 _ (lL s5 3) (lL s5 4) e6.2.2.1 fun b13 =>
 br (!b13) (
 some (.inr (0, [.b false, .l (lL s5 3), .l (lL s5 4)]))) (
 some (.inr (0, [.b false, .l (lL s5 3), .l (lL s5 4)])))))))) (
 some (.inr (1, [.l (lL s5 3), .l (lL s5 4)])))) [.l b_Nodes, .i (b_Nodes.length : Int), .i 0, .l b_Nodes, .l b_Open] fun (r14 : Nat × List Leaf) =>
 if r14.1 = 0 then
 k (lB r14.2 0)
 else
 whileK (fun s15 =>
 br (decide ((lI s15 2) < (lI s15 1))) (
 chk (0 ≤ (lI s15 2)) <|
 idx false [.int .i64] (lL s15 0) ((lI s15 2).toNat) fun (e16 : Int × Unit) =>
 br (decide ((lI s15 2) > 0)) (
 F144 _ (lL s15 3) (lL s15 4) e16.1 fun b17 =>
 br (!b17) (
 some (.inr (0, [.b false]))) (
 chk (0 ≤ e16.1) <|
 idx true [.str, .str, .int .i64, .sl 2 true] (lL s15 3) e16.1.toNat fun (e18 : List UInt8 × List UInt8 × Int × List V × Unit) =>
 chk (0 ≤ IntKind.wrap .i64 ((lI s15 2) - 1)) <|
 idx false [.int .i64] (lL s15 4) ((IntKind.wrap .i64 ((lI s15 2) - 1)).toNat) fun (e19 : Int × Unit) =>
 br (e18.2.2.1 != e19.1) (
 some (.inr (0, [.b false]))) (
 some (.inl [.l (lL s15 0), .i (lI s15 1), .i (IntKind.wrap .i64 ((lI s15 2) + 1)), .l (lL s15 3), .l (lL s15 4)])))) (
 some (.inl [.l (lL s15 0), .i (lI s15 1), .i (IntKind.wrap .i64 ((lI s15 2) + 1)), .l (lL s15 3), .l (lL s15 4)]))) (
 some (.inr (1, [])))) [.l (lL r14.2 1), .i ((lL r14.2 1).length : Int), .i 0, .l (lL r14.2 0), .l (lL r14.2 1)] fun (r20 : Nat × List Leaf) =>
 if r20.1 = 0 then
 k (lB r20.2 0)
 else
 k true)))))))
def F75 : T75 := P75 F142 F143 F144 
def X75 : Exits := fun i => lookN i [] [(7, [(.ret, xk 136 [(1, .ptr 1 0), (2, .bool false)] [(1, .agg [.sl 4 false [], .sl 1 true []])]), (.exit 0, xk 136 [(1, .ptr 1 0)] [(1, .agg [.sl 4 false [], .sl 1 true []])])]), (16, [(.ret, xk 136 [(2, .bool false)] []), (.exit 2, xk 136 [] [])])]
abbrev s75 : List (Bool × List CK) := [(true, [.sl 4 false, .sl 1 true])]
def G75 (F : T75) (β : Type) (e : (List V × List V × Unit) × Unit) (k : V → Option β) : Option β := F β e.1.1 e.1.2.1 (fun y1 => k (.bool y1))
abbrev W75 (F : T75) : WT := wrap s75 (G75 F)
theorem k75 (F142 : T142) (F143 : T143) (F144 : T144) (β : Type) (e : argsT s75) (k : V → Option β) : fnK cfg (tabL [(142, W142 F142), (143, W143 F143), (144, W144 F144)]) X75 75 Tryz.f75 β (argsEnc s75 e) k = G75 (P75 F142 F143 F144 ) β e k := by kernel_rfl
theorem ok75 : FnOk D 75 (W75 F75) := fn_okW [(142, W142 F142), (143, W143 F143), (144, W144 F144)] X75 (fun _ => rfl) Tryz.func75 rfl (tabL_cons ok142 (tabL_cons ok143 (tabL_cons ok144 tabL_nil))) (k75 F142 F143 F144 )

/-- impl.IsParsed -/
abbrev T76 : Type 1 := (β : Type) → List UInt8 → List UInt8 → Bool → List V → List V → List V → List UInt8 → List UInt8 → List V → Bool → List V → List V → List V → List V → List V → Int → Int → Int → Int → List V → List V → Bool → (Bool → Option β) → Option β
def P76 : T76 := fun β p_Addr_Host p_Addr_Path p_Policy_Set p_Policy_Scripts p_Policy_Styles p_Policy_Images p_Policy_Nonce p_Tok_Rest p_Queue p_Ended p_Builder_Nodes p_Builder_Open p_Slots p_Mods p_Entries p_Block p_Inline p_Deferred p_Entered p_Ran p_Log p_Loaded k =>
 br p_Ended (
 br ((p_Queue.length : Int) == 0) (
 br (p_Block == 0) (
 k (p_Inline == 0)) (
 k false)) (
 k false)) (
 k false)
def F76 : T76 := P76 
abbrev s76 : List (Bool × List CK) := [(true, [.str, .str, .bool, .sl 1 true, .sl 1 true, .sl 1 true, .str, .str, .sl 4 false, .bool, .sl 4 false, .sl 1 true, .sl 8 true, .sl 5 true, .sl 2 true, .int .i64, .int .i64, .int .i64, .int .i64, .sl 2 true, .sl 1 true, .bool])]
def G76 (F : T76) (β : Type) (e : (List UInt8 × List UInt8 × Bool × List V × List V × List V × List UInt8 × List UInt8 × List V × Bool × List V × List V × List V × List V × List V × Int × Int × Int × Int × List V × List V × Bool × Unit) × Unit) (k : V → Option β) : Option β := let a0_0 := e.1; let a0_1 := a0_0.2; let a0_2 := a0_1.2; let a0_3 := a0_2.2; let a0_4 := a0_3.2; let a0_5 := a0_4.2; let a0_6 := a0_5.2; let a0_7 := a0_6.2; let a0_8 := a0_7.2; let a0_9 := a0_8.2; let a0_10 := a0_9.2; let a0_11 := a0_10.2; let a0_12 := a0_11.2; let a0_13 := a0_12.2; let a0_14 := a0_13.2; let a0_15 := a0_14.2; let a0_16 := a0_15.2; let a0_17 := a0_16.2; let a0_18 := a0_17.2; let a0_19 := a0_18.2; let a0_20 := a0_19.2; let a0_21 := a0_20.2; F β a0_0.1 a0_1.1 a0_2.1 a0_3.1 a0_4.1 a0_5.1 a0_6.1 a0_7.1 a0_8.1 a0_9.1 a0_10.1 a0_11.1 a0_12.1 a0_13.1 a0_14.1 a0_15.1 a0_16.1 a0_17.1 a0_18.1 a0_19.1 a0_20.1 a0_21.1 (fun y1 => k (.bool y1))
abbrev W76 (F : T76) : WT := wrap s76 (G76 F)
theorem k76 (β : Type) (e : argsT s76) (k : V → Option β) : fnK cfg (tabL []) noX 76 Tryz.f76 β (argsEnc s76 e) k = G76 (P76 ) β e k := by kernel_rfl
theorem ok76 : FnOk D 76 (W76 F76) := fn_okW [] noX (fun _ => rfl) Tryz.func76 rfl (tabL_nil) (k76 )

/-- impl.OpenSlots -/
abbrev T77 : Type 1 := (β : Type) → List UInt8 → List UInt8 → Bool → List V → List V → List V → List UInt8 → List UInt8 → List V → Bool → List V → List V → List V → List V → List V → Int → Int → Int → Int → List V → List V → Bool → (List V → Option β) → Option β
def P77 : T77 := fun β p_Addr_Host p_Addr_Path p_Policy_Set p_Policy_Scripts p_Policy_Styles p_Policy_Images p_Policy_Nonce p_Tok_Rest p_Queue p_Ended p_Builder_Nodes p_Builder_Open p_Slots p_Mods p_Entries p_Block p_Inline p_Deferred p_Entered p_Ran p_Log p_Loaded k =>
 whileK (fun s1 =>
 br (decide ((lI s1 3) < (lI s1 2))) (
 chk (0 ≤ (lI s1 3)) <|
 idx true [.int .i64, .str, .str, .str, .int .i64, .bool, .int .i64, .str] (lL s1 1) ((lI s1 3).toNat) fun (e2 : Int × List UInt8 × List UInt8 × List UInt8 × Int × Bool × Int × List UInt8 × Unit) =>
 br (!e2.2.2.2.2.2.1) (
 chk (((lL s1 0).length + ([.int .i64 (lI s1 3)] : List V).length) * 8 ≤ 140737488355328 ∧ (lL s1 0).length + ([.int .i64 (lI s1 3)] : List V).length ≤ 140737488355328) <|
 some (.inl [.l ((lL s1 0) ++ ([.int .i64 (lI s1 3)] : List V)), .l (lL s1 1), .i (lI s1 2), .i (IntKind.wrap .i64 ((lI s1 3) + 1))])) (
 some (.inl [.l (lL s1 0), .l (lL s1 1), .i (lI s1 2), .i (IntKind.wrap .i64 ((lI s1 3) + 1))]))) (
 some (.inr (0, [.l (lL s1 0)])))) [.l [], .l p_Slots, .i (p_Slots.length : Int), .i 0] fun (r3 : Nat × List Leaf) =>
 k (lL r3.2 0)
def F77 : T77 := P77 
def X77 : Exits := fun i => lookN i [] [(3, [(.exit 0, xk 24 [(3, .own 1000000 1 .flat [])] [])])]
abbrev s77 : List (Bool × List CK) := [(true, [.str, .str, .bool, .sl 1 true, .sl 1 true, .sl 1 true, .str, .str, .sl 4 false, .bool, .sl 4 false, .sl 1 true, .sl 8 true, .sl 5 true, .sl 2 true, .int .i64, .int .i64, .int .i64, .int .i64, .sl 2 true, .sl 1 true, .bool])]
def G77 (F : T77) (β : Type) (e : (List UInt8 × List UInt8 × Bool × List V × List V × List V × List UInt8 × List UInt8 × List V × Bool × List V × List V × List V × List V × List V × Int × Int × Int × Int × List V × List V × Bool × Unit) × Unit) (k : V → Option β) : Option β := let a0_0 := e.1; let a0_1 := a0_0.2; let a0_2 := a0_1.2; let a0_3 := a0_2.2; let a0_4 := a0_3.2; let a0_5 := a0_4.2; let a0_6 := a0_5.2; let a0_7 := a0_6.2; let a0_8 := a0_7.2; let a0_9 := a0_8.2; let a0_10 := a0_9.2; let a0_11 := a0_10.2; let a0_12 := a0_11.2; let a0_13 := a0_12.2; let a0_14 := a0_13.2; let a0_15 := a0_14.2; let a0_16 := a0_15.2; let a0_17 := a0_16.2; let a0_18 := a0_17.2; let a0_19 := a0_18.2; let a0_20 := a0_19.2; let a0_21 := a0_20.2; F β a0_0.1 a0_1.1 a0_2.1 a0_3.1 a0_4.1 a0_5.1 a0_6.1 a0_7.1 a0_8.1 a0_9.1 a0_10.1 a0_11.1 a0_12.1 a0_13.1 a0_14.1 a0_15.1 a0_16.1 a0_17.1 a0_18.1 a0_19.1 a0_20.1 a0_21.1 (fun y1 => k (.own 0 1 .flat y1))
abbrev W77 (F : T77) : WT := wrap s77 (G77 F)
theorem k77 (β : Type) (e : argsT s77) (k : V → Option β) : fnK cfg (tabL []) X77 77 Tryz.f77 β (argsEnc s77 e) k = G77 (P77 ) β e k := by kernel_rfl
theorem ok77 : FnOk D 77 (W77 F77) := fn_okW [] X77 (fun _ => rfl) Tryz.func77 rfl (tabL_nil) (k77 )

/-- impl.OpenMods -/
abbrev T78 : Type 1 := (β : Type) → List UInt8 → List UInt8 → Bool → List V → List V → List V → List UInt8 → List UInt8 → List V → Bool → List V → List V → List V → List V → List V → Int → Int → Int → Int → List V → List V → Bool → (List V → Option β) → Option β
def P78 : T78 := fun β p_Addr_Host p_Addr_Path p_Policy_Set p_Policy_Scripts p_Policy_Styles p_Policy_Images p_Policy_Nonce p_Tok_Rest p_Queue p_Ended p_Builder_Nodes p_Builder_Open p_Slots p_Mods p_Entries p_Block p_Inline p_Deferred p_Entered p_Ran p_Log p_Loaded k =>
 whileK (fun s1 =>
 br (decide ((lI s1 3) < (lI s1 2))) (
 chk (0 ≤ (lI s1 3)) <|
 idx true [.str, .str, .bool, .int .i64, .str] (lL s1 1) ((lI s1 3).toNat) fun (e2 : List UInt8 × List UInt8 × Bool × Int × List UInt8 × Unit) =>
 br (!e2.2.2.1) (
 chk (((lL s1 0).length + ([.int .i64 (lI s1 3)] : List V).length) * 8 ≤ 140737488355328 ∧ (lL s1 0).length + ([.int .i64 (lI s1 3)] : List V).length ≤ 140737488355328) <|
 some (.inl [.l ((lL s1 0) ++ ([.int .i64 (lI s1 3)] : List V)), .l (lL s1 1), .i (lI s1 2), .i (IntKind.wrap .i64 ((lI s1 3) + 1))])) (
 some (.inl [.l (lL s1 0), .l (lL s1 1), .i (lI s1 2), .i (IntKind.wrap .i64 ((lI s1 3) + 1))]))) (
 some (.inr (0, [.l (lL s1 0)])))) [.l [], .l p_Mods, .i (p_Mods.length : Int), .i 0] fun (r3 : Nat × List Leaf) =>
 k (lL r3.2 0)
def F78 : T78 := P78 
def X78 : Exits := fun i => lookN i [] [(3, [(.exit 0, xk 24 [(3, .own 1000000 1 .flat [])] [])])]
abbrev s78 : List (Bool × List CK) := [(true, [.str, .str, .bool, .sl 1 true, .sl 1 true, .sl 1 true, .str, .str, .sl 4 false, .bool, .sl 4 false, .sl 1 true, .sl 8 true, .sl 5 true, .sl 2 true, .int .i64, .int .i64, .int .i64, .int .i64, .sl 2 true, .sl 1 true, .bool])]
def G78 (F : T78) (β : Type) (e : (List UInt8 × List UInt8 × Bool × List V × List V × List V × List UInt8 × List UInt8 × List V × Bool × List V × List V × List V × List V × List V × Int × Int × Int × Int × List V × List V × Bool × Unit) × Unit) (k : V → Option β) : Option β := let a0_0 := e.1; let a0_1 := a0_0.2; let a0_2 := a0_1.2; let a0_3 := a0_2.2; let a0_4 := a0_3.2; let a0_5 := a0_4.2; let a0_6 := a0_5.2; let a0_7 := a0_6.2; let a0_8 := a0_7.2; let a0_9 := a0_8.2; let a0_10 := a0_9.2; let a0_11 := a0_10.2; let a0_12 := a0_11.2; let a0_13 := a0_12.2; let a0_14 := a0_13.2; let a0_15 := a0_14.2; let a0_16 := a0_15.2; let a0_17 := a0_16.2; let a0_18 := a0_17.2; let a0_19 := a0_18.2; let a0_20 := a0_19.2; let a0_21 := a0_20.2; F β a0_0.1 a0_1.1 a0_2.1 a0_3.1 a0_4.1 a0_5.1 a0_6.1 a0_7.1 a0_8.1 a0_9.1 a0_10.1 a0_11.1 a0_12.1 a0_13.1 a0_14.1 a0_15.1 a0_16.1 a0_17.1 a0_18.1 a0_19.1 a0_20.1 a0_21.1 (fun y1 => k (.own 0 1 .flat y1))
abbrev W78 (F : T78) : WT := wrap s78 (G78 F)
theorem k78 (β : Type) (e : argsT s78) (k : V → Option β) : fnK cfg (tabL []) X78 78 Tryz.f78 β (argsEnc s78 e) k = G78 (P78 ) β e k := by kernel_rfl
theorem ok78 : FnOk D 78 (W78 F78) := fn_okW [] X78 (fun _ => rfl) Tryz.func78 rfl (tabL_nil) (k78 )

/-- slices.Index[[]string,string] -/
abbrev T145 : Type 1 := (β : Type) → List V → List UInt8 → (Int → Option β) → Option β
def P145 : T145 := fun β s v k =>
 whileK (fun s1 =>
 br (decide ((lI s1 3) < (lI s1 2))) (
 chk (0 ≤ (lI s1 3)) <|
 idx false [.str] (lL s1 0) ((lI s1 3).toNat) fun (e2 : List UInt8 × Unit) =>
 br ((lS s1 1) == e2.1) (
 some (.inr (0, [.i (lI s1 3)]))) (
 some (.inl [.l (lL s1 0), .s (lS s1 1), .i (lI s1 2), .i (IntKind.wrap .i64 ((lI s1 3) + 1))]))) (
 some (.inr (1, [])))) [.l s, .s v, .i (s.length : Int), .i 0] fun (r3 : Nat × List Leaf) =>
 if r3.1 = 0 then
 k (lI r3.2 0)
 else
 k (-1)
def F145 : T145 := P145 
def X145 : Exits := fun i => lookN i [] [(2, [(.ret, xk 19 [(4, .int .i64 0)] []), (.exit 0, xk 19 [] [])])]
abbrev s145 : List (Bool × List CK) := [(false, [.sl 1 true]), (false, [.str])]
def G145 (F : T145) (β : Type) (e : (List V × Unit) × (List UInt8 × Unit) × Unit) (k : V → Option β) : Option β := F β e.1.1 e.2.1.1 (fun y1 => k (.int .i64 y1))
abbrev W145 (F : T145) : WT := wrap s145 (G145 F)
theorem k145 (β : Type) (e : argsT s145) (k : V → Option β) : fnK cfg (tabL []) X145 145 Tryz.f145 β (argsEnc s145 e) k = G145 (P145 ) β e k := by kernel_rfl
theorem ok145 : FnOk D 145 (W145 F145) := fn_okW [] X145 (fun _ => rfl) Tryz.func145 rfl (tabL_nil) (k145 )

/-- slices.Contains[[]string,string] -/
abbrev T79 : Type 1 := (β : Type) → List V → List UInt8 → (Bool → Option β) → Option β
def P79 (F145 : T145) : T79 := fun β s v k =>
 F145 _ s v fun n1 =>
 k (decide (n1 ≥ 0))
def F79 : T79 := P79 F145 
abbrev s79 : List (Bool × List CK) := [(false, [.sl 1 true]), (false, [.str])]
def G79 (F : T79) (β : Type) (e : (List V × Unit) × (List UInt8 × Unit) × Unit) (k : V → Option β) : Option β := F β e.1.1 e.2.1.1 (fun y1 => k (.bool y1))
abbrev W79 (F : T79) : WT := wrap s79 (G79 F)
theorem k79 (F145 : T145) (β : Type) (e : argsT s79) (k : V → Option β) : fnK cfg (tabL [(145, W145 F145)]) noX 79 Tryz.f79 β (argsEnc s79 e) k = G79 (P79 F145 ) β e k := by kernel_rfl
theorem ok79 : FnOk D 79 (W79 F79) := fn_okW [(145, W145 F145)] noX (fun _ => rfl) Tryz.func79 rfl (tabL_cons ok145 tabL_nil) (k79 F145 )

/-- impl.PageSound -/
abbrev T21 : Type 1 := (β : Type) → List UInt8 → List UInt8 → Bool → List V → List V → List V → List UInt8 → List UInt8 → List V → Bool → List V → List V → List V → List V → List V → Int → Int → Int → Int → List V → List V → Bool → (Bool → Option β) → Option β
def P21 (F74 : T74) (F75 : T75) (F76 : T76) (F77 : T77) (F78 : T78) (F79 : T79) : T21 := fun β p_Addr_Host p_Addr_Path p_Policy_Set p_Policy_Scripts p_Policy_Styles p_Policy_Images p_Policy_Nonce p_Tok_Rest p_Queue p_Ended p_Builder_Nodes p_Builder_Open p_Slots p_Mods p_Entries p_Block p_Inline p_Deferred p_Entered p_Ran p_Log p_Loaded k =>
 whileK (fun s1 =>
 br (decide ((lI s1 2) < (lI s1 1))) (
 chk (0 ≤ (lI s1 2)) <|
 idx true [.int .i64, .str, .str, .str, .int .i64, .bool, .int .i64, .str] (lL s1 0) ((lI s1 2).toNat) fun (e2 : Int × List UInt8 × List UInt8 × List UInt8 × Int × Bool × Int × List UInt8 × Unit) =>
 br (e2.2.2.2.2.2.2.1 != 1) (
 br (!(e2.2.2.2.2.2.2.2.1 == [])) (
 some (.inr (0, [.b false, .s (lS s1 3), .s (lS s1 4), .b (lB s1 5), .l (lL s1 6), .l (lL s1 7), .l (lL s1 8), .s (lS s1 9), .s (lS s1 10), .l (lL s1 11), .b (lB s1 12), .l (lL s1 13), .l (lL s1 14), .l (lL s1 15), .l (lL s1 16), .l (lL s1 17), .i (lI s1 18), .i (lI s1 19), .i (lI s1 20), .i (lI s1 21), .l (lL s1 22), .l (lL s1 23), .b (lB s1 24)]))) (
 some (.inl [.l (lL s1 0), .i (lI s1 1), .i (IntKind.wrap .i64 ((lI s1 2) + 1)), .s (lS s1 3), .s (lS s1 4), .b (lB s1 5), .l (lL s1 6), .l (lL s1 7), .l (lL s1 8), .s (lS s1 9), .s (lS s1 10), .l (lL s1 11), .b (lB s1 12), .l (lL s1 13), .l (lL s1 14), .l (lL s1 15), .l (lL s1 16), .l (lL s1 17), .i (lI s1 18), .i (lI s1 19), .i (lI s1 20), .i (lI s1 21), .l (lL s1 22), .l (lL s1 23), .b (lB s1 24)]))) (
 some (.inl [.l (lL s1 0), .i (lI s1 1), .i (IntKind.wrap .i64 ((lI s1 2) + 1)), .s (lS s1 3), .s (lS s1 4), .b (lB s1 5), .l (lL s1 6), .l (lL s1 7), .l (lL s1 8), .s (lS s1 9), .s (lS s1 10), .l (lL s1 11), .b (lB s1 12), .l (lL s1 13), .l (lL s1 14), .l (lL s1 15), .l (lL s1 16), .l (lL s1 17), .i (lI s1 18), .i (lI s1 19), .i (lI s1 20), .i (lI s1 21), .l (lL s1 22), .l (lL s1 23), .b (lB s1 24)]))) (
 some (.inr (1, [.s (lS s1 3), .s (lS s1 4), .b (lB s1 5), .l (lL s1 6), .l (lL s1 7), .l (lL s1 8), .s (lS s1 9), .s (lS s1 10), .l (lL s1 11), .b (lB s1 12), .l (lL s1 13), .l (lL s1 14), .l (lL s1 15), .l (lL s1 16), .l (lL s1 17), .i (lI s1 18), .i (lI s1 19), .i (lI s1 20), .i (lI s1 21), .l (lL s1 22), .l (lL s1 23), .b (lB s1 24)])))) [.l p_Slots, .i (p_Slots.length : Int), .i 0, .s p_Addr_Host, .s p_Addr_Path, .b p_Policy_Set, .l p_Policy_Scripts, .l p_Policy_Styles, .l p_Policy_Images, .s p_Policy_Nonce, .s p_Tok_Rest, .l p_Queue, .b p_Ended, .l p_Builder_Nodes, .l p_Builder_Open, .l p_Slots, .l p_Mods, .l p_Entries, .i p_Block, .i p_Inline, .i p_Deferred, .i p_Entered, .l p_Ran, .l p_Log, .b p_Loaded] fun (r3 : Nat × List Leaf) =>
 if r3.1 = 0 then
 k (lB r3.2 0)
 else
 whileK (fun s4 =>
 br (decide ((lI s4 2) < (lI s4 1))) (
 chk (0 ≤ (lI s4 2)) <|
 idx true [.str, .str, .bool, .int .i64, .str] (lL s4 0) ((lI s4 2).toNat) fun (e5 : List UInt8 × List UInt8 × Bool × Int × List UInt8 × Unit) =>
 br (e5.2.2.2.1 != 1) (
 br (!(e5.2.2.2.2.1 == [])) (
 some (.inr (0, [.b false, .s (lS s4 3), .s (lS s4 4), .b (lB s4 5), .l (lL s4 6), .l (lL s4 7), .l (lL s4 8), .s (lS s4 9), .s (lS s4 10), .l (lL s4 11), .b (lB s4 12), .l (lL s4 13), .l (lL s4 14), .l (lL s4 15), .l (lL s4 16), .l (lL s4 17), .i (lI s4 18), .i (lI s4 19), .i (lI s4 20), .i (lI s4 21), .l (lL s4 22), .l (lL s4 23), .b (lB s4 24)]))) (
 some (.inl [.l (lL s4 0), .i (lI s4 1), .i (IntKind.wrap .i64 ((lI s4 2) + 1)), .s (lS s4 3), .s (lS s4 4), .b (lB s4 5), .l (lL s4 6), .l (lL s4 7), .l (lL s4 8), .s (lS s4 9), .s (lS s4 10), .l (lL s4 11), .b (lB s4 12), .l (lL s4 13), .l (lL s4 14), .l (lL s4 15), .l (lL s4 16), .l (lL s4 17), .i (lI s4 18), .i (lI s4 19), .i (lI s4 20), .i (lI s4 21), .l (lL s4 22), .l (lL s4 23), .b (lB s4 24)]))) (
 some (.inl [.l (lL s4 0), .i (lI s4 1), .i (IntKind.wrap .i64 ((lI s4 2) + 1)), .s (lS s4 3), .s (lS s4 4), .b (lB s4 5), .l (lL s4 6), .l (lL s4 7), .l (lL s4 8), .s (lS s4 9), .s (lS s4 10), .l (lL s4 11), .b (lB s4 12), .l (lL s4 13), .l (lL s4 14), .l (lL s4 15), .l (lL s4 16), .l (lL s4 17), .i (lI s4 18), .i (lI s4 19), .i (lI s4 20), .i (lI s4 21), .l (lL s4 22), .l (lL s4 23), .b (lB s4 24)]))) (
 some (.inr (1, [.s (lS s4 3), .s (lS s4 4), .b (lB s4 5), .l (lL s4 6), .l (lL s4 7), .l (lL s4 8), .s (lS s4 9), .s (lS s4 10), .l (lL s4 11), .b (lB s4 12), .l (lL s4 13), .l (lL s4 14), .l (lL s4 15), .l (lL s4 16), .l (lL s4 17), .i (lI s4 18), .i (lI s4 19), .i (lI s4 20), .i (lI s4 21), .l (lL s4 22), .l (lL s4 23), .b (lB s4 24)])))) [.l (lL r3.2 13), .i ((lL r3.2 13).length : Int), .i 0, .s (lS r3.2 0), .s (lS r3.2 1), .b (lB r3.2 2), .l (lL r3.2 3), .l (lL r3.2 4), .l (lL r3.2 5), .s (lS r3.2 6), .s (lS r3.2 7), .l (lL r3.2 8), .b (lB r3.2 9), .l (lL r3.2 10), .l (lL r3.2 11), .l (lL r3.2 12), .l (lL r3.2 13), .l (lL r3.2 14), .i (lI r3.2 15), .i (lI r3.2 16), .i (lI r3.2 17), .i (lI r3.2 18), .l (lL r3.2 19), .l (lL r3.2 20), .b (lB r3.2 21)] fun (r6 : Nat × List Leaf) =>
 if r6.1 = 0 then
 k (lB r6.2 0)
 else
 F74 _ (lS r6.2 0) (lS r6.2 1) (lB r6.2 2) (lL r6.2 3) (lL r6.2 4) (lL r6.2 5) (lS r6.2 6) (lS r6.2 7) (lL r6.2 8) (lB r6.2 9) (lL r6.2 10) (lL r6.2 11) (lL r6.2 12) (lL r6.2 13) (lL r6.2 14) (lI r6.2 15) (lI r6.2 16) (lI r6.2 17) (lI r6.2 18) (lL r6.2 19) (lL r6.2 20) (lB r6.2 21) fun b7 =>
 br (!b7) (
 k false) (
 F75 _ (lL r6.2 10) (lL r6.2 11) fun b8 =>
 br (!b8) (
 k false) (
 br (!(lB r6.2 21)) (
 k true) (
 F76 _ (lS r6.2 0) (lS r6.2 1) (lB r6.2 2) (lL r6.2 3) (lL r6.2 4) (lL r6.2 5) (lS r6.2 6) (lS r6.2 7) (lL r6.2 8) (lB r6.2 9) (lL r6.2 10) (lL r6.2 11) (lL r6.2 12) (lL r6.2 13) (lL r6.2 14) (lI r6.2 15) (lI r6.2 16) (lI r6.2 17) (lI r6.2 18) (lL r6.2 19) (lL r6.2 20) (lB r6.2 21) fun b9 =>
 br b9 (
 F77 _ (lS r6.2 0) (lS r6.2 1) (lB r6.2 2) (lL r6.2 3) (lL r6.2 4) (lL r6.2 5) (lS r6.2 6) (lS r6.2 7) (lL r6.2 8) (lB r6.2 9) (lL r6.2 10) (lL r6.2 11) (lL r6.2 12) (lL r6.2 13) (lL r6.2 14) (lI r6.2 15) (lI r6.2 16) (lI r6.2 17) (lI r6.2 18) (lL r6.2 19) (lL r6.2 20) (lB r6.2 21) fun l10 =>
 br ((l10.length : Int) == 0) (
 F78 _ (lS r6.2 0) (lS r6.2 1) (lB r6.2 2) (lL r6.2 3) (lL r6.2 4) (lL r6.2 5) (lS r6.2 6) (lS r6.2 7) (lL r6.2 8) (lB r6.2 9) (lL r6.2 10) (lL r6.2 11) (lL r6.2 12) (lL r6.2 13) (lL r6.2 14) (lI r6.2 15) (lI r6.2 16) (lI r6.2 17) (lI r6.2 18) (lL r6.2 19) (lL r6.2 20) (lB r6.2 21) fun l11 =>
 br ((l11.length : Int) == 0) (
 F79 _ (lL r6.2 20) [108, 111, 97, 100] fun b12 =>
 br b12 (
 k true) (
 k (((lL r6.2 20).length : Int) == 40))) (
 k false)) (
 k false)) (
 k false))))
def F21 : T21 := P21 F74 F75 F76 F77 F78 F79 
def X21 : Exits := fun i => lookN i [] [(2, [(.ret, xk 76 [(1, .ptr 1 0), (2, .bool false)] [(1, .agg [.str [], .str [], .bool false, .sl 1 true [], .sl 1 true [], .sl 1 true [], .str [], .str [], .sl 4 false [], .bool false, .sl 4 false [], .sl 1 true [], .sl 8 true [], .sl 5 true [], .sl 2 true [], .int .i64 0, .int .i64 0, .int .i64 0, .int .i64 0, .sl 2 true [], .sl 1 true [], .bool false])]), (.exit 0, xk 76 [(1, .ptr 1 0)] [(1, .agg [.str [], .str [], .bool false, .sl 1 true [], .sl 1 true [], .sl 1 true [], .str [], .str [], .sl 4 false [], .bool false, .sl 4 false [], .sl 1 true [], .sl 8 true [], .sl 5 true [], .sl 2 true [], .int .i64 0, .int .i64 0, .int .i64 0, .int .i64 0, .sl 2 true [], .sl 1 true [], .bool false])])]), (8, [(.ret, xk 76 [(1, .ptr 1 0), (2, .bool false)] [(1, .agg [.str [], .str [], .bool false, .sl 1 true [], .sl 1 true [], .sl 1 true [], .str [], .str [], .sl 4 false [], .bool false, .sl 4 false [], .sl 1 true [], .sl 8 true [], .sl 5 true [], .sl 2 true [], .int .i64 0, .int .i64 0, .int .i64 0, .int .i64 0, .sl 2 true [], .sl 1 true [], .bool false])]), (.exit 2, xk 76 [(1, .ptr 1 0)] [(1, .agg [.str [], .str [], .bool false, .sl 1 true [], .sl 1 true [], .sl 1 true [], .str [], .str [], .sl 4 false [], .bool false, .sl 4 false [], .sl 1 true [], .sl 8 true [], .sl 5 true [], .sl 2 true [], .int .i64 0, .int .i64 0, .int .i64 0, .int .i64 0, .sl 2 true [], .sl 1 true [], .bool false])])])]
abbrev s21 : List (Bool × List CK) := [(true, [.str, .str, .bool, .sl 1 true, .sl 1 true, .sl 1 true, .str, .str, .sl 4 false, .bool, .sl 4 false, .sl 1 true, .sl 8 true, .sl 5 true, .sl 2 true, .int .i64, .int .i64, .int .i64, .int .i64, .sl 2 true, .sl 1 true, .bool])]
def G21 (F : T21) (β : Type) (e : (List UInt8 × List UInt8 × Bool × List V × List V × List V × List UInt8 × List UInt8 × List V × Bool × List V × List V × List V × List V × List V × Int × Int × Int × Int × List V × List V × Bool × Unit) × Unit) (k : V → Option β) : Option β := let a0_0 := e.1; let a0_1 := a0_0.2; let a0_2 := a0_1.2; let a0_3 := a0_2.2; let a0_4 := a0_3.2; let a0_5 := a0_4.2; let a0_6 := a0_5.2; let a0_7 := a0_6.2; let a0_8 := a0_7.2; let a0_9 := a0_8.2; let a0_10 := a0_9.2; let a0_11 := a0_10.2; let a0_12 := a0_11.2; let a0_13 := a0_12.2; let a0_14 := a0_13.2; let a0_15 := a0_14.2; let a0_16 := a0_15.2; let a0_17 := a0_16.2; let a0_18 := a0_17.2; let a0_19 := a0_18.2; let a0_20 := a0_19.2; let a0_21 := a0_20.2; F β a0_0.1 a0_1.1 a0_2.1 a0_3.1 a0_4.1 a0_5.1 a0_6.1 a0_7.1 a0_8.1 a0_9.1 a0_10.1 a0_11.1 a0_12.1 a0_13.1 a0_14.1 a0_15.1 a0_16.1 a0_17.1 a0_18.1 a0_19.1 a0_20.1 a0_21.1 (fun y1 => k (.bool y1))
abbrev W21 (F : T21) : WT := wrap s21 (G21 F)
theorem k21 (F74 : T74) (F75 : T75) (F76 : T76) (F77 : T77) (F78 : T78) (F79 : T79) (β : Type) (e : argsT s21) (k : V → Option β) : fnK cfg (tabL [(74, W74 F74), (75, W75 F75), (76, W76 F76), (77, W77 F77), (78, W78 F78), (79, W79 F79)]) X21 21 Tryz.f21 β (argsEnc s21 e) k = G21 (P21 F74 F75 F76 F77 F78 F79 ) β e k := by kernel_rfl
theorem ok21 : FnOk D 21 (W21 F21) := fn_okW [(74, W74 F74), (75, W75 F75), (76, W76 F76), (77, W77 F77), (78, W78 F78), (79, W79 F79)] X21 (fun _ => rfl) Tryz.func21 rfl (tabL_cons ok74 (tabL_cons ok75 (tabL_cons ok76 (tabL_cons ok77 (tabL_cons ok78 (tabL_cons ok79 tabL_nil)))))) (k21 F74 F75 F76 F77 F78 F79 )

/-- laws.eqAddr -/
abbrev T80 : Type 1 := (β : Type) → List UInt8 → List UInt8 → List UInt8 → List UInt8 → (Bool → Option β) → Option β
def P80 : T80 := fun β a_Host a_Path b_Host b_Path k =>
 br (!(a_Host == b_Host)) (
 k false) (
 br (!(a_Path == b_Path)) (
 k false) (
 k true))
def F80 : T80 := P80 
abbrev s80 : List (Bool × List CK) := [(true, [.str, .str]), (true, [.str, .str])]
def G80 (F : T80) (β : Type) (e : (List UInt8 × List UInt8 × Unit) × (List UInt8 × List UInt8 × Unit) × Unit) (k : V → Option β) : Option β := F β e.1.1 e.1.2.1 e.2.1.1 e.2.1.2.1 (fun y1 => k (.bool y1))
abbrev W80 (F : T80) : WT := wrap s80 (G80 F)
theorem k80 (β : Type) (e : argsT s80) (k : V → Option β) : fnK cfg (tabL []) noX 80 Tryz.f80 β (argsEnc s80 e) k = G80 (P80 ) β e k := by kernel_rfl
theorem ok80 : FnOk D 80 (W80 F80) := fn_okW [] noX (fun _ => rfl) Tryz.func80 rfl (tabL_nil) (k80 )

/-- laws.eqStringS -/
abbrev T88 : Type 1 := (β : Type) → List V → List V → (Bool → Option β) → Option β
def P88 : T88 := fun β a b k =>
 br ((a.length : Int) != (b.length : Int)) (
 k false) (
 whileK (fun s1 =>
 br (decide ((lI s1 2) < ((lL s1 0).length : Int))) (
 chk (0 ≤ (lI s1 2)) <|
 idx false [.str] (lL s1 0) ((lI s1 2).toNat) fun (e2 : List UInt8 × Unit) =>
 chk (0 ≤ (lI s1 2)) <|
 idx false [.str] (lL s1 1) ((lI s1 2).toNat) fun (e3 : List UInt8 × Unit) =>
 br (!(e2.1 == e3.1)) (
 some (.inr (0, [.b false]))) (
 some (.inl [.l (lL s1 0), .l (lL s1 1), .i (IntKind.wrap .i64 ((lI s1 2) + 1))]))) (
 some (.inr (1, [])))) [.l a, .l b, .i 0] fun (r4 : Nat × List Leaf) =>
 if r4.1 = 0 then
 k (lB r4.2 0)
 else
 k true)
def F88 : T88 := P88 
def X88 : Exits := fun i => lookN i [] [(4, [(.ret, xk 26 [(4, .bool false)] []), (.exit 0, xk 26 [] [])])]
abbrev s88 : List (Bool × List CK) := [(false, [.sl 1 true]), (false, [.sl 1 true])]
def G88 (F : T88) (β : Type) (e : (List V × Unit) × (List V × Unit) × Unit) (k : V → Option β) : Option β := F β e.1.1 e.2.1.1 (fun y1 => k (.bool y1))
abbrev W88 (F : T88) : WT := wrap s88 (G88 F)
theorem k88 (β : Type) (e : argsT s88) (k : V → Option β) : fnK cfg (tabL []) X88 88 Tryz.f88 β (argsEnc s88 e) k = G88 (P88 ) β e k := by kernel_rfl
theorem ok88 : FnOk D 88 (W88 F88) := fn_okW [] X88 (fun _ => rfl) Tryz.func88 rfl (tabL_nil) (k88 )

/-- laws.eqPolicy -/
abbrev T81 : Type 1 := (β : Type) → Bool → List V → List V → List V → List UInt8 → Bool → List V → List V → List V → List UInt8 → (Bool → Option β) → Option β
def P81 (F88 : T88) : T81 := fun β a_Set a_Scripts a_Styles a_Images a_Nonce b_Set b_Scripts b_Styles b_Images b_Nonce k =>
 br (!(a_Set == b_Set)) (
 k false) (
 F88 _ a_Scripts b_Scripts fun b1 =>
 br (!b1) (
 k false) (
 F88 _ a_Styles b_Styles fun b2 =>
 br (!b2) (
 k false) (
 F88 _ a_Images b_Images fun b3 =>
 br (!b3) (
 k false) (
 br (!(a_Nonce == b_Nonce)) (
 k false) (
 k true)))))
def F81 : T81 := P81 F88 
abbrev s81 : List (Bool × List CK) := [(true, [.bool, .sl 1 true, .sl 1 true, .sl 1 true, .str]), (true, [.bool, .sl 1 true, .sl 1 true, .sl 1 true, .str])]
def G81 (F : T81) (β : Type) (e : (Bool × List V × List V × List V × List UInt8 × Unit) × (Bool × List V × List V × List V × List UInt8 × Unit) × Unit) (k : V → Option β) : Option β := let a0_0 := e.1; let a0_1 := a0_0.2; let a0_2 := a0_1.2; let a0_3 := a0_2.2; let a0_4 := a0_3.2; let a1_0 := e.2.1; let a1_1 := a1_0.2; let a1_2 := a1_1.2; let a1_3 := a1_2.2; let a1_4 := a1_3.2; F β a0_0.1 a0_1.1 a0_2.1 a0_3.1 a0_4.1 a1_0.1 a1_1.1 a1_2.1 a1_3.1 a1_4.1 (fun y1 => k (.bool y1))
abbrev W81 (F : T81) : WT := wrap s81 (G81 F)
theorem k81 (F88 : T88) (β : Type) (e : argsT s81) (k : V → Option β) : fnK cfg (tabL [(88, W88 F88)]) noX 81 Tryz.f81 β (argsEnc s81 e) k = G81 (P81 F88 ) β e k := by kernel_rfl
theorem ok81 : FnOk D 81 (W81 F81) := fn_okW [(88, W88 F88)] noX (fun _ => rfl) Tryz.func81 rfl (tabL_cons ok88 tabL_nil) (k81 F88 )

/-- laws.eqTokenizer -/
abbrev T82 : Type 1 := (β : Type) → List UInt8 → List UInt8 → (Bool → Option β) → Option β
def P82 : T82 := fun β a_Rest b_Rest k =>
 br (!(a_Rest == b_Rest)) (
 k false) (
 k true)
def F82 : T82 := P82 
abbrev s82 : List (Bool × List CK) := [(true, [.str]), (true, [.str])]
def G82 (F : T82) (β : Type) (e : (List UInt8 × Unit) × (List UInt8 × Unit) × Unit) (k : V → Option β) : Option β := F β e.1.1 e.2.1.1 (fun y1 => k (.bool y1))
abbrev W82 (F : T82) : WT := wrap s82 (G82 F)
theorem k82 (β : Type) (e : argsT s82) (k : V → Option β) : fnK cfg (tabL []) noX 82 Tryz.f82 β (argsEnc s82 e) k = G82 (P82 ) β e k := by kernel_rfl
theorem ok82 : FnOk D 82 (W82 F82) := fn_okW [] noX (fun _ => rfl) Tryz.func82 rfl (tabL_nil) (k82 )

/-- laws.eqAttr -/
abbrev T197 : Type 1 := (β : Type) → List UInt8 → List UInt8 → List UInt8 → List UInt8 → (Bool → Option β) → Option β
def P197 : T197 := fun β a_Name a_Value b_Name b_Value k =>
 br (!(a_Name == b_Name)) (
 k false) (
 br (!(a_Value == b_Value)) (
 k false) (
 k true))
def F197 : T197 := P197 
abbrev s197 : List (Bool × List CK) := [(true, [.str, .str]), (true, [.str, .str])]
def G197 (F : T197) (β : Type) (e : (List UInt8 × List UInt8 × Unit) × (List UInt8 × List UInt8 × Unit) × Unit) (k : V → Option β) : Option β := F β e.1.1 e.1.2.1 e.2.1.1 e.2.1.2.1 (fun y1 => k (.bool y1))
abbrev W197 (F : T197) : WT := wrap s197 (G197 F)
theorem k197 (β : Type) (e : argsT s197) (k : V → Option β) : fnK cfg (tabL []) noX 197 Tryz.f197 β (argsEnc s197 e) k = G197 (P197 ) β e k := by kernel_rfl
theorem ok197 : FnOk D 197 (W197 F197) := fn_okW [] noX (fun _ => rfl) Tryz.func197 rfl (tabL_nil) (k197 )

/-- laws.eqAttrS -/
abbrev T186 : Type 1 := (β : Type) → List V → List V → (Bool → Option β) → Option β
def P186 (F197 : T197) : T186 := fun β a b k =>
 br ((a.length : Int) != (b.length : Int)) (
 k false) (
 whileK (fun s1 =>
 br (decide ((lI s1 2) < ((lL s1 0).length : Int))) (
 chk (0 ≤ (lI s1 2)) <|
 idx true [.str, .str] (lL s1 0) ((lI s1 2).toNat) fun (e2 : List UInt8 × List UInt8 × Unit) =>
 chk (0 ≤ (lI s1 2)) <|
 idx true [.str, .str] (lL s1 1) ((lI s1 2).toNat) fun (e3 : List UInt8 × List UInt8 × Unit) =>
 F197 _ e2.1 e2.2.1 e3.1 e3.2.1 fun b4 =>
 br (!b4) (
 some (.inr (0, [.b false]))) (
 some (.inl [.l (lL s1 0), .l (lL s1 1), .i (IntKind.wrap .i64 ((lI s1 2) + 1))]))) (
 some (.inr (1, [])))) [.l a, .l b, .i 0] fun (r5 : Nat × List Leaf) =>
 if r5.1 = 0 then
 k (lB r5.2 0)
 else
 k true)
def F186 : T186 := P186 F197 
def X186 : Exits := fun i => lookN i [] [(4, [(.ret, xk 27 [(4, .bool false)] []), (.exit 0, xk 27 [] [])])]
abbrev s186 : List (Bool × List CK) := [(false, [.sl 2 true]), (false, [.sl 2 true])]
def G186 (F : T186) (β : Type) (e : (List V × Unit) × (List V × Unit) × Unit) (k : V → Option β) : Option β := F β e.1.1 e.2.1.1 (fun y1 => k (.bool y1))
abbrev W186 (F : T186) : WT := wrap s186 (G186 F)
theorem k186 (F197 : T197) (β : Type) (e : argsT s186) (k : V → Option β) : fnK cfg (tabL [(197, W197 F197)]) X186 186 Tryz.f186 β (argsEnc s186 e) k = G186 (P186 F197 ) β e k := by kernel_rfl
theorem ok186 : FnOk D 186 (W186 F186) := fn_okW [(197, W197 F197)] X186 (fun _ => rfl) Tryz.func186 rfl (tabL_cons ok197 tabL_nil) (k186 F197 )

/-- laws.eqToken -/
abbrev T146 : Type 1 := (β : Type) → Int → List UInt8 → List V → List UInt8 → Int → List UInt8 → List V → List UInt8 → (Bool → Option β) → Option β
def P146 (F186 : T186) : T146 := fun β a_Kind a_Name a_Attrs a_Text b_Kind b_Name b_Attrs b_Text k =>
 br (a_Kind != b_Kind) (
 k false) (
 br (!(a_Name == b_Name)) (
 k false) (
 F186 _ a_Attrs b_Attrs fun b1 =>
 br (!b1) (
 k false) (
 br (!(a_Text == b_Text)) (
 k false) (
 k true))))
def F146 : T146 := P146 F186 
abbrev s146 : List (Bool × List CK) := [(true, [.int .i64, .str, .sl 2 true, .str]), (true, [.int .i64, .str, .sl 2 true, .str])]
def G146 (F : T146) (β : Type) (e : (Int × List UInt8 × List V × List UInt8 × Unit) × (Int × List UInt8 × List V × List UInt8 × Unit) × Unit) (k : V → Option β) : Option β := F β e.1.1 e.1.2.1 e.1.2.2.1 e.1.2.2.2.1 e.2.1.1 e.2.1.2.1 e.2.1.2.2.1 e.2.1.2.2.2.1 (fun y1 => k (.bool y1))
abbrev W146 (F : T146) : WT := wrap s146 (G146 F)
theorem k146 (F186 : T186) (β : Type) (e : argsT s146) (k : V → Option β) : fnK cfg (tabL [(186, W186 F186)]) noX 146 Tryz.f146 β (argsEnc s146 e) k = G146 (P146 F186 ) β e k := by kernel_rfl
theorem ok146 : FnOk D 146 (W146 F146) := fn_okW [(186, W186 F186)] noX (fun _ => rfl) Tryz.func146 rfl (tabL_cons ok186 tabL_nil) (k146 F186 )

/-- laws.eqTokenS -/
abbrev T83 : Type 1 := (β : Type) → List V → List V → (Bool → Option β) → Option β
def P83 (F146 : T146) : T83 := fun β a b k =>
 br ((a.length : Int) != (b.length : Int)) (
 k false) (
 whileK (fun s1 =>
 br (decide ((lI s1 2) < ((lL s1 0).length : Int))) (
 chk (0 ≤ (lI s1 2)) <|
 idx true [.int .i64, .str, .sl 2 true, .str] (lL s1 0) ((lI s1 2).toNat) fun (e2 : Int × List UInt8 × List V × List UInt8 × Unit) =>
 chk (0 ≤ (lI s1 2)) <|
 idx true [.int .i64, .str, .sl 2 true, .str] (lL s1 1) ((lI s1 2).toNat) fun (e3 : Int × List UInt8 × List V × List UInt8 × Unit) =>
 F146 _ e2.1 e2.2.1 e2.2.2.1 e2.2.2.2.1 e3.1 e3.2.1 e3.2.2.1 e3.2.2.2.1 fun b4 =>
 br (!b4) (
 some (.inr (0, [.b false]))) (
 some (.inl [.l (lL s1 0), .l (lL s1 1), .i (IntKind.wrap .i64 ((lI s1 2) + 1))]))) (
 some (.inr (1, [])))) [.l a, .l b, .i 0] fun (r5 : Nat × List Leaf) =>
 if r5.1 = 0 then
 k (lB r5.2 0)
 else
 k true)
def F83 : T83 := P83 F146 
def X83 : Exits := fun i => lookN i [] [(4, [(.ret, xk 27 [(4, .bool false)] []), (.exit 0, xk 27 [] [])])]
abbrev s83 : List (Bool × List CK) := [(false, [.sl 4 false]), (false, [.sl 4 false])]
def G83 (F : T83) (β : Type) (e : (List V × Unit) × (List V × Unit) × Unit) (k : V → Option β) : Option β := F β e.1.1 e.2.1.1 (fun y1 => k (.bool y1))
abbrev W83 (F : T83) : WT := wrap s83 (G83 F)
theorem k83 (F146 : T146) (β : Type) (e : argsT s83) (k : V → Option β) : fnK cfg (tabL [(146, W146 F146)]) X83 83 Tryz.f83 β (argsEnc s83 e) k = G83 (P83 F146 ) β e k := by kernel_rfl
theorem ok83 : FnOk D 83 (W83 F83) := fn_okW [(146, W146 F146)] X83 (fun _ => rfl) Tryz.func83 rfl (tabL_cons ok146 tabL_nil) (k83 F146 )

/-- laws.eqNode -/
abbrev T187 : Type 1 := (β : Type) → List UInt8 → List UInt8 → Int → List V → List UInt8 → List UInt8 → Int → List V → (Bool → Option β) → Option β
def P187 (F186 : T186) : T187 := fun β a_Name a_Text a_Parent a_Attrs b_Name b_Text b_Parent b_Attrs k =>
 br (!(a_Name == b_Name)) (
 k false) (
 br (!(a_Text == b_Text)) (
 k false) (
 br (a_Parent != b_Parent) (
 k false) (
 F186 _ a_Attrs b_Attrs fun b1 =>
 br (!b1) (
 k false) (
 k true))))
def F187 : T187 := P187 F186 
abbrev s187 : List (Bool × List CK) := [(true, [.str, .str, .int .i64, .sl 2 true]), (true, [.str, .str, .int .i64, .sl 2 true])]
def G187 (F : T187) (β : Type) (e : (List UInt8 × List UInt8 × Int × List V × Unit) × (List UInt8 × List UInt8 × Int × List V × Unit) × Unit) (k : V → Option β) : Option β := F β e.1.1 e.1.2.1 e.1.2.2.1 e.1.2.2.2.1 e.2.1.1 e.2.1.2.1 e.2.1.2.2.1 e.2.1.2.2.2.1 (fun y1 => k (.bool y1))
abbrev W187 (F : T187) : WT := wrap s187 (G187 F)
theorem k187 (F186 : T186) (β : Type) (e : argsT s187) (k : V → Option β) : fnK cfg (tabL [(186, W186 F186)]) noX 187 Tryz.f187 β (argsEnc s187 e) k = G187 (P187 F186 ) β e k := by kernel_rfl
theorem ok187 : FnOk D 187 (W187 F187) := fn_okW [(186, W186 F186)] noX (fun _ => rfl) Tryz.func187 rfl (tabL_cons ok186 tabL_nil) (k187 F186 )

/-- laws.eqNodeS -/
abbrev T147 : Type 1 := (β : Type) → List V → List V → (Bool → Option β) → Option β
def P147 (F187 : T187) : T147 := fun β a b k =>
 br ((a.length : Int) != (b.length : Int)) (
 k false) (
 whileK (fun s1 =>
 br (decide ((lI s1 2) < ((lL s1 0).length : Int))) (
 chk (0 ≤ (lI s1 2)) <|
 idx true [.str, .str, .int .i64, .sl 2 true] (lL s1 0) ((lI s1 2).toNat) fun (e2 : List UInt8 × List UInt8 × Int × List V × Unit) =>
 chk (0 ≤ (lI s1 2)) <|
 idx true [.str, .str, .int .i64, .sl 2 true] (lL s1 1) ((lI s1 2).toNat) fun (e3 : List UInt8 × List UInt8 × Int × List V × Unit) =>
 F187 _ e2.1 e2.2.1 e2.2.2.1 e2.2.2.2.1 e3.1 e3.2.1 e3.2.2.1 e3.2.2.2.1 fun b4 =>
 br (!b4) (
 some (.inr (0, [.b false]))) (
 some (.inl [.l (lL s1 0), .l (lL s1 1), .i (IntKind.wrap .i64 ((lI s1 2) + 1))]))) (
 some (.inr (1, [])))) [.l a, .l b, .i 0] fun (r5 : Nat × List Leaf) =>
 if r5.1 = 0 then
 k (lB r5.2 0)
 else
 k true)
def F147 : T147 := P147 F187 
def X147 : Exits := fun i => lookN i [] [(4, [(.ret, xk 27 [(4, .bool false)] []), (.exit 0, xk 27 [] [])])]
abbrev s147 : List (Bool × List CK) := [(false, [.sl 4 false]), (false, [.sl 4 false])]
def G147 (F : T147) (β : Type) (e : (List V × Unit) × (List V × Unit) × Unit) (k : V → Option β) : Option β := F β e.1.1 e.2.1.1 (fun y1 => k (.bool y1))
abbrev W147 (F : T147) : WT := wrap s147 (G147 F)
theorem k147 (F187 : T187) (β : Type) (e : argsT s147) (k : V → Option β) : fnK cfg (tabL [(187, W187 F187)]) X147 147 Tryz.f147 β (argsEnc s147 e) k = G147 (P147 F187 ) β e k := by kernel_rfl
theorem ok147 : FnOk D 147 (W147 F147) := fn_okW [(187, W187 F187)] X147 (fun _ => rfl) Tryz.func147 rfl (tabL_cons ok187 tabL_nil) (k147 F187 )

/-- laws.eqIntS -/
abbrev T148 : Type 1 := (β : Type) → List V → List V → (Bool → Option β) → Option β
def P148 : T148 := fun β a b k =>
 br ((a.length : Int) != (b.length : Int)) (
 k false) (
 whileK (fun s1 =>
 br (decide ((lI s1 2) < ((lL s1 0).length : Int))) (
 chk (0 ≤ (lI s1 2)) <|
 idx false [.int .i64] (lL s1 0) ((lI s1 2).toNat) fun (e2 : Int × Unit) =>
 chk (0 ≤ (lI s1 2)) <|
 idx false [.int .i64] (lL s1 1) ((lI s1 2).toNat) fun (e3 : Int × Unit) =>
 br (e2.1 != e3.1) (
 some (.inr (0, [.b false]))) (
 some (.inl [.l (lL s1 0), .l (lL s1 1), .i (IntKind.wrap .i64 ((lI s1 2) + 1))]))) (
 some (.inr (1, [])))) [.l a, .l b, .i 0] fun (r4 : Nat × List Leaf) =>
 if r4.1 = 0 then
 k (lB r4.2 0)
 else
 k true)
def F148 : T148 := P148 
def X148 : Exits := fun i => lookN i [] [(4, [(.ret, xk 26 [(4, .bool false)] []), (.exit 0, xk 26 [] [])])]
abbrev s148 : List (Bool × List CK) := [(false, [.sl 1 true]), (false, [.sl 1 true])]
def G148 (F : T148) (β : Type) (e : (List V × Unit) × (List V × Unit) × Unit) (k : V → Option β) : Option β := F β e.1.1 e.2.1.1 (fun y1 => k (.bool y1))
abbrev W148 (F : T148) : WT := wrap s148 (G148 F)
theorem k148 (β : Type) (e : argsT s148) (k : V → Option β) : fnK cfg (tabL []) X148 148 Tryz.f148 β (argsEnc s148 e) k = G148 (P148 ) β e k := by kernel_rfl
theorem ok148 : FnOk D 148 (W148 F148) := fn_okW [] X148 (fun _ => rfl) Tryz.func148 rfl (tabL_nil) (k148 )

/-- laws.eqBuilder -/
abbrev T84 : Type 1 := (β : Type) → List V → List V → List V → List V → (Bool → Option β) → Option β
def P84 (F147 : T147) (F148 : T148) : T84 := fun β a_Nodes a_Open b_Nodes b_Open k =>
 F147 _ a_Nodes b_Nodes fun b1 =>
 br (!b1) (
 k false) (
 F148 _ a_Open b_Open fun b2 =>
 br (!b2) (
 k false) (
 k true))
def F84 : T84 := P84 F147 F148 
abbrev s84 : List (Bool × List CK) := [(true, [.sl 4 false, .sl 1 true]), (true, [.sl 4 false, .sl 1 true])]
def G84 (F : T84) (β : Type) (e : (List V × List V × Unit) × (List V × List V × Unit) × Unit) (k : V → Option β) : Option β := F β e.1.1 e.1.2.1 e.2.1.1 e.2.1.2.1 (fun y1 => k (.bool y1))
abbrev W84 (F : T84) : WT := wrap s84 (G84 F)
theorem k84 (F147 : T147) (F148 : T148) (β : Type) (e : argsT s84) (k : V → Option β) : fnK cfg (tabL [(147, W147 F147), (148, W148 F148)]) noX 84 Tryz.f84 β (argsEnc s84 e) k = G84 (P84 F147 F148 ) β e k := by kernel_rfl
theorem ok84 : FnOk D 84 (W84 F84) := fn_okW [(147, W147 F147), (148, W148 F148)] noX (fun _ => rfl) Tryz.func84 rfl (tabL_cons ok147 (tabL_cons ok148 tabL_nil)) (k84 F147 F148 )

/-- laws.eqSlot -/
abbrev T149 : Type 1 := (β : Type) → Int → List UInt8 → List UInt8 → List UInt8 → Int → Bool → Int → List UInt8 → Int → List UInt8 → List UInt8 → List UInt8 → Int → Bool → Int → List UInt8 → (Bool → Option β) → Option β
def P149 (F80 : T80) : T149 := fun β a_Mode a_To_Host a_To_Path a_Digest a_Node a_Done a_Code a_Body b_Mode b_To_Host b_To_Path b_Digest b_Node b_Done b_Code b_Body k =>
 br (a_Mode != b_Mode) (
 k false) (
 F80 _ a_To_Host a_To_Path b_To_Host b_To_Path fun b1 =>
 br (!b1) (
 k false) (
 br (!(a_Digest == b_Digest)) (
 k false) (
 br (a_Node != b_Node) (
 k false) (
 br (!(a_Done == b_Done)) (
 k false) (
 br (a_Code != b_Code) (
 k false) (
 br (!(a_Body == b_Body)) (
 k false) (
 k true)))))))
def F149 : T149 := P149 F80 
abbrev s149 : List (Bool × List CK) := [(true, [.int .i64, .str, .str, .str, .int .i64, .bool, .int .i64, .str]), (true, [.int .i64, .str, .str, .str, .int .i64, .bool, .int .i64, .str])]
def G149 (F : T149) (β : Type) (e : (Int × List UInt8 × List UInt8 × List UInt8 × Int × Bool × Int × List UInt8 × Unit) × (Int × List UInt8 × List UInt8 × List UInt8 × Int × Bool × Int × List UInt8 × Unit) × Unit) (k : V → Option β) : Option β := let a0_0 := e.1; let a0_1 := a0_0.2; let a0_2 := a0_1.2; let a0_3 := a0_2.2; let a0_4 := a0_3.2; let a0_5 := a0_4.2; let a0_6 := a0_5.2; let a0_7 := a0_6.2; let a1_0 := e.2.1; let a1_1 := a1_0.2; let a1_2 := a1_1.2; let a1_3 := a1_2.2; let a1_4 := a1_3.2; let a1_5 := a1_4.2; let a1_6 := a1_5.2; let a1_7 := a1_6.2; F β a0_0.1 a0_1.1 a0_2.1 a0_3.1 a0_4.1 a0_5.1 a0_6.1 a0_7.1 a1_0.1 a1_1.1 a1_2.1 a1_3.1 a1_4.1 a1_5.1 a1_6.1 a1_7.1 (fun y1 => k (.bool y1))
abbrev W149 (F : T149) : WT := wrap s149 (G149 F)
theorem k149 (F80 : T80) (β : Type) (e : argsT s149) (k : V → Option β) : fnK cfg (tabL [(80, W80 F80)]) noX 149 Tryz.f149 β (argsEnc s149 e) k = G149 (P149 F80 ) β e k := by kernel_rfl
theorem ok149 : FnOk D 149 (W149 F149) := fn_okW [(80, W80 F80)] noX (fun _ => rfl) Tryz.func149 rfl (tabL_cons ok80 tabL_nil) (k149 F80 )

/-- laws.eqSlotS -/
abbrev T85 : Type 1 := (β : Type) → List V → List V → (Bool → Option β) → Option β
def P85 (F149 : T149) : T85 := fun β a b k =>
 br ((a.length : Int) != (b.length : Int)) (
 k false) (
 whileK (fun s1 =>
 br (decide ((lI s1 2) < ((lL s1 0).length : Int))) (
 chk (0 ≤ (lI s1 2)) <|
 idx true [.int .i64, .str, .str, .str, .int .i64, .bool, .int .i64, .str] (lL s1 0) ((lI s1 2).toNat) fun (e2 : Int × List UInt8 × List UInt8 × List UInt8 × Int × Bool × Int × List UInt8 × Unit) =>
 chk (0 ≤ (lI s1 2)) <|
 idx true [.int .i64, .str, .str, .str, .int .i64, .bool, .int .i64, .str] (lL s1 1) ((lI s1 2).toNat) fun (e3 : Int × List UInt8 × List UInt8 × List UInt8 × Int × Bool × Int × List UInt8 × Unit) =>
 F149 _ e2.1 e2.2.1 e2.2.2.1 e2.2.2.2.1 e2.2.2.2.2.1 e2.2.2.2.2.2.1 e2.2.2.2.2.2.2.1 e2.2.2.2.2.2.2.2.1 e3.1 e3.2.1 e3.2.2.1 e3.2.2.2.1 e3.2.2.2.2.1 e3.2.2.2.2.2.1 e3.2.2.2.2.2.2.1 e3.2.2.2.2.2.2.2.1 fun b4 =>
 br (!b4) (
 some (.inr (0, [.b false]))) (
 some (.inl [.l (lL s1 0), .l (lL s1 1), .i (IntKind.wrap .i64 ((lI s1 2) + 1))]))) (
 some (.inr (1, [])))) [.l a, .l b, .i 0] fun (r5 : Nat × List Leaf) =>
 if r5.1 = 0 then
 k (lB r5.2 0)
 else
 k true)
def F85 : T85 := P85 F149 
def X85 : Exits := fun i => lookN i [] [(4, [(.ret, xk 27 [(4, .bool false)] []), (.exit 0, xk 27 [] [])])]
abbrev s85 : List (Bool × List CK) := [(false, [.sl 8 true]), (false, [.sl 8 true])]
def G85 (F : T85) (β : Type) (e : (List V × Unit) × (List V × Unit) × Unit) (k : V → Option β) : Option β := F β e.1.1 e.2.1.1 (fun y1 => k (.bool y1))
abbrev W85 (F : T85) : WT := wrap s85 (G85 F)
theorem k85 (F149 : T149) (β : Type) (e : argsT s85) (k : V → Option β) : fnK cfg (tabL [(149, W149 F149)]) X85 85 Tryz.f85 β (argsEnc s85 e) k = G85 (P85 F149 ) β e k := by kernel_rfl
theorem ok85 : FnOk D 85 (W85 F85) := fn_okW [(149, W149 F149)] X85 (fun _ => rfl) Tryz.func85 rfl (tabL_cons ok149 tabL_nil) (k85 F149 )

/-- laws.eqModule -/
abbrev T150 : Type 1 := (β : Type) → List UInt8 → List UInt8 → Bool → Int → List UInt8 → List UInt8 → List UInt8 → Bool → Int → List UInt8 → (Bool → Option β) → Option β
def P150 (F80 : T80) : T150 := fun β a_To_Host a_To_Path a_Done a_Code a_Body b_To_Host b_To_Path b_Done b_Code b_Body k =>
 F80 _ a_To_Host a_To_Path b_To_Host b_To_Path fun b1 =>
 br (!b1) (
 k false) (
 br (!(a_Done == b_Done)) (
 k false) (
 br (a_Code != b_Code) (
 k false) (
 br (!(a_Body == b_Body)) (
 k false) (
 k true))))
def F150 : T150 := P150 F80 
abbrev s150 : List (Bool × List CK) := [(true, [.str, .str, .bool, .int .i64, .str]), (true, [.str, .str, .bool, .int .i64, .str])]
def G150 (F : T150) (β : Type) (e : (List UInt8 × List UInt8 × Bool × Int × List UInt8 × Unit) × (List UInt8 × List UInt8 × Bool × Int × List UInt8 × Unit) × Unit) (k : V → Option β) : Option β := let a0_0 := e.1; let a0_1 := a0_0.2; let a0_2 := a0_1.2; let a0_3 := a0_2.2; let a0_4 := a0_3.2; let a1_0 := e.2.1; let a1_1 := a1_0.2; let a1_2 := a1_1.2; let a1_3 := a1_2.2; let a1_4 := a1_3.2; F β a0_0.1 a0_1.1 a0_2.1 a0_3.1 a0_4.1 a1_0.1 a1_1.1 a1_2.1 a1_3.1 a1_4.1 (fun y1 => k (.bool y1))
abbrev W150 (F : T150) : WT := wrap s150 (G150 F)
theorem k150 (F80 : T80) (β : Type) (e : argsT s150) (k : V → Option β) : fnK cfg (tabL [(80, W80 F80)]) noX 150 Tryz.f150 β (argsEnc s150 e) k = G150 (P150 F80 ) β e k := by kernel_rfl
theorem ok150 : FnOk D 150 (W150 F150) := fn_okW [(80, W80 F80)] noX (fun _ => rfl) Tryz.func150 rfl (tabL_cons ok80 tabL_nil) (k150 F80 )

/-- laws.eqModuleS -/
abbrev T86 : Type 1 := (β : Type) → List V → List V → (Bool → Option β) → Option β
def P86 (F150 : T150) : T86 := fun β a b k =>
 br ((a.length : Int) != (b.length : Int)) (
 k false) (
 whileK (fun s1 =>
 br (decide ((lI s1 2) < ((lL s1 0).length : Int))) (
 chk (0 ≤ (lI s1 2)) <|
 idx true [.str, .str, .bool, .int .i64, .str] (lL s1 0) ((lI s1 2).toNat) fun (e2 : List UInt8 × List UInt8 × Bool × Int × List UInt8 × Unit) =>
 chk (0 ≤ (lI s1 2)) <|
 idx true [.str, .str, .bool, .int .i64, .str] (lL s1 1) ((lI s1 2).toNat) fun (e3 : List UInt8 × List UInt8 × Bool × Int × List UInt8 × Unit) =>
 F150 _ e2.1 e2.2.1 e2.2.2.1 e2.2.2.2.1 e2.2.2.2.2.1 e3.1 e3.2.1 e3.2.2.1 e3.2.2.2.1 e3.2.2.2.2.1 fun b4 =>
 br (!b4) (
 some (.inr (0, [.b false]))) (
 some (.inl [.l (lL s1 0), .l (lL s1 1), .i (IntKind.wrap .i64 ((lI s1 2) + 1))]))) (
 some (.inr (1, [])))) [.l a, .l b, .i 0] fun (r5 : Nat × List Leaf) =>
 if r5.1 = 0 then
 k (lB r5.2 0)
 else
 k true)
def F86 : T86 := P86 F150 
def X86 : Exits := fun i => lookN i [] [(4, [(.ret, xk 27 [(4, .bool false)] []), (.exit 0, xk 27 [] [])])]
abbrev s86 : List (Bool × List CK) := [(false, [.sl 5 true]), (false, [.sl 5 true])]
def G86 (F : T86) (β : Type) (e : (List V × Unit) × (List V × Unit) × Unit) (k : V → Option β) : Option β := F β e.1.1 e.2.1.1 (fun y1 => k (.bool y1))
abbrev W86 (F : T86) : WT := wrap s86 (G86 F)
theorem k86 (F150 : T150) (β : Type) (e : argsT s86) (k : V → Option β) : fnK cfg (tabL [(150, W150 F150)]) X86 86 Tryz.f86 β (argsEnc s86 e) k = G86 (P86 F150 ) β e k := by kernel_rfl
theorem ok86 : FnOk D 86 (W86 F86) := fn_okW [(150, W150 F150)] X86 (fun _ => rfl) Tryz.func86 rfl (tabL_cons ok150 tabL_nil) (k86 F150 )

/-- laws.eqAddrS -/
abbrev T87 : Type 1 := (β : Type) → List V → List V → (Bool → Option β) → Option β
def P87 (F80 : T80) : T87 := fun β a b k =>
 br ((a.length : Int) != (b.length : Int)) (
 k false) (
 whileK (fun s1 =>
 br (decide ((lI s1 2) < ((lL s1 0).length : Int))) (
 chk (0 ≤ (lI s1 2)) <|
 idx true [.str, .str] (lL s1 0) ((lI s1 2).toNat) fun (e2 : List UInt8 × List UInt8 × Unit) =>
 chk (0 ≤ (lI s1 2)) <|
 idx true [.str, .str] (lL s1 1) ((lI s1 2).toNat) fun (e3 : List UInt8 × List UInt8 × Unit) =>
 F80 _ e2.1 e2.2.1 e3.1 e3.2.1 fun b4 =>
 br (!b4) (
 some (.inr (0, [.b false]))) (
 some (.inl [.l (lL s1 0), .l (lL s1 1), .i (IntKind.wrap .i64 ((lI s1 2) + 1))]))) (
 some (.inr (1, [])))) [.l a, .l b, .i 0] fun (r5 : Nat × List Leaf) =>
 if r5.1 = 0 then
 k (lB r5.2 0)
 else
 k true)
def F87 : T87 := P87 F80 
def X87 : Exits := fun i => lookN i [] [(4, [(.ret, xk 27 [(4, .bool false)] []), (.exit 0, xk 27 [] [])])]
abbrev s87 : List (Bool × List CK) := [(false, [.sl 2 true]), (false, [.sl 2 true])]
def G87 (F : T87) (β : Type) (e : (List V × Unit) × (List V × Unit) × Unit) (k : V → Option β) : Option β := F β e.1.1 e.2.1.1 (fun y1 => k (.bool y1))
abbrev W87 (F : T87) : WT := wrap s87 (G87 F)
theorem k87 (F80 : T80) (β : Type) (e : argsT s87) (k : V → Option β) : fnK cfg (tabL [(80, W80 F80)]) X87 87 Tryz.f87 β (argsEnc s87 e) k = G87 (P87 F80 ) β e k := by kernel_rfl
theorem ok87 : FnOk D 87 (W87 F87) := fn_okW [(80, W80 F80)] X87 (fun _ => rfl) Tryz.func87 rfl (tabL_cons ok80 tabL_nil) (k87 F80 )

/-- laws.eqPage -/
abbrev T22 : Type 1 := (β : Type) → List UInt8 → List UInt8 → Bool → List V → List V → List V → List UInt8 → List UInt8 → List V → Bool → List V → List V → List V → List V → List V → Int → Int → Int → Int → List V → List V → Bool → List UInt8 → List UInt8 → Bool → List V → List V → List V → List UInt8 → List UInt8 → List V → Bool → List V → List V → List V → List V → List V → Int → Int → Int → Int → List V → List V → Bool → (Bool → Option β) → Option β
def P22 (F80 : T80) (F81 : T81) (F82 : T82) (F83 : T83) (F84 : T84) (F85 : T85) (F86 : T86) (F87 : T87) (F88 : T88) : T22 := fun β a_Addr_Host a_Addr_Path a_Policy_Set a_Policy_Scripts a_Policy_Styles a_Policy_Images a_Policy_Nonce a_Tok_Rest a_Queue a_Ended a_Builder_Nodes a_Builder_Open a_Slots a_Mods a_Entries a_Block a_Inline a_Deferred a_Entered a_Ran a_Log a_Loaded b_Addr_Host b_Addr_Path b_Policy_Set b_Policy_Scripts b_Policy_Styles b_Policy_Images b_Policy_Nonce b_Tok_Rest b_Queue b_Ended b_Builder_Nodes b_Builder_Open b_Slots b_Mods b_Entries b_Block b_Inline b_Deferred b_Entered b_Ran b_Log b_Loaded k =>
 F80 _ a_Addr_Host a_Addr_Path b_Addr_Host b_Addr_Path fun b1 =>
 br (!b1) (
 k false) (
 F81 _ a_Policy_Set a_Policy_Scripts a_Policy_Styles a_Policy_Images a_Policy_Nonce b_Policy_Set b_Policy_Scripts b_Policy_Styles b_Policy_Images b_Policy_Nonce fun b2 =>
 br (!b2) (
 k false) (
 F82 _ a_Tok_Rest b_Tok_Rest fun b3 =>
 br (!b3) (
 k false) (
 F83 _ a_Queue b_Queue fun b4 =>
 br (!b4) (
 k false) (
 br (!(a_Ended == b_Ended)) (
 k false) (
 F84 _ a_Builder_Nodes a_Builder_Open b_Builder_Nodes b_Builder_Open fun b5 =>
 br (!b5) (
 k false) (
 F85 _ a_Slots b_Slots fun b6 =>
 br (!b6) (
 k false) (
 F86 _ a_Mods b_Mods fun b7 =>
 br (!b7) (
 k false) (
 F87 _ a_Entries b_Entries fun b8 =>
 br (!b8) (
 k false) (
 br (a_Block != b_Block) (
 k false) (
 br (a_Inline != b_Inline) (
 k false) (
 br (a_Deferred != b_Deferred) (
 k false) (
 br (a_Entered != b_Entered) (
 k false) (
 F87 _ a_Ran b_Ran fun b9 =>
 br (!b9) (
 k false) (
 F88 _ a_Log b_Log fun b10 =>
 br (!b10) (
 k false) (
 br (!(a_Loaded == b_Loaded)) (
 k false) (
 k true))))))))))))))))
def F22 : T22 := P22 F80 F81 F82 F83 F84 F85 F86 F87 F88 
abbrev s22 : List (Bool × List CK) := [(true, [.str, .str, .bool, .sl 1 true, .sl 1 true, .sl 1 true, .str, .str, .sl 4 false, .bool, .sl 4 false, .sl 1 true, .sl 8 true, .sl 5 true, .sl 2 true, .int .i64, .int .i64, .int .i64, .int .i64, .sl 2 true, .sl 1 true, .bool]), (true, [.str, .str, .bool, .sl 1 true, .sl 1 true, .sl 1 true, .str, .str, .sl 4 false, .bool, .sl 4 false, .sl 1 true, .sl 8 true, .sl 5 true, .sl 2 true, .int .i64, .int .i64, .int .i64, .int .i64, .sl 2 true, .sl 1 true, .bool])]
def G22 (F : T22) (β : Type) (e : (List UInt8 × List UInt8 × Bool × List V × List V × List V × List UInt8 × List UInt8 × List V × Bool × List V × List V × List V × List V × List V × Int × Int × Int × Int × List V × List V × Bool × Unit) × (List UInt8 × List UInt8 × Bool × List V × List V × List V × List UInt8 × List UInt8 × List V × Bool × List V × List V × List V × List V × List V × Int × Int × Int × Int × List V × List V × Bool × Unit) × Unit) (k : V → Option β) : Option β := let a0_0 := e.1; let a0_1 := a0_0.2; let a0_2 := a0_1.2; let a0_3 := a0_2.2; let a0_4 := a0_3.2; let a0_5 := a0_4.2; let a0_6 := a0_5.2; let a0_7 := a0_6.2; let a0_8 := a0_7.2; let a0_9 := a0_8.2; let a0_10 := a0_9.2; let a0_11 := a0_10.2; let a0_12 := a0_11.2; let a0_13 := a0_12.2; let a0_14 := a0_13.2; let a0_15 := a0_14.2; let a0_16 := a0_15.2; let a0_17 := a0_16.2; let a0_18 := a0_17.2; let a0_19 := a0_18.2; let a0_20 := a0_19.2; let a0_21 := a0_20.2; let a1_0 := e.2.1; let a1_1 := a1_0.2; let a1_2 := a1_1.2; let a1_3 := a1_2.2; let a1_4 := a1_3.2; let a1_5 := a1_4.2; let a1_6 := a1_5.2; let a1_7 := a1_6.2; let a1_8 := a1_7.2; let a1_9 := a1_8.2; let a1_10 := a1_9.2; let a1_11 := a1_10.2; let a1_12 := a1_11.2; let a1_13 := a1_12.2; let a1_14 := a1_13.2; let a1_15 := a1_14.2; let a1_16 := a1_15.2; let a1_17 := a1_16.2; let a1_18 := a1_17.2; let a1_19 := a1_18.2; let a1_20 := a1_19.2; let a1_21 := a1_20.2; F β a0_0.1 a0_1.1 a0_2.1 a0_3.1 a0_4.1 a0_5.1 a0_6.1 a0_7.1 a0_8.1 a0_9.1 a0_10.1 a0_11.1 a0_12.1 a0_13.1 a0_14.1 a0_15.1 a0_16.1 a0_17.1 a0_18.1 a0_19.1 a0_20.1 a0_21.1 a1_0.1 a1_1.1 a1_2.1 a1_3.1 a1_4.1 a1_5.1 a1_6.1 a1_7.1 a1_8.1 a1_9.1 a1_10.1 a1_11.1 a1_12.1 a1_13.1 a1_14.1 a1_15.1 a1_16.1 a1_17.1 a1_18.1 a1_19.1 a1_20.1 a1_21.1 (fun y1 => k (.bool y1))
abbrev W22 (F : T22) : WT := wrap s22 (G22 F)
theorem k22 (F80 : T80) (F81 : T81) (F82 : T82) (F83 : T83) (F84 : T84) (F85 : T85) (F86 : T86) (F87 : T87) (F88 : T88) (β : Type) (e : argsT s22) (k : V → Option β) : fnK cfg (tabL [(80, W80 F80), (81, W81 F81), (82, W82 F82), (83, W83 F83), (84, W84 F84), (85, W85 F85), (86, W86 F86), (87, W87 F87), (88, W88 F88)]) noX 22 Tryz.f22 β (argsEnc s22 e) k = G22 (P22 F80 F81 F82 F83 F84 F85 F86 F87 F88 ) β e k := by kernel_rfl
theorem ok22 : FnOk D 22 (W22 F22) := fn_okW [(80, W80 F80), (81, W81 F81), (82, W82 F82), (83, W83 F83), (84, W84 F84), (85, W85 F85), (86, W86 F86), (87, W87 F87), (88, W88 F88)] noX (fun _ => rfl) Tryz.func22 rfl (tabL_cons ok80 (tabL_cons ok81 (tabL_cons ok82 (tabL_cons ok83 (tabL_cons ok84 (tabL_cons ok85 (tabL_cons ok86 (tabL_cons ok87 (tabL_cons ok88 tabL_nil))))))))) (k22 F80 F81 F82 F83 F84 F85 F86 F87 F88 )

/-- laws.FnExactPageSound -/
abbrev T5 : Type 1 := (β : Type) → List UInt8 → List UInt8 → Bool → List V → List V → List V → List UInt8 → List UInt8 → List V → Bool → List V → List V → List V → List V → List V → Int → Int → Int → Int → List V → List V → Bool → (Bool → Option β) → Option β
def P5 (F18 : T18) (F20 : T20) (F19 : T19) (F21 : T21) (F22 : T22) : T5 := fun β aP_Addr_Host aP_Addr_Path aP_Policy_Set aP_Policy_Scripts aP_Policy_Styles aP_Policy_Images aP_Policy_Nonce aP_Tok_Rest aP_Queue aP_Ended aP_Builder_Nodes aP_Builder_Open aP_Slots aP_Mods aP_Entries aP_Block aP_Inline aP_Deferred aP_Entered aP_Ran aP_Log aP_Loaded k =>
 F18 _ aP_Addr_Host aP_Addr_Path aP_Policy_Set aP_Policy_Scripts aP_Policy_Styles aP_Policy_Images aP_Policy_Nonce aP_Tok_Rest aP_Queue aP_Ended aP_Builder_Nodes aP_Builder_Open aP_Slots aP_Mods aP_Entries aP_Block aP_Inline aP_Deferred aP_Entered aP_Ran aP_Log aP_Loaded 1048576 fun n1 =>
 br (decide (n1 < 0)) (
 k true) (
 F20 _ aP_Addr_Host aP_Addr_Path aP_Policy_Set aP_Policy_Scripts aP_Policy_Styles aP_Policy_Images aP_Policy_Nonce aP_Tok_Rest aP_Queue aP_Ended aP_Builder_Nodes aP_Builder_Open aP_Slots aP_Mods aP_Entries aP_Block aP_Inline aP_Deferred aP_Entered aP_Ran aP_Log aP_Loaded fun t2 t3 b4 l5 l6 l7 t8 t9 l10 b11 l12 l13 l14 l15 l16 n17 n18 n19 n20 l21 l22 b23 =>
 F19 _ t2 t3 b4 l5 l6 l7 t8 t9 l10 b11 l12 l13 l14 l15 l16 n17 n18 n19 n20 l21 l22 b23 fun b24 =>
 F20 _ aP_Addr_Host aP_Addr_Path aP_Policy_Set aP_Policy_Scripts aP_Policy_Styles aP_Policy_Images aP_Policy_Nonce aP_Tok_Rest aP_Queue aP_Ended aP_Builder_Nodes aP_Builder_Open aP_Slots aP_Mods aP_Entries aP_Block aP_Inline aP_Deferred aP_Entered aP_Ran aP_Log aP_Loaded fun t25 t26 b27 l28 l29 l30 t31 t32 l33 b34 l35 l36 l37 l38 l39 n40 n41 n42 n43 l44 l45 b46 =>
 F21 _ t25 t26 b27 l28 l29 l30 t31 t32 l33 b34 l35 l36 l37 l38 l39 n40 n41 n42 n43 l44 l45 b46 fun b47 =>
 br (!(b47 == b24)) (
 k false) (
 F20 _ aP_Addr_Host aP_Addr_Path aP_Policy_Set aP_Policy_Scripts aP_Policy_Styles aP_Policy_Images aP_Policy_Nonce aP_Tok_Rest aP_Queue aP_Ended aP_Builder_Nodes aP_Builder_Open aP_Slots aP_Mods aP_Entries aP_Block aP_Inline aP_Deferred aP_Entered aP_Ran aP_Log aP_Loaded fun t48 t49 b50 l51 l52 l53 t54 t55 l56 b57 l58 l59 l60 l61 l62 n63 n64 n65 n66 l67 l68 b69 =>
 F22 _ t25 t26 b27 l28 l29 l30 t31 t32 l33 b34 l35 l36 l37 l38 l39 n40 n41 n42 n43 l44 l45 b46 t48 t49 b50 l51 l52 l53 t54 t55 l56 b57 l58 l59 l60 l61 l62 n63 n64 n65 n66 l67 l68 b69 fun b70 =>
 br (!b70) (
 k false) (
 k true)))
def F5 : T5 := P5 F18 F20 F19 F21 F22 
abbrev s5 : List (Bool × List CK) := [(true, [.str, .str, .bool, .sl 1 true, .sl 1 true, .sl 1 true, .str, .str, .sl 4 false, .bool, .sl 4 false, .sl 1 true, .sl 8 true, .sl 5 true, .sl 2 true, .int .i64, .int .i64, .int .i64, .int .i64, .sl 2 true, .sl 1 true, .bool])]
def G5 (F : T5) (β : Type) (e : (List UInt8 × List UInt8 × Bool × List V × List V × List V × List UInt8 × List UInt8 × List V × Bool × List V × List V × List V × List V × List V × Int × Int × Int × Int × List V × List V × Bool × Unit) × Unit) (k : V → Option β) : Option β := let a0_0 := e.1; let a0_1 := a0_0.2; let a0_2 := a0_1.2; let a0_3 := a0_2.2; let a0_4 := a0_3.2; let a0_5 := a0_4.2; let a0_6 := a0_5.2; let a0_7 := a0_6.2; let a0_8 := a0_7.2; let a0_9 := a0_8.2; let a0_10 := a0_9.2; let a0_11 := a0_10.2; let a0_12 := a0_11.2; let a0_13 := a0_12.2; let a0_14 := a0_13.2; let a0_15 := a0_14.2; let a0_16 := a0_15.2; let a0_17 := a0_16.2; let a0_18 := a0_17.2; let a0_19 := a0_18.2; let a0_20 := a0_19.2; let a0_21 := a0_20.2; F β a0_0.1 a0_1.1 a0_2.1 a0_3.1 a0_4.1 a0_5.1 a0_6.1 a0_7.1 a0_8.1 a0_9.1 a0_10.1 a0_11.1 a0_12.1 a0_13.1 a0_14.1 a0_15.1 a0_16.1 a0_17.1 a0_18.1 a0_19.1 a0_20.1 a0_21.1 (fun y1 => k (.bool y1))
abbrev W5 (F : T5) : WT := wrap s5 (G5 F)
theorem k5 (F18 : T18) (F20 : T20) (F19 : T19) (F21 : T21) (F22 : T22) (β : Type) (e : argsT s5) (k : V → Option β) : fnK cfg (tabL [(18, W18 F18), (20, W20 F20), (19, W19 F19), (21, W21 F21), (22, W22 F22)]) noX 5 Tryz.f5 β (argsEnc s5 e) k = G5 (P5 F18 F20 F19 F21 F22 ) β e k := by kernel_rfl
theorem ok5 : FnOk D 5 (W5 F5) := fn_okW [(18, W18 F18), (20, W20 F20), (19, W19 F19), (21, W21 F21), (22, W22 F22)] noX (fun _ => rfl) Tryz.func5 rfl (tabL_cons ok18 (tabL_cons ok20 (tabL_cons ok19 (tabL_cons ok21 (tabL_cons ok22 tabL_nil))))) (k5 F18 F20 F19 F21 F22 )

/-- laws.szVisit -/
abbrev T151 : Type 1 := (β : Type) → List UInt8 → List UInt8 → List UInt8 → List UInt8 → Bool → List V → List V → List V → List UInt8 → List UInt8 → List V → Bool → List V → List V → List V → List V → List V → Int → Int → Int → Int → List V → List V → Bool → Bool → Int → (Int → Option β) → Option β
def P151 (F50 : T50) (F18 : T18) : T151 := fun β a_Addr_Host a_Addr_Path a_Page_Addr_Host a_Page_Addr_Path a_Page_Policy_Set a_Page_Policy_Scripts a_Page_Policy_Styles a_Page_Policy_Images a_Page_Policy_Nonce a_Page_Tok_Rest a_Page_Queue a_Page_Ended a_Page_Builder_Nodes a_Page_Builder_Open a_Page_Slots a_Page_Mods a_Page_Entries a_Page_Block a_Page_Inline a_Page_Deferred a_Page_Entered a_Page_Ran a_Page_Log a_Page_Loaded a_Kept left k =>
 F50 _ a_Addr_Host a_Addr_Path left fun n1 =>
 br (decide (n1 < 0)) (
 k (-1)) (
 F18 _ a_Page_Addr_Host a_Page_Addr_Path a_Page_Policy_Set a_Page_Policy_Scripts a_Page_Policy_Styles a_Page_Policy_Images a_Page_Policy_Nonce a_Page_Tok_Rest a_Page_Queue a_Page_Ended a_Page_Builder_Nodes a_Page_Builder_Open a_Page_Slots a_Page_Mods a_Page_Entries a_Page_Block a_Page_Inline a_Page_Deferred a_Page_Entered a_Page_Ran a_Page_Log a_Page_Loaded n1 fun n2 =>
 br (decide (n2 < 0)) (
 k (-1)) (
 k n2))
def F151 : T151 := P151 F50 F18 
abbrev s151 : List (Bool × List CK) := [(true, [.str, .str, .str, .str, .bool, .sl 1 true, .sl 1 true, .sl 1 true, .str, .str, .sl 4 false, .bool, .sl 4 false, .sl 1 true, .sl 8 true, .sl 5 true, .sl 2 true, .int .i64, .int .i64, .int .i64, .int .i64, .sl 2 true, .sl 1 true, .bool, .bool]), (false, [.int .i64])]
def G151 (F : T151) (β : Type) (e : (List UInt8 × List UInt8 × List UInt8 × List UInt8 × Bool × List V × List V × List V × List UInt8 × List UInt8 × List V × Bool × List V × List V × List V × List V × List V × Int × Int × Int × Int × List V × List V × Bool × Bool × Unit) × (Int × Unit) × Unit) (k : V → Option β) : Option β := let a0_0 := e.1; let a0_1 := a0_0.2; let a0_2 := a0_1.2; let a0_3 := a0_2.2; let a0_4 := a0_3.2; let a0_5 := a0_4.2; let a0_6 := a0_5.2; let a0_7 := a0_6.2; let a0_8 := a0_7.2; let a0_9 := a0_8.2; let a0_10 := a0_9.2; let a0_11 := a0_10.2; let a0_12 := a0_11.2; let a0_13 := a0_12.2; let a0_14 := a0_13.2; let a0_15 := a0_14.2; let a0_16 := a0_15.2; let a0_17 := a0_16.2; let a0_18 := a0_17.2; let a0_19 := a0_18.2; let a0_20 := a0_19.2; let a0_21 := a0_20.2; let a0_22 := a0_21.2; let a0_23 := a0_22.2; let a0_24 := a0_23.2; F β a0_0.1 a0_1.1 a0_2.1 a0_3.1 a0_4.1 a0_5.1 a0_6.1 a0_7.1 a0_8.1 a0_9.1 a0_10.1 a0_11.1 a0_12.1 a0_13.1 a0_14.1 a0_15.1 a0_16.1 a0_17.1 a0_18.1 a0_19.1 a0_20.1 a0_21.1 a0_22.1 a0_23.1 a0_24.1 e.2.1.1 (fun y1 => k (.int .i64 y1))
abbrev W151 (F : T151) : WT := wrap s151 (G151 F)
theorem k151 (F50 : T50) (F18 : T18) (β : Type) (e : argsT s151) (k : V → Option β) : fnK cfg (tabL [(50, W50 F50), (18, W18 F18)]) noX 151 Tryz.f151 β (argsEnc s151 e) k = G151 (P151 F50 F18 ) β e k := by kernel_rfl
theorem ok151 : FnOk D 151 (W151 F151) := fn_okW [(50, W50 F50), (18, W18 F18)] noX (fun _ => rfl) Tryz.func151 rfl (tabL_cons ok50 (tabL_cons ok18 tabL_nil)) (k151 F50 F18 )

/-- laws.szVisitS -/
abbrev T89 : Type 1 := (β : Type) → List V → Int → (Int → Option β) → Option β
def P89 (F151 : T151) : T89 := fun β a left k =>
 br (decide (IntKind.wrap .i64 (left - (a.length : Int)) < 0)) (
 k (-1)) (
 whileK (fun s1 =>
 br (decide ((lI s1 2) < ((lL s1 0).length : Int))) (
 chk (0 ≤ (lI s1 2)) <|
 idx true [.str, .str, .str, .str, .bool, .sl 1 true, .sl 1 true, .sl 1 true, .str, .str, .sl 4 false, .bool, .sl 4 false, .sl 1 true, .sl 8 true, .sl 5 true, .sl 2 true, .int .i64, .int .i64, .int .i64, .int .i64, .sl 2 true, .sl 1 true, .bool, .bool] (lL s1 0) ((lI s1 2).toNat) fun (e2 : List UInt8 × List UInt8 × List UInt8 × List UInt8 × Bool × List V × List V × List V × List UInt8 × List UInt8 × List V × Bool × List V × List V × List V × List V × List V × Int × Int × Int × Int × List V × List V × Bool × Bool × Unit) =>
 F151 _ e2.1 e2.2.1 e2.2.2.1 e2.2.2.2.1 e2.2.2.2.2.1 e2.2.2.2.2.2.1 e2.2.2.2.2.2.2.1 e2.2.2.2.2.2.2.2.1 e2.2.2.2.2.2.2.2.2.1 e2.2.2.2.2.2.2.2.2.2.1 e2.2.2.2.2.2.2.2.2.2.2.1 e2.2.2.2.2.2.2.2.2.2.2.2.1 e2.2.2.2.2.2.2.2.2.2.2.2.2.1 e2.2.2.2.2.2.2.2.2.2.2.2.2.2.1 e2.2.2.2.2.2.2.2.2.2.2.2.2.2.2.1 e2.2.2.2.2.2.2.2.2.2.2.2.2.2.2.2.1 e2.2.2.2.2.2.2.2.2.2.2.2.2.2.2.2.2.1 e2.2.2.2.2.2.2.2.2.2.2.2.2.2.2.2.2.2.1 e2.2.2.2.2.2.2.2.2.2.2.2.2.2.2.2.2.2.2.1 e2.2.2.2.2.2.2.2.2.2.2.2.2.2.2.2.2.2.2.2.1 e2.2.2.2.2.2.2.2.2.2.2.2.2.2.2.2.2.2.2.2.2.1 e2.2.2.2.2.2.2.2.2.2.2.2.2.2.2.2.2.2.2.2.2.2.1 e2.2.2.2.2.2.2.2.2.2.2.2.2.2.2.2.2.2.2.2.2.2.2.1 e2.2.2.2.2.2.2.2.2.2.2.2.2.2.2.2.2.2.2.2.2.2.2.2.1 e2.2.2.2.2.2.2.2.2.2.2.2.2.2.2.2.2.2.2.2.2.2.2.2.2.1 (lI s1 1) fun n3 =>
 br (decide (n3 < 0)) (
 some (.inr (0, [.i n3, .i (-1)]))) (
 some (.inl [.l (lL s1 0), .i n3, .i (IntKind.wrap .i64 ((lI s1 2) + 1))]))) (
 some (.inr (1, [.i (lI s1 1)])))) [.l a, .i (IntKind.wrap .i64 (left - (a.length : Int))), .i 0] fun (r4 : Nat × List Leaf) =>
 if r4.1 = 0 then
 k (lI r4.2 1)
 else
 k (lI r4.2 0))
def F89 : T89 := P89 F151 
def X89 : Exits := fun i => lookN i [] [(5, [(.ret, xk 27 [(1, .int .i64 0), (4, .int .i64 0)] []), (.exit 0, xk 27 [(1, .int .i64 0)] [])])]
abbrev s89 : List (Bool × List CK) := [(false, [.sl 25 false]), (false, [.int .i64])]
def G89 (F : T89) (β : Type) (e : (List V × Unit) × (Int × Unit) × Unit) (k : V → Option β) : Option β := F β e.1.1 e.2.1.1 (fun y1 => k (.int .i64 y1))
abbrev W89 (F : T89) : WT := wrap s89 (G89 F)
theorem k89 (F151 : T151) (β : Type) (e : argsT s89) (k : V → Option β) : fnK cfg (tabL [(151, W151 F151)]) X89 89 Tryz.f89 β (argsEnc s89 e) k = G89 (P89 F151 ) β e k := by kernel_rfl
theorem ok89 : FnOk D 89 (W89 F89) := fn_okW [(151, W151 F151)] X89 (fun _ => rfl) Tryz.func89 rfl (tabL_cons ok151 tabL_nil) (k89 F151 )

/-- laws.szTab -/
abbrev T23 : Type 1 := (β : Type) → List V → Int → Int → (Int → Option β) → Option β
def P23 (F89 : T89) : T23 := fun β a_Visits a_At left k =>
 F89 _ a_Visits left fun n1 =>
 br (decide (n1 < 0)) (
 k (-1)) (
 k n1)
def F23 : T23 := P23 F89 
abbrev s23 : List (Bool × List CK) := [(true, [.sl 25 false, .int .i64]), (false, [.int .i64])]
def G23 (F : T23) (β : Type) (e : (List V × Int × Unit) × (Int × Unit) × Unit) (k : V → Option β) : Option β := F β e.1.1 e.1.2.1 e.2.1.1 (fun y1 => k (.int .i64 y1))
abbrev W23 (F : T23) : WT := wrap s23 (G23 F)
theorem k23 (F89 : T89) (β : Type) (e : argsT s23) (k : V → Option β) : fnK cfg (tabL [(89, W89 F89)]) noX 23 Tryz.f23 β (argsEnc s23 e) k = G23 (P23 F89 ) β e k := by kernel_rfl
theorem ok23 : FnOk D 23 (W23 F23) := fn_okW [(89, W89 F89)] noX (fun _ => rfl) Tryz.func23 rfl (tabL_cons ok89 tabL_nil) (k23 F89 )

/-- laws.toVisit -/
abbrev T152 : Type 1 := (β : Type) → List UInt8 → List UInt8 → List UInt8 → List UInt8 → Bool → List V → List V → List V → List UInt8 → List UInt8 → List V → Bool → List V → List V → List V → List V → List V → Int → Int → Int → Int → List V → List V → Bool → Bool → (List UInt8 → List UInt8 → List UInt8 → List UInt8 → Bool → List V → List V → List V → List UInt8 → List UInt8 → List V → Bool → List V → List V → List V → List V → List V → Int → Int → Int → Int → List V → List V → Bool → Bool → Option β) → Option β
def P152 (F65 : T65) (F20 : T20) : T152 := fun β a_Addr_Host a_Addr_Path a_Page_Addr_Host a_Page_Addr_Path a_Page_Policy_Set a_Page_Policy_Scripts a_Page_Policy_Styles a_Page_Policy_Images a_Page_Policy_Nonce a_Page_Tok_Rest a_Page_Queue a_Page_Ended a_Page_Builder_Nodes a_Page_Builder_Open a_Page_Slots a_Page_Mods a_Page_Entries a_Page_Block a_Page_Inline a_Page_Deferred a_Page_Entered a_Page_Ran a_Page_Log a_Page_Loaded a_Kept k =>
 F65 _ a_Addr_Host a_Addr_Path fun t1 t2 =>
 F20 _ a_Page_Addr_Host a_Page_Addr_Path a_Page_Policy_Set a_Page_Policy_Scripts a_Page_Policy_Styles a_Page_Policy_Images a_Page_Policy_Nonce a_Page_Tok_Rest a_Page_Queue a_Page_Ended a_Page_Builder_Nodes a_Page_Builder_Open a_Page_Slots a_Page_Mods a_Page_Entries a_Page_Block a_Page_Inline a_Page_Deferred a_Page_Entered a_Page_Ran a_Page_Log a_Page_Loaded fun t3 t4 b5 l6 l7 l8 t9 t10 l11 b12 l13 l14 l15 l16 l17 n18 n19 n20 n21 l22 l23 b24 =>
 k t1 t2 t3 t4 b5 l6 l7 l8 t9 t10 l11 b12 l13 l14 l15 l16 l17 n18 n19 n20 n21 l22 l23 b24 a_Kept
def F152 : T152 := P152 F65 F20 
abbrev s152 : List (Bool × List CK) := [(true, [.str, .str, .str, .str, .bool, .sl 1 true, .sl 1 true, .sl 1 true, .str, .str, .sl 4 false, .bool, .sl 4 false, .sl 1 true, .sl 8 true, .sl 5 true, .sl 2 true, .int .i64, .int .i64, .int .i64, .int .i64, .sl 2 true, .sl 1 true, .bool, .bool])]
def G152 (F : T152) (β : Type) (e : (List UInt8 × List UInt8 × List UInt8 × List UInt8 × Bool × List V × List V × List V × List UInt8 × List UInt8 × List V × Bool × List V × List V × List V × List V × List V × Int × Int × Int × Int × List V × List V × Bool × Bool × Unit) × Unit) (k : V → Option β) : Option β := let a0_0 := e.1; let a0_1 := a0_0.2; let a0_2 := a0_1.2; let a0_3 := a0_2.2; let a0_4 := a0_3.2; let a0_5 := a0_4.2; let a0_6 := a0_5.2; let a0_7 := a0_6.2; let a0_8 := a0_7.2; let a0_9 := a0_8.2; let a0_10 := a0_9.2; let a0_11 := a0_10.2; let a0_12 := a0_11.2; let a0_13 := a0_12.2; let a0_14 := a0_13.2; let a0_15 := a0_14.2; let a0_16 := a0_15.2; let a0_17 := a0_16.2; let a0_18 := a0_17.2; let a0_19 := a0_18.2; let a0_20 := a0_19.2; let a0_21 := a0_20.2; let a0_22 := a0_21.2; let a0_23 := a0_22.2; let a0_24 := a0_23.2; F β a0_0.1 a0_1.1 a0_2.1 a0_3.1 a0_4.1 a0_5.1 a0_6.1 a0_7.1 a0_8.1 a0_9.1 a0_10.1 a0_11.1 a0_12.1 a0_13.1 a0_14.1 a0_15.1 a0_16.1 a0_17.1 a0_18.1 a0_19.1 a0_20.1 a0_21.1 a0_22.1 a0_23.1 a0_24.1 (fun y1 y2 y3 y4 y5 y6 y7 y8 y9 y10 y11 y12 y13 y14 y15 y16 y17 y18 y19 y20 y21 y22 y23 y24 y25 => k (.agg [.str y1, .str y2, .str y3, .str y4, .bool y5, .own 5 1 .flat y6, .own 6 1 .flat y7, .own 7 1 .flat y8, .str y9, .str y10, .own 10 4 .clean y11, .bool y12, .own 12 4 .clean y13, .own 13 1 .flat y14, .own 14 8 .flat y15, .own 15 5 .flat y16, .own 16 2 .flat y17, .int .i64 y18, .int .i64 y19, .int .i64 y20, .int .i64 y21, .own 21 2 .flat y22, .own 22 1 .flat y23, .bool y24, .bool y25]))
abbrev W152 (F : T152) : WT := wrap s152 (G152 F)
theorem k152 (F65 : T65) (F20 : T20) (β : Type) (e : argsT s152) (k : V → Option β) : fnK cfg (tabL [(65, W65 F65), (20, W20 F20)]) noX 152 Tryz.f152 β (argsEnc s152 e) k = G152 (P152 F65 F20 ) β e k := by kernel_rfl
theorem ok152 : FnOk D 152 (W152 F152) := fn_okW [(65, W65 F65), (20, W20 F20)] noX (fun _ => rfl) Tryz.func152 rfl (tabL_cons ok65 (tabL_cons ok20 tabL_nil)) (k152 F65 F20 )

/-- laws.toVisitS -/
abbrev T91 : Type 1 := (β : Type) → List V → (List V → Option β) → Option β
def P91 (F152 : T152) : T91 := fun β a k =>
 chk (0 ≤ (a.length : Int) ∧ (a.length : Int) ≤ (a.length : Int) ∧ (a.length : Int) * 424 ≤ 140737488355328 ∧ (a.length : Int) ≤ 140737488355328) <|
 whileK (fun s1 =>
 br (decide ((lI s1 2) < ((lL s1 0).length : Int))) (
 chk (0 ≤ (lI s1 2)) <|
 idx true [.str, .str, .str, .str, .bool, .sl 1 true, .sl 1 true, .sl 1 true, .str, .str, .sl 4 false, .bool, .sl 4 false, .sl 1 true, .sl 8 true, .sl 5 true, .sl 2 true, .int .i64, .int .i64, .int .i64, .int .i64, .sl 2 true, .sl 1 true, .bool, .bool] (lL s1 0) ((lI s1 2).toNat) fun (e2 : List UInt8 × List UInt8 × List UInt8 × List UInt8 × Bool × List V × List V × List V × List UInt8 × List UInt8 × List V × Bool × List V × List V × List V × List V × List V × Int × Int × Int × Int × List V × List V × Bool × Bool × Unit) =>
 F152 _ e2.1 e2.2.1 e2.2.2.1 e2.2.2.2.1 e2.2.2.2.2.1 e2.2.2.2.2.2.1 e2.2.2.2.2.2.2.1 e2.2.2.2.2.2.2.2.1 e2.2.2.2.2.2.2.2.2.1 e2.2.2.2.2.2.2.2.2.2.1 e2.2.2.2.2.2.2.2.2.2.2.1 e2.2.2.2.2.2.2.2.2.2.2.2.1 e2.2.2.2.2.2.2.2.2.2.2.2.2.1 e2.2.2.2.2.2.2.2.2.2.2.2.2.2.1 e2.2.2.2.2.2.2.2.2.2.2.2.2.2.2.1 e2.2.2.2.2.2.2.2.2.2.2.2.2.2.2.2.1 e2.2.2.2.2.2.2.2.2.2.2.2.2.2.2.2.2.1 e2.2.2.2.2.2.2.2.2.2.2.2.2.2.2.2.2.2.1 e2.2.2.2.2.2.2.2.2.2.2.2.2.2.2.2.2.2.2.1 e2.2.2.2.2.2.2.2.2.2.2.2.2.2.2.2.2.2.2.2.1 e2.2.2.2.2.2.2.2.2.2.2.2.2.2.2.2.2.2.2.2.2.1 e2.2.2.2.2.2.2.2.2.2.2.2.2.2.2.2.2.2.2.2.2.2.1 e2.2.2.2.2.2.2.2.2.2.2.2.2.2.2.2.2.2.2.2.2.2.2.1 e2.2.2.2.2.2.2.2.2.2.2.2.2.2.2.2.2.2.2.2.2.2.2.2.1 e2.2.2.2.2.2.2.2.2.2.2.2.2.2.2.2.2.2.2.2.2.2.2.2.2.1 fun t3 t4 t5 t6 b7 l8 l9 l10 t11 t12 l13 b14 l15 l16 l17 l18 l19 n20 n21 n22 n23 l24 l25 b26 b27 =>
 chk (0 ≤ (lI s1 2) ∧ (lI s1 2).toNat < (lL s1 1).length) <|
 storeO (lL s1 1) ((lI s1 2).toNat) 0 [.str t3, .str t4, .str t5, .str t6, .bool b7, .sl 1 true l8, .sl 1 true l9, .sl 1 true l10, .str t11, .str t12, .sl 4 false l13, .bool b14, .sl 4 false l15, .sl 1 true l16, .sl 8 true l17, .sl 5 true l18, .sl 2 true l19, .int .i64 n20, .int .i64 n21, .int .i64 n22, .int .i64 n23, .sl 2 true l24, .sl 1 true l25, .bool b26, .bool b27] fun l28 =>
 some (.inl [.l (lL s1 0), .l l28, .i (IntKind.wrap .i64 ((lI s1 2) + 1))])) (
 some (.inr (0, [.l (lL s1 1)])))) [.l a, .l (List.replicate ((a.length : Int).toNat) (.agg [.str [], .str [], .str [], .str [], .bool false, .sl 1 true [], .sl 1 true [], .sl 1 true [], .str [], .str [], .sl 4 false [], .bool false, .sl 4 false [], .sl 1 true [], .sl 8 true [], .sl 5 true [], .sl 2 true [], .int .i64 0, .int .i64 0, .int .i64 0, .int .i64 0, .sl 2 true [], .sl 1 true [], .bool false, .bool false])), .i 0] fun (r29 : Nat × List Leaf) =>
 k (lL r29.2 0)
def F91 : T91 := P91 F152 
def X91 : Exits := fun i => lookN i [] [(3, [(.exit 0, xk 23 [(3, .own 1000000 25 .clean [])] [])])]
abbrev s91 : List (Bool × List CK) := [(false, [.sl 25 false])]
def G91 (F : T91) (β : Type) (e : (List V × Unit) × Unit) (k : V → Option β) : Option β := F β e.1.1 (fun y1 => k (.own 0 25 .clean y1))
abbrev W91 (F : T91) : WT := wrap s91 (G91 F)
theorem k91 (F152 : T152) (β : Type) (e : argsT s91) (k : V → Option β) : fnK cfg (tabL [(152, W152 F152)]) X91 91 Tryz.f91 β (argsEnc s91 e) k = G91 (P91 F152 ) β e k := by kernel_rfl
theorem ok91 : FnOk D 91 (W91 F91) := fn_okW [(152, W152 F152)] X91 (fun _ => rfl) Tryz.func91 rfl (tabL_cons ok152 tabL_nil) (k91 F152 )

/-- laws.toTab -/
abbrev T25 : Type 1 := (β : Type) → List V → Int → (List V → Int → Option β) → Option β
def P25 (F91 : T91) : T25 := fun β a_Visits a_At k =>
 F91 _ a_Visits fun l1 =>
 k l1 a_At
def F25 : T25 := P25 F91 
abbrev s25 : List (Bool × List CK) := [(true, [.sl 25 false, .int .i64])]
def G25 (F : T25) (β : Type) (e : (List V × Int × Unit) × Unit) (k : V → Option β) : Option β := F β e.1.1 e.1.2.1 (fun y1 y2 => k (.agg [.own 0 25 .clean y1, .int .i64 y2]))
abbrev W25 (F : T25) : WT := wrap s25 (G25 F)
theorem k25 (F91 : T91) (β : Type) (e : argsT s25) (k : V → Option β) : fnK cfg (tabL [(91, W91 F91)]) noX 25 Tryz.f25 β (argsEnc s25 e) k = G25 (P25 F91 ) β e k := by kernel_rfl
theorem ok25 : FnOk D 25 (W25 F25) := fn_okW [(91, W91 F91)] noX (fun _ => rfl) Tryz.func25 rfl (tabL_cons ok91 tabL_nil) (k25 F91 )

/-- spec.IsTab -/
abbrev T90 : Type 1 := (β : Type) → List V → Int → (Bool → Option β) → Option β
def P90 (F133 : T133) : T90 := fun β t_Visits t_At k =>
 whileK (fun s1 =>
 br (decide ((lI s1 0) < ((lL s1 1).length : Int))) (
 chk (0 ≤ (lI s1 0)) <|
 idx true [.str, .str, .str, .str, .bool, .sl 1 true, .sl 1 true, .sl 1 true, .str, .str, .sl 4 false, .bool, .sl 4 false, .sl 1 true, .sl 8 true, .sl 5 true, .sl 2 true, .int .i64, .int .i64, .int .i64, .int .i64, .sl 2 true, .sl 1 true, .bool, .bool] (lL s1 1) ((lI s1 0).toNat) fun (e2 : List UInt8 × List UInt8 × List UInt8 × List UInt8 × Bool × List V × List V × List V × List UInt8 × List UInt8 × List V × Bool × List V × List V × List V × List V × List V × Int × Int × Int × Int × List V × List V × Bool × Bool × Unit) =>
 br e2.2.2.2.2.2.2.2.2.2.2.2.2.2.2.2.2.2.2.2.2.2.2.2.2.1 (
 chk (0 ≤ (lI s1 0)) <|
 idx true [.str, .str, .str, .str, .bool, .sl 1 true, .sl 1 true, .sl 1 true, .str, .str, .sl 4 false, .bool, .sl 4 false, .sl 1 true, .sl 8 true, .sl 5 true, .sl 2 true, .int .i64, .int .i64, .int .i64, .int .i64, .sl 2 true, .sl 1 true, .bool, .bool] (lL s1 1) ((lI s1 0).toNat) fun (e3 : List UInt8 × List UInt8 × List UInt8 × List UInt8 × Bool × List V × List V × List V × List UInt8 × List UInt8 × List V × Bool × List V × List V × List V × List V × List V × Int × Int × Int × Int × List V × List V × Bool × Bool × Unit) =>
 chk (0 ≤ (lI s1 0)) <|
 idx true [.str, .str, .str, .str, .bool, .sl 1 true, .sl 1 true, .sl 1 true, .str, .str, .sl 4 false, .bool, .sl 4 false, .sl 1 true, .sl 8 true, .sl 5 true, .sl 2 true, .int .i64, .int .i64, .int .i64, .int .i64, .sl 2 true, .sl 1 true, .bool, .bool] (lL s1 1) ((lI s1 0).toNat) fun (e4 : List UInt8 × List UInt8 × List UInt8 × List UInt8 × Bool × List V × List V × List V × List UInt8 × List UInt8 × List V × Bool × List V × List V × List V × List V × List V × Int × Int × Int × Int × List V × List V × Bool × Bool × Unit) =>
 br (!((e3.1 == e4.2.2.1) && ((e3.2.1 == e4.2.2.2.1) && true))) (
 some (.inr (0, [.b false, .l (lL s1 1), .i (lI s1 2)]))) (
 some (.inl [.i (IntKind.wrap .i64 ((lI s1 0) + 1)), .l (lL s1 1), .i (lI s1 2)]))) (
 some (.inl [.i (IntKind.wrap .i64 ((lI s1 0) + 1)), .l (lL s1 1), .i (lI s1 2)]))) (
 some (.inr (1, [.l (lL s1 1), .i (lI s1 2)])))) [.i 0, .l t_Visits, .i t_At] fun (r5 : Nat × List Leaf) =>
 if r5.1 = 0 then
 k (lB r5.2 0)
 else
 br (decide (((lL r5.2 0).length : Int) ≤ 6)) (
 br (((lL r5.2 0).length : Int) == 0) (
 br ((lI r5.2 1) == (-1)) (
 k true) (
 F133 _ (lI r5.2 1) 0 (IntKind.wrap .i64 (((lL r5.2 0).length : Int) - 1)) fun b6 =>
 k b6)) (
 F133 _ (lI r5.2 1) 0 (IntKind.wrap .i64 (((lL r5.2 0).length : Int) - 1)) fun b7 =>
 k b7)) (
 k false)
def F90 : T90 := P90 F133 
def X90 : Exits := fun i => lookN i [] [(2, [(.ret, xk 57 [(1, .ptr 1 0), (2, .bool false)] [(1, .agg [.sl 25 false [], .int .i64 0])]), (.exit 0, xk 57 [(1, .ptr 1 0)] [(1, .agg [.sl 25 false [], .int .i64 0])])])]
abbrev s90 : List (Bool × List CK) := [(true, [.sl 25 false, .int .i64])]
def G90 (F : T90) (β : Type) (e : (List V × Int × Unit) × Unit) (k : V → Option β) : Option β := F β e.1.1 e.1.2.1 (fun y1 => k (.bool y1))
abbrev W90 (F : T90) : WT := wrap s90 (G90 F)
theorem k90 (F133 : T133) (β : Type) (e : argsT s90) (k : V → Option β) : fnK cfg (tabL [(133, W133 F133)]) X90 90 Tryz.f90 β (argsEnc s90 e) k = G90 (P90 F133 ) β e k := by kernel_rfl
theorem ok90 : FnOk D 90 (W90 F90) := fn_okW [(133, W133 F133)] X90 (fun _ => rfl) Tryz.func90 rfl (tabL_cons ok133 tabL_nil) (k90 F133 )

/-- spec.TabSound -/
abbrev T24 : Type 1 := (β : Type) → List V → Int → (Bool → Option β) → Option β
def P24 (F19 : T19) (F90 : T90) : T24 := fun β t_Visits t_At k =>
 whileK (fun s1 =>
 br (decide ((lI s1 0) < ((lL s1 1).length : Int))) (
 chk (0 ≤ (lI s1 0)) <|
 idx true [.str, .str, .str, .str, .bool, .sl 1 true, .sl 1 true, .sl 1 true, .str, .str, .sl 4 false, .bool, .sl 4 false, .sl 1 true, .sl 8 true, .sl 5 true, .sl 2 true, .int .i64, .int .i64, .int .i64, .int .i64, .sl 2 true, .sl 1 true, .bool, .bool] (lL s1 1) ((lI s1 0).toNat) fun (e2 : List UInt8 × List UInt8 × List UInt8 × List UInt8 × Bool × List V × List V × List V × List UInt8 × List UInt8 × List V × Bool × List V × List V × List V × List V × List V × Int × Int × Int × Int × List V × List V × Bool × Bool × Unit) =>
 br e2.2.2.2.2.2.2.2.2.2.2.2.2.2.2.2.2.2.2.2.2.2.2.2.2.1 (
 chk (0 ≤ (lI s1 0)) <|
 idx true [.str, .str, .str, .str, .bool, .sl 1 true, .sl 1 true, .sl 1 true, .str, .str, .sl 4 false, .bool, .sl 4 false, .sl 1 true, .sl 8 true, .sl 5 true, .sl 2 true, .int .i64, .int .i64, .int .i64, .int .i64, .sl 2 true, .sl 1 true, .bool, .bool] (lL s1 1) ((lI s1 0).toNat) fun (e3 : List UInt8 × List UInt8 × List UInt8 × List UInt8 × Bool × List V × List V × List V × List UInt8 × List UInt8 × List V × Bool × List V × List V × List V × List V × List V × Int × Int × Int × Int × List V × List V × Bool × Bool × Unit) =>
 br (decide ((e3.2.2.2.2.2.2.2.2.2.2.2.2.1.length : Int) > 0)) (
 chk (0 ≤ (lI s1 0)) <|
 idx true [.str, .str, .str, .str, .bool, .sl 1 true, .sl 1 true, .sl 1 true, .str, .str, .sl 4 false, .bool, .sl 4 false, .sl 1 true, .sl 8 true, .sl 5 true, .sl 2 true, .int .i64, .int .i64, .int .i64, .int .i64, .sl 2 true, .sl 1 true, .bool, .bool] (lL s1 1) ((lI s1 0).toNat) fun (e4 : List UInt8 × List UInt8 × List UInt8 × List UInt8 × Bool × List V × List V × List V × List UInt8 × List UInt8 × List V × Bool × List V × List V × List V × List V × List V × Int × Int × Int × Int × List V × List V × Bool × Bool × Unit) =>
 F19 _ e4.2.2.1 e4.2.2.2.1 e4.2.2.2.2.1 e4.2.2.2.2.2.1 e4.2.2.2.2.2.2.1 e4.2.2.2.2.2.2.2.1 e4.2.2.2.2.2.2.2.2.1 e4.2.2.2.2.2.2.2.2.2.1 e4.2.2.2.2.2.2.2.2.2.2.1 e4.2.2.2.2.2.2.2.2.2.2.2.1 e4.2.2.2.2.2.2.2.2.2.2.2.2.1 e4.2.2.2.2.2.2.2.2.2.2.2.2.2.1 e4.2.2.2.2.2.2.2.2.2.2.2.2.2.2.1 e4.2.2.2.2.2.2.2.2.2.2.2.2.2.2.2.1 e4.2.2.2.2.2.2.2.2.2.2.2.2.2.2.2.2.1 e4.2.2.2.2.2.2.2.2.2.2.2.2.2.2.2.2.2.1 e4.2.2.2.2.2.2.2.2.2.2.2.2.2.2.2.2.2.2.1 e4.2.2.2.2.2.2.2.2.2.2.2.2.2.2.2.2.2.2.2.1 e4.2.2.2.2.2.2.2.2.2.2.2.2.2.2.2.2.2.2.2.2.1 e4.2.2.2.2.2.2.2.2.2.2.2.2.2.2.2.2.2.2.2.2.2.1 e4.2.2.2.2.2.2.2.2.2.2.2.2.2.2.2.2.2.2.2.2.2.2.1 e4.2.2.2.2.2.2.2.2.2.2.2.2.2.2.2.2.2.2.2.2.2.2.2.1 fun b5 =>
 br (!b5) (
 some (.inr (0, [.b false, .l (lL s1 1), .i (lI s1 2)]))) (
 some (.inl [.i (IntKind.wrap .i64 ((lI s1 0) + 1)), .l (lL s1 1), .i (lI s1 2)]))) (
 some (.inl [.i (IntKind.wrap .i64 ((lI s1 0) + 1)), .l (lL s1 1), .i (lI s1 2)]))) (
 some (.inl [.i (IntKind.wrap .i64 ((lI s1 0) + 1)), .l (lL s1 1), .i (lI s1 2)]))) (
 some (.inr (1, [.l (lL s1 1), .i (lI s1 2)])))) [.i 0, .l t_Visits, .i t_At] fun (r6 : Nat × List Leaf) =>
 if r6.1 = 0 then
 k (lB r6.2 0)
 else
 F90 _ (lL r6.2 0) (lI r6.2 1) fun b7 =>
 k b7
def F24 : T24 := P24 F19 F90 
def X24 : Exits := fun i => lookN i [] [(2, [(.ret, xk 41 [(1, .ptr 1 0), (2, .bool false)] [(1, .agg [.sl 25 false [], .int .i64 0])]), (.exit 0, xk 41 [(1, .ptr 1 0)] [(1, .agg [.sl 25 false [], .int .i64 0])])])]
abbrev s24 : List (Bool × List CK) := [(true, [.sl 25 false, .int .i64])]
def G24 (F : T24) (β : Type) (e : (List V × Int × Unit) × Unit) (k : V → Option β) : Option β := F β e.1.1 e.1.2.1 (fun y1 => k (.bool y1))
abbrev W24 (F : T24) : WT := wrap s24 (G24 F)
theorem k24 (F19 : T19) (F90 : T90) (β : Type) (e : argsT s24) (k : V → Option β) : fnK cfg (tabL [(19, W19 F19), (90, W90 F90)]) X24 24 Tryz.f24 β (argsEnc s24 e) k = G24 (P24 F19 F90 ) β e k := by kernel_rfl
theorem ok24 : FnOk D 24 (W24 F24) := fn_okW [(19, W19 F19), (90, W90 F90)] X24 (fun _ => rfl) Tryz.func24 rfl (tabL_cons ok19 (tabL_cons ok90 tabL_nil)) (k24 F19 F90 )

/-- impl.hasPresent -/
abbrev T153 : Type 1 := (β : Type) → List V → Int → (Bool → Option β) → Option β
def P153 : T153 := fun β t_Visits t_At k =>
 br (decide (t_At ≥ 0)) (
 k (decide (t_At < (t_Visits.length : Int)))) (
 k false)
def F153 : T153 := P153 
abbrev s153 : List (Bool × List CK) := [(true, [.sl 25 false, .int .i64])]
def G153 (F : T153) (β : Type) (e : (List V × Int × Unit) × Unit) (k : V → Option β) : Option β := F β e.1.1 e.1.2.1 (fun y1 => k (.bool y1))
abbrev W153 (F : T153) : WT := wrap s153 (G153 F)
theorem k153 (β : Type) (e : argsT s153) (k : V → Option β) : fnK cfg (tabL []) noX 153 Tryz.f153 β (argsEnc s153 e) k = G153 (P153 ) β e k := by kernel_rfl
theorem ok153 : FnOk D 153 (W153 F153) := fn_okW [] noX (fun _ => rfl) Tryz.func153 rfl (tabL_nil) (k153 )

/-- impl.IsTab -/
abbrev T92 : Type 1 := (β : Type) → List V → Int → (Bool → Option β) → Option β
def P92 (F153 : T153) : T92 := fun β t_Visits t_At k =>
 whileK (fun s1 =>
 br (decide ((lI s1 2) < (lI s1 1))) (
 chk (0 ≤ (lI s1 2)) <|
 idx true [.str, .str, .str, .str, .bool, .sl 1 true, .sl 1 true, .sl 1 true, .str, .str, .sl 4 false, .bool, .sl 4 false, .sl 1 true, .sl 8 true, .sl 5 true, .sl 2 true, .int .i64, .int .i64, .int .i64, .int .i64, .sl 2 true, .sl 1 true, .bool, .bool] (lL s1 0) ((lI s1 2).toNat) fun (e2 : List UInt8 × List UInt8 × List UInt8 × List UInt8 × Bool × List V × List V × List V × List UInt8 × List UInt8 × List V × Bool × List V × List V × List V × List V × List V × Int × Int × Int × Int × List V × List V × Bool × Bool × Unit) =>
 br e2.2.2.2.2.2.2.2.2.2.2.2.2.2.2.2.2.2.2.2.2.2.2.2.2.1 (
 br (!((e2.2.2.1 == e2.1) && ((e2.2.2.2.1 == e2.2.1) && true))) (
 some (.inr (0, [.b false, .l (lL s1 3), .i (lI s1 4)]))) (
 some (.inl [.l (lL s1 0), .i (lI s1 1), .i (IntKind.wrap .i64 ((lI s1 2) + 1)), .l (lL s1 3), .i (lI s1 4)]))) (
 some (.inl [.l (lL s1 0), .i (lI s1 1), .i (IntKind.wrap .i64 ((lI s1 2) + 1)), .l (lL s1 3), .i (lI s1 4)]))) (
 some (.inr (1, [.l (lL s1 3), .i (lI s1 4)])))) [.l t_Visits, .i (t_Visits.length : Int), .i 0, .l t_Visits, .i t_At] fun (r3 : Nat × List Leaf) =>
 if r3.1 = 0 then
 k (lB r3.2 0)
 else
 br (decide (((lL r3.2 0).length : Int) ≤ 6)) (
 F153 _ (lL r3.2 0) (lI r3.2 1) fun b4 =>
 br b4 (
 k true) (
 br (((lL r3.2 0).length : Int) == 0) (
 k ((lI r3.2 1) == (-1))) (
 k false))) (
 k false)
def F92 : T92 := P92 F153 
def X92 : Exits := fun i => lookN i [] [(2, [(.ret, xk 42 [(1, .ptr 1 0), (2, .bool false)] [(1, .agg [.sl 25 false [], .int .i64 0])]), (.exit 0, xk 42 [(1, .ptr 1 0)] [(1, .agg [.sl 25 false [], .int .i64 0])])])]
abbrev s92 : List (Bool × List CK) := [(true, [.sl 25 false, .int .i64])]
def G92 (F : T92) (β : Type) (e : (List V × Int × Unit) × Unit) (k : V → Option β) : Option β := F β e.1.1 e.1.2.1 (fun y1 => k (.bool y1))
abbrev W92 (F : T92) : WT := wrap s92 (G92 F)
theorem k92 (F153 : T153) (β : Type) (e : argsT s92) (k : V → Option β) : fnK cfg (tabL [(153, W153 F153)]) X92 92 Tryz.f92 β (argsEnc s92 e) k = G92 (P92 F153 ) β e k := by kernel_rfl
theorem ok92 : FnOk D 92 (W92 F92) := fn_okW [(153, W153 F153)] X92 (fun _ => rfl) Tryz.func92 rfl (tabL_cons ok153 tabL_nil) (k92 F153 )

/-- impl.TabSound -/
abbrev T26 : Type 1 := (β : Type) → List V → Int → (Bool → Option β) → Option β
def P26 (F21 : T21) (F92 : T92) : T26 := fun β t_Visits t_At k =>
 whileK (fun s1 =>
 br (decide ((lI s1 2) < (lI s1 1))) (
 chk (0 ≤ (lI s1 2)) <|
 idx true [.str, .str, .str, .str, .bool, .sl 1 true, .sl 1 true, .sl 1 true, .str, .str, .sl 4 false, .bool, .sl 4 false, .sl 1 true, .sl 8 true, .sl 5 true, .sl 2 true, .int .i64, .int .i64, .int .i64, .int .i64, .sl 2 true, .sl 1 true, .bool, .bool] (lL s1 0) ((lI s1 2).toNat) fun (e2 : List UInt8 × List UInt8 × List UInt8 × List UInt8 × Bool × List V × List V × List V × List UInt8 × List UInt8 × List V × Bool × List V × List V × List V × List V × List V × Int × Int × Int × Int × List V × List V × Bool × Bool × Unit) =>
 br e2.2.2.2.2.2.2.2.2.2.2.2.2.2.2.2.2.2.2.2.2.2.2.2.2.1 (
 br (decide ((e2.2.2.2.2.2.2.2.2.2.2.2.2.1.length : Int) > 0)) (
 F21 _ e2.2.2.1 e2.2.2.2.1 e2.2.2.2.2.1 e2.2.2.2.2.2.1 e2.2.2.2.2.2.2.1 e2.2.2.2.2.2.2.2.1 e2.2.2.2.2.2.2.2.2.1 e2.2.2.2.2.2.2.2.2.2.1 e2.2.2.2.2.2.2.2.2.2.2.1 e2.2.2.2.2.2.2.2.2.2.2.2.1 e2.2.2.2.2.2.2.2.2.2.2.2.2.1 e2.2.2.2.2.2.2.2.2.2.2.2.2.2.1 e2.2.2.2.2.2.2.2.2.2.2.2.2.2.2.1 e2.2.2.2.2.2.2.2.2.2.2.2.2.2.2.2.1 e2.2.2.2.2.2.2.2.2.2.2.2.2.2.2.2.2.1 e2.2.2.2.2.2.2.2.2.2.2.2.2.2.2.2.2.2.1 e2.2.2.2.2.2.2.2.2.2.2.2.2.2.2.2.2.2.2.1 e2.2.2.2.2.2.2.2.2.2.2.2.2.2.2.2.2.2.2.2.1 e2.2.2.2.2.2.2.2.2.2.2.2.2.2.2.2.2.2.2.2.2.1 e2.2.2.2.2.2.2.2.2.2.2.2.2.2.2.2.2.2.2.2.2.2.1 e2.2.2.2.2.2.2.2.2.2.2.2.2.2.2.2.2.2.2.2.2.2.2.1 e2.2.2.2.2.2.2.2.2.2.2.2.2.2.2.2.2.2.2.2.2.2.2.2.1 fun b3 =>
 br (!b3) (
 some (.inr (0, [.b false, .l (lL s1 3), .i (lI s1 4)]))) (
 some (.inl [.l (lL s1 0), .i (lI s1 1), .i (IntKind.wrap .i64 ((lI s1 2) + 1)), .l (lL s1 3), .i (lI s1 4)]))) (
 some (.inl [.l (lL s1 0), .i (lI s1 1), .i (IntKind.wrap .i64 ((lI s1 2) + 1)), .l (lL s1 3), .i (lI s1 4)]))) (
 some (.inl [.l (lL s1 0), .i (lI s1 1), .i (IntKind.wrap .i64 ((lI s1 2) + 1)), .l (lL s1 3), .i (lI s1 4)]))) (
 some (.inr (1, [.l (lL s1 3), .i (lI s1 4)])))) [.l t_Visits, .i (t_Visits.length : Int), .i 0, .l t_Visits, .i t_At] fun (r4 : Nat × List Leaf) =>
 if r4.1 = 0 then
 k (lB r4.2 0)
 else
 F92 _ (lL r4.2 0) (lI r4.2 1) fun b5 =>
 k b5
def F26 : T26 := P26 F21 F92 
def X26 : Exits := fun i => lookN i [] [(2, [(.ret, xk 31 [(1, .ptr 1 0), (2, .bool false)] [(1, .agg [.sl 25 false [], .int .i64 0])]), (.exit 0, xk 31 [(1, .ptr 1 0)] [(1, .agg [.sl 25 false [], .int .i64 0])])])]
abbrev s26 : List (Bool × List CK) := [(true, [.sl 25 false, .int .i64])]
def G26 (F : T26) (β : Type) (e : (List V × Int × Unit) × Unit) (k : V → Option β) : Option β := F β e.1.1 e.1.2.1 (fun y1 => k (.bool y1))
abbrev W26 (F : T26) : WT := wrap s26 (G26 F)
theorem k26 (F21 : T21) (F92 : T92) (β : Type) (e : argsT s26) (k : V → Option β) : fnK cfg (tabL [(21, W21 F21), (92, W92 F92)]) X26 26 Tryz.f26 β (argsEnc s26 e) k = G26 (P26 F21 F92 ) β e k := by kernel_rfl
theorem ok26 : FnOk D 26 (W26 F26) := fn_okW [(21, W21 F21), (92, W92 F92)] X26 (fun _ => rfl) Tryz.func26 rfl (tabL_cons ok21 (tabL_cons ok92 tabL_nil)) (k26 F21 F92 )

/-- laws.eqVisit -/
abbrev T154 : Type 1 := (β : Type) → List UInt8 → List UInt8 → List UInt8 → List UInt8 → Bool → List V → List V → List V → List UInt8 → List UInt8 → List V → Bool → List V → List V → List V → List V → List V → Int → Int → Int → Int → List V → List V → Bool → Bool → List UInt8 → List UInt8 → List UInt8 → List UInt8 → Bool → List V → List V → List V → List UInt8 → List UInt8 → List V → Bool → List V → List V → List V → List V → List V → Int → Int → Int → Int → List V → List V → Bool → Bool → (Bool → Option β) → Option β
def P154 (F80 : T80) (F22 : T22) : T154 := fun β a_Addr_Host a_Addr_Path a_Page_Addr_Host a_Page_Addr_Path a_Page_Policy_Set a_Page_Policy_Scripts a_Page_Policy_Styles a_Page_Policy_Images a_Page_Policy_Nonce a_Page_Tok_Rest a_Page_Queue a_Page_Ended a_Page_Builder_Nodes a_Page_Builder_Open a_Page_Slots a_Page_Mods a_Page_Entries a_Page_Block a_Page_Inline a_Page_Deferred a_Page_Entered a_Page_Ran a_Page_Log a_Page_Loaded a_Kept b_Addr_Host b_Addr_Path b_Page_Addr_Host b_Page_Addr_Path b_Page_Policy_Set b_Page_Policy_Scripts b_Page_Policy_Styles b_Page_Policy_Images b_Page_Policy_Nonce b_Page_Tok_Rest b_Page_Queue b_Page_Ended b_Page_Builder_Nodes b_Page_Builder_Open b_Page_Slots b_Page_Mods b_Page_Entries b_Page_Block b_Page_Inline b_Page_Deferred b_Page_Entered b_Page_Ran b_Page_Log b_Page_Loaded b_Kept k =>
 F80 _ a_Addr_Host a_Addr_Path b_Addr_Host b_Addr_Path fun b1 =>
 br (!b1) (
 k false) (
 F22 _ a_Page_Addr_Host a_Page_Addr_Path a_Page_Policy_Set a_Page_Policy_Scripts a_Page_Policy_Styles a_Page_Policy_Images a_Page_Policy_Nonce a_Page_Tok_Rest a_Page_Queue a_Page_Ended a_Page_Builder_Nodes a_Page_Builder_Open a_Page_Slots a_Page_Mods a_Page_Entries a_Page_Block a_Page_Inline a_Page_Deferred a_Page_Entered a_Page_Ran a_Page_Log a_Page_Loaded b_Page_Addr_Host b_Page_Addr_Path b_Page_Policy_Set b_Page_Policy_Scripts b_Page_Policy_Styles b_Page_Policy_Images b_Page_Policy_Nonce b_Page_Tok_Rest b_Page_Queue b_Page_Ended b_Page_Builder_Nodes b_Page_Builder_Open b_Page_Slots b_Page_Mods b_Page_Entries b_Page_Block b_Page_Inline b_Page_Deferred b_Page_Entered b_Page_Ran b_Page_Log b_Page_Loaded fun b2 =>
 br (!b2) (
 k false) (
 br (!(a_Kept == b_Kept)) (
 k false) (
 k true)))
def F154 : T154 := P154 F80 F22 
abbrev s154 : List (Bool × List CK) := [(true, [.str, .str, .str, .str, .bool, .sl 1 true, .sl 1 true, .sl 1 true, .str, .str, .sl 4 false, .bool, .sl 4 false, .sl 1 true, .sl 8 true, .sl 5 true, .sl 2 true, .int .i64, .int .i64, .int .i64, .int .i64, .sl 2 true, .sl 1 true, .bool, .bool]), (true, [.str, .str, .str, .str, .bool, .sl 1 true, .sl 1 true, .sl 1 true, .str, .str, .sl 4 false, .bool, .sl 4 false, .sl 1 true, .sl 8 true, .sl 5 true, .sl 2 true, .int .i64, .int .i64, .int .i64, .int .i64, .sl 2 true, .sl 1 true, .bool, .bool])]
def G154 (F : T154) (β : Type) (e : (List UInt8 × List UInt8 × List UInt8 × List UInt8 × Bool × List V × List V × List V × List UInt8 × List UInt8 × List V × Bool × List V × List V × List V × List V × List V × Int × Int × Int × Int × List V × List V × Bool × Bool × Unit) × (List UInt8 × List UInt8 × List UInt8 × List UInt8 × Bool × List V × List V × List V × List UInt8 × List UInt8 × List V × Bool × List V × List V × List V × List V × List V × Int × Int × Int × Int × List V × List V × Bool × Bool × Unit) × Unit) (k : V → Option β) : Option β := let a0_0 := e.1; let a0_1 := a0_0.2; let a0_2 := a0_1.2; let a0_3 := a0_2.2; let a0_4 := a0_3.2; let a0_5 := a0_4.2; let a0_6 := a0_5.2; let a0_7 := a0_6.2; let a0_8 := a0_7.2; let a0_9 := a0_8.2; let a0_10 := a0_9.2; let a0_11 := a0_10.2; let a0_12 := a0_11.2; let a0_13 := a0_12.2; let a0_14 := a0_13.2; let a0_15 := a0_14.2; let a0_16 := a0_15.2; let a0_17 := a0_16.2; let a0_18 := a0_17.2; let a0_19 := a0_18.2; let a0_20 := a0_19.2; let a0_21 := a0_20.2; let a0_22 := a0_21.2; let a0_23 := a0_22.2; let a0_24 := a0_23.2; let a1_0 := e.2.1; let a1_1 := a1_0.2; let a1_2 := a1_1.2; let a1_3 := a1_2.2; let a1_4 := a1_3.2; let a1_5 := a1_4.2; let a1_6 := a1_5.2; let a1_7 := a1_6.2; let a1_8 := a1_7.2; let a1_9 := a1_8.2; let a1_10 := a1_9.2; let a1_11 := a1_10.2; let a1_12 := a1_11.2; let a1_13 := a1_12.2; let a1_14 := a1_13.2; let a1_15 := a1_14.2; let a1_16 := a1_15.2; let a1_17 := a1_16.2; let a1_18 := a1_17.2; let a1_19 := a1_18.2; let a1_20 := a1_19.2; let a1_21 := a1_20.2; let a1_22 := a1_21.2; let a1_23 := a1_22.2; let a1_24 := a1_23.2; F β a0_0.1 a0_1.1 a0_2.1 a0_3.1 a0_4.1 a0_5.1 a0_6.1 a0_7.1 a0_8.1 a0_9.1 a0_10.1 a0_11.1 a0_12.1 a0_13.1 a0_14.1 a0_15.1 a0_16.1 a0_17.1 a0_18.1 a0_19.1 a0_20.1 a0_21.1 a0_22.1 a0_23.1 a0_24.1 a1_0.1 a1_1.1 a1_2.1 a1_3.1 a1_4.1 a1_5.1 a1_6.1 a1_7.1 a1_8.1 a1_9.1 a1_10.1 a1_11.1 a1_12.1 a1_13.1 a1_14.1 a1_15.1 a1_16.1 a1_17.1 a1_18.1 a1_19.1 a1_20.1 a1_21.1 a1_22.1 a1_23.1 a1_24.1 (fun y1 => k (.bool y1))
abbrev W154 (F : T154) : WT := wrap s154 (G154 F)
theorem k154 (F80 : T80) (F22 : T22) (β : Type) (e : argsT s154) (k : V → Option β) : fnK cfg (tabL [(80, W80 F80), (22, W22 F22)]) noX 154 Tryz.f154 β (argsEnc s154 e) k = G154 (P154 F80 F22 ) β e k := by kernel_rfl
theorem ok154 : FnOk D 154 (W154 F154) := fn_okW [(80, W80 F80), (22, W22 F22)] noX (fun _ => rfl) Tryz.func154 rfl (tabL_cons ok80 (tabL_cons ok22 tabL_nil)) (k154 F80 F22 )

/-- laws.eqVisitS -/
abbrev T93 : Type 1 := (β : Type) → List V → List V → (Bool → Option β) → Option β
def P93 (F154 : T154) : T93 := fun β a b k =>
 br ((a.length : Int) != (b.length : Int)) (
 k false) (
 whileK (fun s1 =>
 br (decide ((lI s1 2) < ((lL s1 0).length : Int))) (
 chk (0 ≤ (lI s1 2)) <|
 idx true [.str, .str, .str, .str, .bool, .sl 1 true, .sl 1 true, .sl 1 true, .str, .str, .sl 4 false, .bool, .sl 4 false, .sl 1 true, .sl 8 true, .sl 5 true, .sl 2 true, .int .i64, .int .i64, .int .i64, .int .i64, .sl 2 true, .sl 1 true, .bool, .bool] (lL s1 0) ((lI s1 2).toNat) fun (e2 : List UInt8 × List UInt8 × List UInt8 × List UInt8 × Bool × List V × List V × List V × List UInt8 × List UInt8 × List V × Bool × List V × List V × List V × List V × List V × Int × Int × Int × Int × List V × List V × Bool × Bool × Unit) =>
 chk (0 ≤ (lI s1 2)) <|
 idx true [.str, .str, .str, .str, .bool, .sl 1 true, .sl 1 true, .sl 1 true, .str, .str, .sl 4 false, .bool, .sl 4 false, .sl 1 true, .sl 8 true, .sl 5 true, .sl 2 true, .int .i64, .int .i64, .int .i64, .int .i64, .sl 2 true, .sl 1 true, .bool, .bool] (lL s1 1) ((lI s1 2).toNat) fun (e3 : List UInt8 × List UInt8 × List UInt8 × List UInt8 × Bool × List V × List V × List V × List UInt8 × List UInt8 × List V × Bool × List V × List V × List V × List V × List V × Int × Int × Int × Int × List V × List V × Bool × Bool × Unit) =>
 F154 _ e2.1 e2.2.1 e2.2.2.1 e2.2.2.2.1 e2.2.2.2.2.1 e2.2.2.2.2.2.1 e2.2.2.2.2.2.2.1 e2.2.2.2.2.2.2.2.1 e2.2.2.2.2.2.2.2.2.1 e2.2.2.2.2.2.2.2.2.2.1 e2.2.2.2.2.2.2.2.2.2.2.1 e2.2.2.2.2.2.2.2.2.2.2.2.1 e2.2.2.2.2.2.2.2.2.2.2.2.2.1 e2.2.2.2.2.2.2.2.2.2.2.2.2.2.1 e2.2.2.2.2.2.2.2.2.2.2.2.2.2.2.1 e2.2.2.2.2.2.2.2.2.2.2.2.2.2.2.2.1 e2.2.2.2.2.2.2.2.2.2.2.2.2.2.2.2.2.1 e2.2.2.2.2.2.2.2.2.2.2.2.2.2.2.2.2.2.1 e2.2.2.2.2.2.2.2.2.2.2.2.2.2.2.2.2.2.2.1 e2.2.2.2.2.2.2.2.2.2.2.2.2.2.2.2.2.2.2.2.1 e2.2.2.2.2.2.2.2.2.2.2.2.2.2.2.2.2.2.2.2.2.1 e2.2.2.2.2.2.2.2.2.2.2.2.2.2.2.2.2.2.2.2.2.2.1 e2.2.2.2.2.2.2.2.2.2.2.2.2.2.2.2.2.2.2.2.2.2.2.1 e2.2.2.2.2.2.2.2.2.2.2.2.2.2.2.2.2.2.2.2.2.2.2.2.1 e2.2.2.2.2.2.2.2.2.2.2.2.2.2.2.2.2.2.2.2.2.2.2.2.2.1 e3.1 e3.2.1 e3.2.2.1 e3.2.2.2.1 e3.2.2.2.2.1 e3.2.2.2.2.2.1 e3.2.2.2.2.2.2.1 e3.2.2.2.2.2.2.2.1 e3.2.2.2.2.2.2.2.2.1 e3.2.2.2.2.2.2.2.2.2.1 e3.2.2.2.2.2.2.2.2.2.2.1 e3.2.2.2.2.2.2.2.2.2.2.2.1 e3.2.2.2.2.2.2.2.2.2.2.2.2.1 e3.2.2.2.2.2.2.2.2.2.2.2.2.2.1 e3.2.2.2.2.2.2.2.2.2.2.2.2.2.2.1 e3.2.2.2.2.2.2.2.2.2.2.2.2.2.2.2.1 e3.2.2.2.2.2.2.2.2.2.2.2.2.2.2.2.2.1 e3.2.2.2.2.2.2.2.2.2.2.2.2.2.2.2.2.2.1 e3.2.2.2.2.2.2.2.2.2.2.2.2.2.2.2.2.2.2.1 e3.2.2.2.2.2.2.2.2.2.2.2.2.2.2.2.2.2.2.2.1 e3.2.2.2.2.2.2.2.2.2.2.2.2.2.2.2.2.2.2.2.2.1 e3.2.2.2.2.2.2.2.2.2.2.2.2.2.2.2.2.2.2.2.2.2.1 e3.2.2.2.2.2.2.2.2.2.2.2.2.2.2.2.2.2.2.2.2.2.2.1 e3.2.2.2.2.2.2.2.2.2.2.2.2.2.2.2.2.2.2.2.2.2.2.2.1 e3.2.2.2.2.2.2.2.2.2.2.2.2.2.2.2.2.2.2.2.2.2.2.2.2.1 fun b4 =>
 br (!b4) (
 some (.inr (0, [.b false]))) (
 some (.inl [.l (lL s1 0), .l (lL s1 1), .i (IntKind.wrap .i64 ((lI s1 2) + 1))]))) (
 some (.inr (1, [])))) [.l a, .l b, .i 0] fun (r5 : Nat × List Leaf) =>
 if r5.1 = 0 then
 k (lB r5.2 0)
 else
 k true)
def F93 : T93 := P93 F154 
def X93 : Exits := fun i => lookN i [] [(4, [(.ret, xk 27 [(4, .bool false)] []), (.exit 0, xk 27 [] [])])]
abbrev s93 : List (Bool × List CK) := [(false, [.sl 25 false]), (false, [.sl 25 false])]
def G93 (F : T93) (β : Type) (e : (List V × Unit) × (List V × Unit) × Unit) (k : V → Option β) : Option β := F β e.1.1 e.2.1.1 (fun y1 => k (.bool y1))
abbrev W93 (F : T93) : WT := wrap s93 (G93 F)
theorem k93 (F154 : T154) (β : Type) (e : argsT s93) (k : V → Option β) : fnK cfg (tabL [(154, W154 F154)]) X93 93 Tryz.f93 β (argsEnc s93 e) k = G93 (P93 F154 ) β e k := by kernel_rfl
theorem ok93 : FnOk D 93 (W93 F93) := fn_okW [(154, W154 F154)] X93 (fun _ => rfl) Tryz.func93 rfl (tabL_cons ok154 tabL_nil) (k93 F154 )

/-- laws.eqTab -/
abbrev T27 : Type 1 := (β : Type) → List V → Int → List V → Int → (Bool → Option β) → Option β
def P27 (F93 : T93) : T27 := fun β a_Visits a_At b_Visits b_At k =>
 F93 _ a_Visits b_Visits fun b1 =>
 br (!b1) (
 k false) (
 br (a_At != b_At) (
 k false) (
 k true))
def F27 : T27 := P27 F93 
abbrev s27 : List (Bool × List CK) := [(true, [.sl 25 false, .int .i64]), (true, [.sl 25 false, .int .i64])]
def G27 (F : T27) (β : Type) (e : (List V × Int × Unit) × (List V × Int × Unit) × Unit) (k : V → Option β) : Option β := F β e.1.1 e.1.2.1 e.2.1.1 e.2.1.2.1 (fun y1 => k (.bool y1))
abbrev W27 (F : T27) : WT := wrap s27 (G27 F)
theorem k27 (F93 : T93) (β : Type) (e : argsT s27) (k : V → Option β) : fnK cfg (tabL [(93, W93 F93)]) noX 27 Tryz.f27 β (argsEnc s27 e) k = G27 (P27 F93 ) β e k := by kernel_rfl
theorem ok27 : FnOk D 27 (W27 F27) := fn_okW [(93, W93 F93)] noX (fun _ => rfl) Tryz.func27 rfl (tabL_cons ok93 tabL_nil) (k27 F93 )

/-- laws.FnExactTabSound -/
abbrev T6 : Type 1 := (β : Type) → List V → Int → (Bool → Option β) → Option β
def P6 (F23 : T23) (F25 : T25) (F24 : T24) (F26 : T26) (F27 : T27) : T6 := fun β aT_Visits aT_At k =>
 F23 _ aT_Visits aT_At 1048576 fun n1 =>
 br (decide (n1 < 0)) (
 k true) (
 F25 _ aT_Visits aT_At fun l2 n3 =>
 F24 _ l2 n3 fun b4 =>
 F25 _ aT_Visits aT_At fun l5 n6 =>
 F26 _ l5 n6 fun b7 =>
 br (!(b7 == b4)) (
 k false) (
 F25 _ aT_Visits aT_At fun l8 n9 =>
 F27 _ l5 n6 l8 n9 fun b10 =>
 br (!b10) (
 k false) (
 k true)))
def F6 : T6 := P6 F23 F25 F24 F26 F27 
abbrev s6 : List (Bool × List CK) := [(true, [.sl 25 false, .int .i64])]
def G6 (F : T6) (β : Type) (e : (List V × Int × Unit) × Unit) (k : V → Option β) : Option β := F β e.1.1 e.1.2.1 (fun y1 => k (.bool y1))
abbrev W6 (F : T6) : WT := wrap s6 (G6 F)
theorem k6 (F23 : T23) (F25 : T25) (F24 : T24) (F26 : T26) (F27 : T27) (β : Type) (e : argsT s6) (k : V → Option β) : fnK cfg (tabL [(23, W23 F23), (25, W25 F25), (24, W24 F24), (26, W26 F26), (27, W27 F27)]) noX 6 Tryz.f6 β (argsEnc s6 e) k = G6 (P6 F23 F25 F24 F26 F27 ) β e k := by kernel_rfl
theorem ok6 : FnOk D 6 (W6 F6) := fn_okW [(23, W23 F23), (25, W25 F25), (24, W24 F24), (26, W26 F26), (27, W27 F27)] noX (fun _ => rfl) Tryz.func6 rfl (tabL_cons ok23 (tabL_cons ok25 (tabL_cons ok24 (tabL_cons ok26 (tabL_cons ok27 tabL_nil))))) (k6 F23 F25 F24 F26 F27 )

end
end Go.Am

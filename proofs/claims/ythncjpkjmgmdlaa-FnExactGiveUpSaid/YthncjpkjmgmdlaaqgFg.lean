/-
  Functions of the program, extracted by program (sym.py) out of their code: what each computes, and, by the kernel's reckoning, that the machine's looking form computes just that; so what the machine answers.
-/
import Derived.Test.YthncjpkjmgmdlaaqgAmCfg
import Derived.Test.YthncjpkjmgmdlaaqgAmEvOk2
import Derived.KernelRfl
set_option maxRecDepth 10000
set_option linter.unusedVariables false
namespace Go.Am
open Go Go.Proofs
noncomputable section
abbrev WT : Type 1 := (β : Type) → List V → (V → Option β) → Option β
abbrev T91 : Type 1 := (β : Type) → List UInt8 → List UInt8 → Int → (Int → Option β) → Option β
def P91 : T91 := fun β a_Host a_Path left k =>
 br (decide (IntKind.wrap .i64 (left - (a_Host.length : Int)) < 0)) (
 k (-1)) (
 br (decide (IntKind.wrap .i64 ((IntKind.wrap .i64 (left - (a_Host.length : Int))) - (a_Path.length : Int)) < 0)) (
 k (-1)) (
 k (IntKind.wrap .i64 ((IntKind.wrap .i64 (left - (a_Host.length : Int))) - (a_Path.length : Int)))))
def F91 : T91 := P91
abbrev s91 : List (Bool × List CK) := [(true, [.str, .str]), (false, [.int .i64])]
def G91 (F : T91) (β : Type) (e : (List UInt8 × List UInt8 × Unit) × (Int × Unit) × Unit) (k : V → Option β) : Option β := F β e.1.1 e.1.2.1 e.2.1.1 (fun y1 => k (.int .i64 y1))
abbrev W91 (F : T91) : WT := wrap s91 (G91 F)
theorem k91 (β : Type) (e : argsT s91) (k : V → Option β) : fnK cfg (tabL []) noX 91 Try.f91 β (argsEnc s91 e) k = G91 (P91 ) β e k := by kernel_rfl
theorem ok91 : FnOk D 91 (W91 F91) := fn_okW [] noX (fun _ => rfl) Try.func91 rfl (tabL_nil) (k91 )
abbrev T132 : Type 1 := (β : Type) → List V → Int → (Int → Option β) → Option β
def P132 : T132 := fun β a left k =>
 br (decide (IntKind.wrap .i64 (left - (a.length : Int)) < 0)) (
 k (-1)) (
 whileK (fun s1 =>
 br (decide ((lI s1 2) < ((lL s1 0).length : Int))) (
 chk (0 ≤ (lI s1 2)) <|
 idx false [.str] (lL s1 0) ((lI s1 2).toNat) fun (e2 : List UInt8 × Unit) =>
 br (decide (IntKind.wrap .i64 ((lI s1 1) - (e2.1.length : Int)) < 0)) (
 some (.inr (0, [.i (IntKind.wrap .i64 ((lI s1 1) - (e2.1.length : Int))), .i (-1)]))) (
 some (.inl [.l (lL s1 0), .i (IntKind.wrap .i64 ((lI s1 1) - (e2.1.length : Int))), .i (IntKind.wrap .i64 ((lI s1 2) + 1))]))) (
 some (.inr (1, [.i (lI s1 1)])))) [.l a, .i (IntKind.wrap .i64 (left - (a.length : Int))), .i 0] fun (r3 : Nat × List Leaf) =>
 if r3.1 = 0 then
 k (lI r3.2 1)
 else
 k (lI r3.2 0))
def F132 : T132 := P132
def X132 : Exits := fun i => lookN i [] [(5, [(.ret, xk 28 [(1, .int .i64 0), (4, .int .i64 0)] []), (.exit 0, xk 28 [(1, .int .i64 0)] [])])]
abbrev s132 : List (Bool × List CK) := [(false, [.sl 1 true]), (false, [.int .i64])]
def G132 (F : T132) (β : Type) (e : (List V × Unit) × (Int × Unit) × Unit) (k : V → Option β) : Option β := F β e.1.1 e.2.1.1 (fun y1 => k (.int .i64 y1))
abbrev W132 (F : T132) : WT := wrap s132 (G132 F)
theorem k132 (β : Type) (e : argsT s132) (k : V → Option β) : fnK cfg (tabL []) X132 132 Try.f132 β (argsEnc s132 e) k = G132 (P132 ) β e k := by kernel_rfl
theorem ok132 : FnOk D 132 (W132 F132) := fn_okW [] X132 (fun _ => rfl) Try.func132 rfl (tabL_nil) (k132 )
abbrev T125 : Type 1 := (β : Type) → Bool → List V → List V → List V → List UInt8 → Int → (Int → Option β) → Option β
def P125 (F132 : T132) : T125 := fun β a_Set a_Scripts a_Styles a_Images a_Nonce left k =>
 F132 _ a_Scripts left fun n1 =>
 br (decide (n1 < 0)) (
 k (-1)) (
 F132 _ a_Styles n1 fun n2 =>
 br (decide (n2 < 0)) (
 k (-1)) (
 F132 _ a_Images n2 fun n3 =>
 br (decide (n3 < 0)) (
 k (-1)) (
 br (decide (IntKind.wrap .i64 (n3 - (a_Nonce.length : Int)) < 0)) (
 k (-1)) (
 k (IntKind.wrap .i64 (n3 - (a_Nonce.length : Int)))))))
def F125 : T125 := P125 F132
abbrev s125 : List (Bool × List CK) := [(true, [.bool, .sl 1 true, .sl 1 true, .sl 1 true, .str]), (false, [.int .i64])]
def G125 (F : T125) (β : Type) (e : (Bool × List V × List V × List V × List UInt8 × Unit) × (Int × Unit) × Unit) (k : V → Option β) : Option β := let a0_0 := e.1; let a0_1 := a0_0.2; let a0_2 := a0_1.2; let a0_3 := a0_2.2; let a0_4 := a0_3.2; F β a0_0.1 a0_1.1 a0_2.1 a0_3.1 a0_4.1 e.2.1.1 (fun y1 => k (.int .i64 y1))
abbrev W125 (F : T125) : WT := wrap s125 (G125 F)
theorem k125 (F132 : T132) (β : Type) (e : argsT s125) (k : V → Option β) : fnK cfg (tabL [(132, W132 F132)]) noX 125 Try.f125 β (argsEnc s125 e) k = G125 (P125 F132 ) β e k := by kernel_rfl
theorem ok125 : FnOk D 125 (W125 F125) := fn_okW [(132, W132 F132)] noX (fun _ => rfl) Try.func125 rfl (tabL_cons ok132 tabL_nil) (k125 F132 )
abbrev T126 : Type 1 := (β : Type) → List UInt8 → Int → (Int → Option β) → Option β
def P126 : T126 := fun β a_Rest left k =>
 br (decide (IntKind.wrap .i64 (left - (a_Rest.length : Int)) < 0)) (
 k (-1)) (
 k (IntKind.wrap .i64 (left - (a_Rest.length : Int))))
def F126 : T126 := P126
abbrev s126 : List (Bool × List CK) := [(true, [.str]), (false, [.int .i64])]
def G126 (F : T126) (β : Type) (e : (List UInt8 × Unit) × (Int × Unit) × Unit) (k : V → Option β) : Option β := F β e.1.1 e.2.1.1 (fun y1 => k (.int .i64 y1))
abbrev W126 (F : T126) : WT := wrap s126 (G126 F)
theorem k126 (β : Type) (e : argsT s126) (k : V → Option β) : fnK cfg (tabL []) noX 126 Try.f126 β (argsEnc s126 e) k = G126 (P126 ) β e k := by kernel_rfl
theorem ok126 : FnOk D 126 (W126 F126) := fn_okW [] noX (fun _ => rfl) Try.func126 rfl (tabL_nil) (k126 )
abbrev T174 : Type 1 := (β : Type) → List UInt8 → List UInt8 → Int → (Int → Option β) → Option β
def P174 : T174 := fun β a_Name a_Value left k =>
 br (decide (IntKind.wrap .i64 (left - (a_Name.length : Int)) < 0)) (
 k (-1)) (
 br (decide (IntKind.wrap .i64 ((IntKind.wrap .i64 (left - (a_Name.length : Int))) - (a_Value.length : Int)) < 0)) (
 k (-1)) (
 k (IntKind.wrap .i64 ((IntKind.wrap .i64 (left - (a_Name.length : Int))) - (a_Value.length : Int)))))
def F174 : T174 := P174
abbrev s174 : List (Bool × List CK) := [(true, [.str, .str]), (false, [.int .i64])]
def G174 (F : T174) (β : Type) (e : (List UInt8 × List UInt8 × Unit) × (Int × Unit) × Unit) (k : V → Option β) : Option β := F β e.1.1 e.1.2.1 e.2.1.1 (fun y1 => k (.int .i64 y1))
abbrev W174 (F : T174) : WT := wrap s174 (G174 F)
theorem k174 (β : Type) (e : argsT s174) (k : V → Option β) : fnK cfg (tabL []) noX 174 Try.f174 β (argsEnc s174 e) k = G174 (P174 ) β e k := by kernel_rfl
theorem ok174 : FnOk D 174 (W174 F174) := fn_okW [] noX (fun _ => rfl) Try.func174 rfl (tabL_nil) (k174 )
abbrev T167 : Type 1 := (β : Type) → List V → Int → (Int → Option β) → Option β
def P167 (F174 : T174) : T167 := fun β a left k =>
 br (decide (IntKind.wrap .i64 (left - (a.length : Int)) < 0)) (
 k (-1)) (
 whileK (fun s1 =>
 br (decide ((lI s1 2) < ((lL s1 0).length : Int))) (
 chk (0 ≤ (lI s1 2)) <|
 idx true [.str, .str] (lL s1 0) ((lI s1 2).toNat) fun (e2 : List UInt8 × List UInt8 × Unit) =>
 F174 _ e2.1 e2.2.1 (lI s1 1) fun n3 =>
 br (decide (n3 < 0)) (
 some (.inr (0, [.i n3, .i (-1)]))) (
 some (.inl [.l (lL s1 0), .i n3, .i (IntKind.wrap .i64 ((lI s1 2) + 1))]))) (
 some (.inr (1, [.i (lI s1 1)])))) [.l a, .i (IntKind.wrap .i64 (left - (a.length : Int))), .i 0] fun (r4 : Nat × List Leaf) =>
 if r4.1 = 0 then
 k (lI r4.2 1)
 else
 k (lI r4.2 0))
def F167 : T167 := P167 F174
def X167 : Exits := fun i => lookN i [] [(5, [(.ret, xk 27 [(1, .int .i64 0), (4, .int .i64 0)] []), (.exit 0, xk 27 [(1, .int .i64 0)] [])])]
abbrev s167 : List (Bool × List CK) := [(false, [.sl 2 true]), (false, [.int .i64])]
def G167 (F : T167) (β : Type) (e : (List V × Unit) × (Int × Unit) × Unit) (k : V → Option β) : Option β := F β e.1.1 e.2.1.1 (fun y1 => k (.int .i64 y1))
abbrev W167 (F : T167) : WT := wrap s167 (G167 F)
theorem k167 (F174 : T174) (β : Type) (e : argsT s167) (k : V → Option β) : fnK cfg (tabL [(174, W174 F174)]) X167 167 Try.f167 β (argsEnc s167 e) k = G167 (P167 F174 ) β e k := by kernel_rfl
theorem ok167 : FnOk D 167 (W167 F167) := fn_okW [(174, W174 F174)] X167 (fun _ => rfl) Try.func167 rfl (tabL_cons ok174 tabL_nil) (k167 F174 )
abbrev T153 : Type 1 := (β : Type) → Int → List UInt8 → List V → List UInt8 → Int → (Int → Option β) → Option β
def P153 (F167 : T167) : T153 := fun β a_Kind a_Name a_Attrs a_Text left k =>
 br (decide (IntKind.wrap .i64 (left - (a_Name.length : Int)) < 0)) (
 k (-1)) (
 F167 _ a_Attrs (IntKind.wrap .i64 (left - (a_Name.length : Int))) fun n1 =>
 br (decide (n1 < 0)) (
 k (-1)) (
 br (decide (IntKind.wrap .i64 (n1 - (a_Text.length : Int)) < 0)) (
 k (-1)) (
 k (IntKind.wrap .i64 (n1 - (a_Text.length : Int))))))
def F153 : T153 := P153 F167
abbrev s153 : List (Bool × List CK) := [(true, [.int .i64, .str, .sl 2 true, .str]), (false, [.int .i64])]
def G153 (F : T153) (β : Type) (e : (Int × List UInt8 × List V × List UInt8 × Unit) × (Int × Unit) × Unit) (k : V → Option β) : Option β := F β e.1.1 e.1.2.1 e.1.2.2.1 e.1.2.2.2.1 e.2.1.1 (fun y1 => k (.int .i64 y1))
abbrev W153 (F : T153) : WT := wrap s153 (G153 F)
theorem k153 (F167 : T167) (β : Type) (e : argsT s153) (k : V → Option β) : fnK cfg (tabL [(167, W167 F167)]) noX 153 Try.f153 β (argsEnc s153 e) k = G153 (P153 F167 ) β e k := by kernel_rfl
theorem ok153 : FnOk D 153 (W153 F153) := fn_okW [(167, W167 F167)] noX (fun _ => rfl) Try.func153 rfl (tabL_cons ok167 tabL_nil) (k153 F167 )
abbrev T127 : Type 1 := (β : Type) → List V → Int → (Int → Option β) → Option β
def P127 (F153 : T153) : T127 := fun β a left k =>
 br (decide (IntKind.wrap .i64 (left - (a.length : Int)) < 0)) (
 k (-1)) (
 whileK (fun s1 =>
 br (decide ((lI s1 2) < ((lL s1 0).length : Int))) (
 chk (0 ≤ (lI s1 2)) <|
 idx true [.int .i64, .str, .sl 2 true, .str] (lL s1 0) ((lI s1 2).toNat) fun (e2 : Int × List UInt8 × List V × List UInt8 × Unit) =>
 F153 _ e2.1 e2.2.1 e2.2.2.1 e2.2.2.2.1 (lI s1 1) fun n3 =>
 br (decide (n3 < 0)) (
 some (.inr (0, [.i n3, .i (-1)]))) (
 some (.inl [.l (lL s1 0), .i n3, .i (IntKind.wrap .i64 ((lI s1 2) + 1))]))) (
 some (.inr (1, [.i (lI s1 1)])))) [.l a, .i (IntKind.wrap .i64 (left - (a.length : Int))), .i 0] fun (r4 : Nat × List Leaf) =>
 if r4.1 = 0 then
 k (lI r4.2 1)
 else
 k (lI r4.2 0))
def F127 : T127 := P127 F153
def X127 : Exits := fun i => lookN i [] [(5, [(.ret, xk 27 [(1, .int .i64 0), (4, .int .i64 0)] []), (.exit 0, xk 27 [(1, .int .i64 0)] [])])]
abbrev s127 : List (Bool × List CK) := [(false, [.sl 4 false]), (false, [.int .i64])]
def G127 (F : T127) (β : Type) (e : (List V × Unit) × (Int × Unit) × Unit) (k : V → Option β) : Option β := F β e.1.1 e.2.1.1 (fun y1 => k (.int .i64 y1))
abbrev W127 (F : T127) : WT := wrap s127 (G127 F)
theorem k127 (F153 : T153) (β : Type) (e : argsT s127) (k : V → Option β) : fnK cfg (tabL [(153, W153 F153)]) X127 127 Try.f127 β (argsEnc s127 e) k = G127 (P127 F153 ) β e k := by kernel_rfl
theorem ok127 : FnOk D 127 (W127 F127) := fn_okW [(153, W153 F153)] X127 (fun _ => rfl) Try.func127 rfl (tabL_cons ok153 tabL_nil) (k127 F153 )
abbrev T168 : Type 1 := (β : Type) → List UInt8 → List UInt8 → Int → List V → Int → (Int → Option β) → Option β
def P168 (F167 : T167) : T168 := fun β a_Name a_Text a_Parent a_Attrs left k =>
 br (decide (IntKind.wrap .i64 (left - (a_Name.length : Int)) < 0)) (
 k (-1)) (
 br (decide (IntKind.wrap .i64 ((IntKind.wrap .i64 (left - (a_Name.length : Int))) - (a_Text.length : Int)) < 0)) (
 k (-1)) (
 F167 _ a_Attrs (IntKind.wrap .i64 ((IntKind.wrap .i64 (left - (a_Name.length : Int))) - (a_Text.length : Int))) fun n1 =>
 br (decide (n1 < 0)) (
 k (-1)) (
 k n1)))
def F168 : T168 := P168 F167
abbrev s168 : List (Bool × List CK) := [(true, [.str, .str, .int .i64, .sl 2 true]), (false, [.int .i64])]
def G168 (F : T168) (β : Type) (e : (List UInt8 × List UInt8 × Int × List V × Unit) × (Int × Unit) × Unit) (k : V → Option β) : Option β := F β e.1.1 e.1.2.1 e.1.2.2.1 e.1.2.2.2.1 e.2.1.1 (fun y1 => k (.int .i64 y1))
abbrev W168 (F : T168) : WT := wrap s168 (G168 F)
theorem k168 (F167 : T167) (β : Type) (e : argsT s168) (k : V → Option β) : fnK cfg (tabL [(167, W167 F167)]) noX 168 Try.f168 β (argsEnc s168 e) k = G168 (P168 F167 ) β e k := by kernel_rfl
theorem ok168 : FnOk D 168 (W168 F168) := fn_okW [(167, W167 F167)] noX (fun _ => rfl) Try.func168 rfl (tabL_cons ok167 tabL_nil) (k168 F167 )
abbrev T154 : Type 1 := (β : Type) → List V → Int → (Int → Option β) → Option β
def P154 (F168 : T168) : T154 := fun β a left k =>
 br (decide (IntKind.wrap .i64 (left - (a.length : Int)) < 0)) (
 k (-1)) (
 whileK (fun s1 =>
 br (decide ((lI s1 2) < ((lL s1 0).length : Int))) (
 chk (0 ≤ (lI s1 2)) <|
 idx true [.str, .str, .int .i64, .sl 2 true] (lL s1 0) ((lI s1 2).toNat) fun (e2 : List UInt8 × List UInt8 × Int × List V × Unit) =>
 F168 _ e2.1 e2.2.1 e2.2.2.1 e2.2.2.2.1 (lI s1 1) fun n3 =>
 br (decide (n3 < 0)) (
 some (.inr (0, [.i n3, .i (-1)]))) (
 some (.inl [.l (lL s1 0), .i n3, .i (IntKind.wrap .i64 ((lI s1 2) + 1))]))) (
 some (.inr (1, [.i (lI s1 1)])))) [.l a, .i (IntKind.wrap .i64 (left - (a.length : Int))), .i 0] fun (r4 : Nat × List Leaf) =>
 if r4.1 = 0 then
 k (lI r4.2 1)
 else
 k (lI r4.2 0))
def F154 : T154 := P154 F168
def X154 : Exits := fun i => lookN i [] [(5, [(.ret, xk 27 [(1, .int .i64 0), (4, .int .i64 0)] []), (.exit 0, xk 27 [(1, .int .i64 0)] [])])]
abbrev s154 : List (Bool × List CK) := [(false, [.sl 4 false]), (false, [.int .i64])]
def G154 (F : T154) (β : Type) (e : (List V × Unit) × (Int × Unit) × Unit) (k : V → Option β) : Option β := F β e.1.1 e.2.1.1 (fun y1 => k (.int .i64 y1))
abbrev W154 (F : T154) : WT := wrap s154 (G154 F)
theorem k154 (F168 : T168) (β : Type) (e : argsT s154) (k : V → Option β) : fnK cfg (tabL [(168, W168 F168)]) X154 154 Try.f154 β (argsEnc s154 e) k = G154 (P154 F168 ) β e k := by kernel_rfl
theorem ok154 : FnOk D 154 (W154 F154) := fn_okW [(168, W168 F168)] X154 (fun _ => rfl) Try.func154 rfl (tabL_cons ok168 tabL_nil) (k154 F168 )
abbrev T155 : Type 1 := (β : Type) → List V → Int → (Int → Option β) → Option β
def P155 : T155 := fun β a left k =>
 br (decide (IntKind.wrap .i64 (left - (a.length : Int)) < 0)) (
 k (-1)) (
 k (IntKind.wrap .i64 (left - (a.length : Int))))
def F155 : T155 := P155
abbrev s155 : List (Bool × List CK) := [(false, [.sl 1 true]), (false, [.int .i64])]
def G155 (F : T155) (β : Type) (e : (List V × Unit) × (Int × Unit) × Unit) (k : V → Option β) : Option β := F β e.1.1 e.2.1.1 (fun y1 => k (.int .i64 y1))
abbrev W155 (F : T155) : WT := wrap s155 (G155 F)
theorem k155 (β : Type) (e : argsT s155) (k : V → Option β) : fnK cfg (tabL []) noX 155 Try.f155 β (argsEnc s155 e) k = G155 (P155 ) β e k := by kernel_rfl
theorem ok155 : FnOk D 155 (W155 F155) := fn_okW [] noX (fun _ => rfl) Try.func155 rfl (tabL_nil) (k155 )
abbrev T128 : Type 1 := (β : Type) → List V → List V → Int → (Int → Option β) → Option β
def P128 (F154 : T154) (F155 : T155) : T128 := fun β a_Nodes a_Open left k =>
 F154 _ a_Nodes left fun n1 =>
 br (decide (n1 < 0)) (
 k (-1)) (
 F155 _ a_Open n1 fun n2 =>
 br (decide (n2 < 0)) (
 k (-1)) (
 k n2))
def F128 : T128 := P128 F154 F155
abbrev s128 : List (Bool × List CK) := [(true, [.sl 4 false, .sl 1 true]), (false, [.int .i64])]
def G128 (F : T128) (β : Type) (e : (List V × List V × Unit) × (Int × Unit) × Unit) (k : V → Option β) : Option β := F β e.1.1 e.1.2.1 e.2.1.1 (fun y1 => k (.int .i64 y1))
abbrev W128 (F : T128) : WT := wrap s128 (G128 F)
theorem k128 (F154 : T154) (F155 : T155) (β : Type) (e : argsT s128) (k : V → Option β) : fnK cfg (tabL [(154, W154 F154), (155, W155 F155)]) noX 128 Try.f128 β (argsEnc s128 e) k = G128 (P128 F154 F155 ) β e k := by kernel_rfl
theorem ok128 : FnOk D 128 (W128 F128) := fn_okW [(154, W154 F154), (155, W155 F155)] noX (fun _ => rfl) Try.func128 rfl (tabL_cons ok154 (tabL_cons ok155 tabL_nil)) (k128 F154 F155 )
abbrev T156 : Type 1 := (β : Type) → Int → List UInt8 → List UInt8 → List UInt8 → Int → Bool → Int → List UInt8 → Int → (Int → Option β) → Option β
def P156 (F91 : T91) : T156 := fun β a_Mode a_To_Host a_To_Path a_Digest a_Node a_Done a_Code a_Body left k =>
 F91 _ a_To_Host a_To_Path left fun n1 =>
 br (decide (n1 < 0)) (
 k (-1)) (
 br (decide (IntKind.wrap .i64 (n1 - (a_Digest.length : Int)) < 0)) (
 k (-1)) (
 br (decide (IntKind.wrap .i64 ((IntKind.wrap .i64 (n1 - (a_Digest.length : Int))) - (a_Body.length : Int)) < 0)) (
 k (-1)) (
 k (IntKind.wrap .i64 ((IntKind.wrap .i64 (n1 - (a_Digest.length : Int))) - (a_Body.length : Int))))))
def F156 : T156 := P156 F91
abbrev s156 : List (Bool × List CK) := [(true, [.int .i64, .str, .str, .str, .int .i64, .bool, .int .i64, .str]), (false, [.int .i64])]
def G156 (F : T156) (β : Type) (e : (Int × List UInt8 × List UInt8 × List UInt8 × Int × Bool × Int × List UInt8 × Unit) × (Int × Unit) × Unit) (k : V → Option β) : Option β := let a0_0 := e.1; let a0_1 := a0_0.2; let a0_2 := a0_1.2; let a0_3 := a0_2.2; let a0_4 := a0_3.2; let a0_5 := a0_4.2; let a0_6 := a0_5.2; let a0_7 := a0_6.2; F β a0_0.1 a0_1.1 a0_2.1 a0_3.1 a0_4.1 a0_5.1 a0_6.1 a0_7.1 e.2.1.1 (fun y1 => k (.int .i64 y1))
abbrev W156 (F : T156) : WT := wrap s156 (G156 F)
theorem k156 (F91 : T91) (β : Type) (e : argsT s156) (k : V → Option β) : fnK cfg (tabL [(91, W91 F91)]) noX 156 Try.f156 β (argsEnc s156 e) k = G156 (P156 F91 ) β e k := by kernel_rfl
theorem ok156 : FnOk D 156 (W156 F156) := fn_okW [(91, W91 F91)] noX (fun _ => rfl) Try.func156 rfl (tabL_cons ok91 tabL_nil) (k156 F91 )
abbrev T129 : Type 1 := (β : Type) → List V → Int → (Int → Option β) → Option β
def P129 (F156 : T156) : T129 := fun β a left k =>
 br (decide (IntKind.wrap .i64 (left - (a.length : Int)) < 0)) (
 k (-1)) (
 whileK (fun s1 =>
 br (decide ((lI s1 2) < ((lL s1 0).length : Int))) (
 chk (0 ≤ (lI s1 2)) <|
 idx true [.int .i64, .str, .str, .str, .int .i64, .bool, .int .i64, .str] (lL s1 0) ((lI s1 2).toNat) fun (e2 : Int × List UInt8 × List UInt8 × List UInt8 × Int × Bool × Int × List UInt8 × Unit) =>
 F156 _ e2.1 e2.2.1 e2.2.2.1 e2.2.2.2.1 e2.2.2.2.2.1 e2.2.2.2.2.2.1 e2.2.2.2.2.2.2.1 e2.2.2.2.2.2.2.2.1 (lI s1 1) fun n3 =>
 br (decide (n3 < 0)) (
 some (.inr (0, [.i n3, .i (-1)]))) (
 some (.inl [.l (lL s1 0), .i n3, .i (IntKind.wrap .i64 ((lI s1 2) + 1))]))) (
 some (.inr (1, [.i (lI s1 1)])))) [.l a, .i (IntKind.wrap .i64 (left - (a.length : Int))), .i 0] fun (r4 : Nat × List Leaf) =>
 if r4.1 = 0 then
 k (lI r4.2 1)
 else
 k (lI r4.2 0))
def F129 : T129 := P129 F156
def X129 : Exits := fun i => lookN i [] [(5, [(.ret, xk 27 [(1, .int .i64 0), (4, .int .i64 0)] []), (.exit 0, xk 27 [(1, .int .i64 0)] [])])]
abbrev s129 : List (Bool × List CK) := [(false, [.sl 8 true]), (false, [.int .i64])]
def G129 (F : T129) (β : Type) (e : (List V × Unit) × (Int × Unit) × Unit) (k : V → Option β) : Option β := F β e.1.1 e.2.1.1 (fun y1 => k (.int .i64 y1))
abbrev W129 (F : T129) : WT := wrap s129 (G129 F)
theorem k129 (F156 : T156) (β : Type) (e : argsT s129) (k : V → Option β) : fnK cfg (tabL [(156, W156 F156)]) X129 129 Try.f129 β (argsEnc s129 e) k = G129 (P129 F156 ) β e k := by kernel_rfl
theorem ok129 : FnOk D 129 (W129 F129) := fn_okW [(156, W156 F156)] X129 (fun _ => rfl) Try.func129 rfl (tabL_cons ok156 tabL_nil) (k129 F156 )
abbrev T157 : Type 1 := (β : Type) → List UInt8 → List UInt8 → Bool → Int → List UInt8 → Int → (Int → Option β) → Option β
def P157 (F91 : T91) : T157 := fun β a_To_Host a_To_Path a_Done a_Code a_Body left k =>
 F91 _ a_To_Host a_To_Path left fun n1 =>
 br (decide (n1 < 0)) (
 k (-1)) (
 br (decide (IntKind.wrap .i64 (n1 - (a_Body.length : Int)) < 0)) (
 k (-1)) (
 k (IntKind.wrap .i64 (n1 - (a_Body.length : Int)))))
def F157 : T157 := P157 F91
abbrev s157 : List (Bool × List CK) := [(true, [.str, .str, .bool, .int .i64, .str]), (false, [.int .i64])]
def G157 (F : T157) (β : Type) (e : (List UInt8 × List UInt8 × Bool × Int × List UInt8 × Unit) × (Int × Unit) × Unit) (k : V → Option β) : Option β := let a0_0 := e.1; let a0_1 := a0_0.2; let a0_2 := a0_1.2; let a0_3 := a0_2.2; let a0_4 := a0_3.2; F β a0_0.1 a0_1.1 a0_2.1 a0_3.1 a0_4.1 e.2.1.1 (fun y1 => k (.int .i64 y1))
abbrev W157 (F : T157) : WT := wrap s157 (G157 F)
theorem k157 (F91 : T91) (β : Type) (e : argsT s157) (k : V → Option β) : fnK cfg (tabL [(91, W91 F91)]) noX 157 Try.f157 β (argsEnc s157 e) k = G157 (P157 F91 ) β e k := by kernel_rfl
theorem ok157 : FnOk D 157 (W157 F157) := fn_okW [(91, W91 F91)] noX (fun _ => rfl) Try.func157 rfl (tabL_cons ok91 tabL_nil) (k157 F91 )
abbrev T130 : Type 1 := (β : Type) → List V → Int → (Int → Option β) → Option β
def P130 (F157 : T157) : T130 := fun β a left k =>
 br (decide (IntKind.wrap .i64 (left - (a.length : Int)) < 0)) (
 k (-1)) (
 whileK (fun s1 =>
 br (decide ((lI s1 2) < ((lL s1 0).length : Int))) (
 chk (0 ≤ (lI s1 2)) <|
 idx true [.str, .str, .bool, .int .i64, .str] (lL s1 0) ((lI s1 2).toNat) fun (e2 : List UInt8 × List UInt8 × Bool × Int × List UInt8 × Unit) =>
 F157 _ e2.1 e2.2.1 e2.2.2.1 e2.2.2.2.1 e2.2.2.2.2.1 (lI s1 1) fun n3 =>
 br (decide (n3 < 0)) (
 some (.inr (0, [.i n3, .i (-1)]))) (
 some (.inl [.l (lL s1 0), .i n3, .i (IntKind.wrap .i64 ((lI s1 2) + 1))]))) (
 some (.inr (1, [.i (lI s1 1)])))) [.l a, .i (IntKind.wrap .i64 (left - (a.length : Int))), .i 0] fun (r4 : Nat × List Leaf) =>
 if r4.1 = 0 then
 k (lI r4.2 1)
 else
 k (lI r4.2 0))
def F130 : T130 := P130 F157
def X130 : Exits := fun i => lookN i [] [(5, [(.ret, xk 27 [(1, .int .i64 0), (4, .int .i64 0)] []), (.exit 0, xk 27 [(1, .int .i64 0)] [])])]
abbrev s130 : List (Bool × List CK) := [(false, [.sl 5 true]), (false, [.int .i64])]
def G130 (F : T130) (β : Type) (e : (List V × Unit) × (Int × Unit) × Unit) (k : V → Option β) : Option β := F β e.1.1 e.2.1.1 (fun y1 => k (.int .i64 y1))
abbrev W130 (F : T130) : WT := wrap s130 (G130 F)
theorem k130 (F157 : T157) (β : Type) (e : argsT s130) (k : V → Option β) : fnK cfg (tabL [(157, W157 F157)]) X130 130 Try.f130 β (argsEnc s130 e) k = G130 (P130 F157 ) β e k := by kernel_rfl
theorem ok130 : FnOk D 130 (W130 F130) := fn_okW [(157, W157 F157)] X130 (fun _ => rfl) Try.func130 rfl (tabL_cons ok157 tabL_nil) (k130 F157 )
abbrev T131 : Type 1 := (β : Type) → List V → Int → (Int → Option β) → Option β
def P131 (F91 : T91) : T131 := fun β a left k =>
 br (decide (IntKind.wrap .i64 (left - (a.length : Int)) < 0)) (
 k (-1)) (
 whileK (fun s1 =>
 br (decide ((lI s1 2) < ((lL s1 0).length : Int))) (
 chk (0 ≤ (lI s1 2)) <|
 idx true [.str, .str] (lL s1 0) ((lI s1 2).toNat) fun (e2 : List UInt8 × List UInt8 × Unit) =>
 F91 _ e2.1 e2.2.1 (lI s1 1) fun n3 =>
 br (decide (n3 < 0)) (
 some (.inr (0, [.i n3, .i (-1)]))) (
 some (.inl [.l (lL s1 0), .i n3, .i (IntKind.wrap .i64 ((lI s1 2) + 1))]))) (
 some (.inr (1, [.i (lI s1 1)])))) [.l a, .i (IntKind.wrap .i64 (left - (a.length : Int))), .i 0] fun (r4 : Nat × List Leaf) =>
 if r4.1 = 0 then
 k (lI r4.2 1)
 else
 k (lI r4.2 0))
def F131 : T131 := P131 F91
def X131 : Exits := fun i => lookN i [] [(5, [(.ret, xk 27 [(1, .int .i64 0), (4, .int .i64 0)] []), (.exit 0, xk 27 [(1, .int .i64 0)] [])])]
abbrev s131 : List (Bool × List CK) := [(false, [.sl 2 true]), (false, [.int .i64])]
def G131 (F : T131) (β : Type) (e : (List V × Unit) × (Int × Unit) × Unit) (k : V → Option β) : Option β := F β e.1.1 e.2.1.1 (fun y1 => k (.int .i64 y1))
abbrev W131 (F : T131) : WT := wrap s131 (G131 F)
theorem k131 (F91 : T91) (β : Type) (e : argsT s131) (k : V → Option β) : fnK cfg (tabL [(91, W91 F91)]) X131 131 Try.f131 β (argsEnc s131 e) k = G131 (P131 F91 ) β e k := by kernel_rfl
theorem ok131 : FnOk D 131 (W131 F131) := fn_okW [(91, W91 F91)] X131 (fun _ => rfl) Try.func131 rfl (tabL_cons ok91 tabL_nil) (k131 F91 )
abbrev T92 : Type 1 := (β : Type) → List UInt8 → List UInt8 → Bool → List V → List V → List V → List UInt8 → List UInt8 → List V → Bool → List V → List V → List V → List V → List V → Int → Int → Int → Int → List V → List V → Bool → Int → (Int → Option β) → Option β
def P92 (F91 : T91) (F125 : T125) (F126 : T126) (F127 : T127) (F128 : T128) (F129 : T129) (F130 : T130) (F131 : T131) (F132 : T132) : T92 := fun β a_Addr_Host a_Addr_Path a_Policy_Set a_Policy_Scripts a_Policy_Styles a_Policy_Images a_Policy_Nonce a_Tok_Rest a_Queue a_Ended a_Builder_Nodes a_Builder_Open a_Slots a_Mods a_Entries a_Block a_Inline a_Deferred a_Entered a_Ran a_Log a_Loaded left k =>
 F91 _ a_Addr_Host a_Addr_Path left fun n1 =>
 br (decide (n1 < 0)) (
 k (-1)) (
 F125 _ a_Policy_Set a_Policy_Scripts a_Policy_Styles a_Policy_Images a_Policy_Nonce n1 fun n2 =>
 br (decide (n2 < 0)) (
 k (-1)) (
 F126 _ a_Tok_Rest n2 fun n3 =>
 br (decide (n3 < 0)) (
 k (-1)) (
 F127 _ a_Queue n3 fun n4 =>
 br (decide (n4 < 0)) (
 k (-1)) (
 F128 _ a_Builder_Nodes a_Builder_Open n4 fun n5 =>
 br (decide (n5 < 0)) (
 k (-1)) (
 F129 _ a_Slots n5 fun n6 =>
 br (decide (n6 < 0)) (
 k (-1)) (
 F130 _ a_Mods n6 fun n7 =>
 br (decide (n7 < 0)) (
 k (-1)) (
 F131 _ a_Entries n7 fun n8 =>
 br (decide (n8 < 0)) (
 k (-1)) (
 F131 _ a_Ran n8 fun n9 =>
 br (decide (n9 < 0)) (
 k (-1)) (
 F132 _ a_Log n9 fun n10 =>
 br (decide (n10 < 0)) (
 k (-1)) (
 k n10))))))))))
def F92 : T92 := P92 F91 F125 F126 F127 F128 F129 F130 F131 F132
abbrev s92 : List (Bool × List CK) := [(true, [.str, .str, .bool, .sl 1 true, .sl 1 true, .sl 1 true, .str, .str, .sl 4 false, .bool, .sl 4 false, .sl 1 true, .sl 8 true, .sl 5 true, .sl 2 true, .int .i64, .int .i64, .int .i64, .int .i64, .sl 2 true, .sl 1 true, .bool]), (false, [.int .i64])]
def G92 (F : T92) (β : Type) (e : (List UInt8 × List UInt8 × Bool × List V × List V × List V × List UInt8 × List UInt8 × List V × Bool × List V × List V × List V × List V × List V × Int × Int × Int × Int × List V × List V × Bool × Unit) × (Int × Unit) × Unit) (k : V → Option β) : Option β := let a0_0 := e.1; let a0_1 := a0_0.2; let a0_2 := a0_1.2; let a0_3 := a0_2.2; let a0_4 := a0_3.2; let a0_5 := a0_4.2; let a0_6 := a0_5.2; let a0_7 := a0_6.2; let a0_8 := a0_7.2; let a0_9 := a0_8.2; let a0_10 := a0_9.2; let a0_11 := a0_10.2; let a0_12 := a0_11.2; let a0_13 := a0_12.2; let a0_14 := a0_13.2; let a0_15 := a0_14.2; let a0_16 := a0_15.2; let a0_17 := a0_16.2; let a0_18 := a0_17.2; let a0_19 := a0_18.2; let a0_20 := a0_19.2; let a0_21 := a0_20.2; F β a0_0.1 a0_1.1 a0_2.1 a0_3.1 a0_4.1 a0_5.1 a0_6.1 a0_7.1 a0_8.1 a0_9.1 a0_10.1 a0_11.1 a0_12.1 a0_13.1 a0_14.1 a0_15.1 a0_16.1 a0_17.1 a0_18.1 a0_19.1 a0_20.1 a0_21.1 e.2.1.1 (fun y1 => k (.int .i64 y1))
abbrev W92 (F : T92) : WT := wrap s92 (G92 F)
theorem k92 (F91 : T91) (F125 : T125) (F126 : T126) (F127 : T127) (F128 : T128) (F129 : T129) (F130 : T130) (F131 : T131) (F132 : T132) (β : Type) (e : argsT s92) (k : V → Option β) : fnK cfg (tabL [(91, W91 F91), (125, W125 F125), (126, W126 F126), (127, W127 F127), (128, W128 F128), (129, W129 F129), (130, W130 F130), (131, W131 F131), (132, W132 F132)]) noX 92 Try.f92 β (argsEnc s92 e) k = G92 (P92 F91 F125 F126 F127 F128 F129 F130 F131 F132 ) β e k := by kernel_rfl
theorem ok92 : FnOk D 92 (W92 F92) := fn_okW [(91, W91 F91), (125, W125 F125), (126, W126 F126), (127, W127 F127), (128, W128 F128), (129, W129 F129), (130, W130 F130), (131, W131 F131), (132, W132 F132)] noX (fun _ => rfl) Try.func92 rfl (tabL_cons ok91 (tabL_cons ok125 (tabL_cons ok126 (tabL_cons ok127 (tabL_cons ok128 (tabL_cons ok129 (tabL_cons ok130 (tabL_cons ok131 (tabL_cons ok132 tabL_nil))))))))) (k92 F91 F125 F126 F127 F128 F129 F130 F131 F132 )
abbrev T55 : Type 1 := (β : Type) → List UInt8 → List UInt8 → List UInt8 → List UInt8 → Bool → List V → List V → List V → List UInt8 → List UInt8 → List V → Bool → List V → List V → List V → List V → List V → Int → Int → Int → Int → List V → List V → Bool → Bool → Int → (Int → Option β) → Option β
def P55 (F91 : T91) (F92 : T92) : T55 := fun β a_Addr_Host a_Addr_Path a_Page_Addr_Host a_Page_Addr_Path a_Page_Policy_Set a_Page_Policy_Scripts a_Page_Policy_Styles a_Page_Policy_Images a_Page_Policy_Nonce a_Page_Tok_Rest a_Page_Queue a_Page_Ended a_Page_Builder_Nodes a_Page_Builder_Open a_Page_Slots a_Page_Mods a_Page_Entries a_Page_Block a_Page_Inline a_Page_Deferred a_Page_Entered a_Page_Ran a_Page_Log a_Page_Loaded a_Kept left k =>
 F91 _ a_Addr_Host a_Addr_Path left fun n1 =>
 br (decide (n1 < 0)) (
 k (-1)) (
 F92 _ a_Page_Addr_Host a_Page_Addr_Path a_Page_Policy_Set a_Page_Policy_Scripts a_Page_Policy_Styles a_Page_Policy_Images a_Page_Policy_Nonce a_Page_Tok_Rest a_Page_Queue a_Page_Ended a_Page_Builder_Nodes a_Page_Builder_Open a_Page_Slots a_Page_Mods a_Page_Entries a_Page_Block a_Page_Inline a_Page_Deferred a_Page_Entered a_Page_Ran a_Page_Log a_Page_Loaded n1 fun n2 =>
 br (decide (n2 < 0)) (
 k (-1)) (
 k n2))
def F55 : T55 := P55 F91 F92
abbrev s55 : List (Bool × List CK) := [(true, [.str, .str, .str, .str, .bool, .sl 1 true, .sl 1 true, .sl 1 true, .str, .str, .sl 4 false, .bool, .sl 4 false, .sl 1 true, .sl 8 true, .sl 5 true, .sl 2 true, .int .i64, .int .i64, .int .i64, .int .i64, .sl 2 true, .sl 1 true, .bool, .bool]), (false, [.int .i64])]
def G55 (F : T55) (β : Type) (e : (List UInt8 × List UInt8 × List UInt8 × List UInt8 × Bool × List V × List V × List V × List UInt8 × List UInt8 × List V × Bool × List V × List V × List V × List V × List V × Int × Int × Int × Int × List V × List V × Bool × Bool × Unit) × (Int × Unit) × Unit) (k : V → Option β) : Option β := let a0_0 := e.1; let a0_1 := a0_0.2; let a0_2 := a0_1.2; let a0_3 := a0_2.2; let a0_4 := a0_3.2; let a0_5 := a0_4.2; let a0_6 := a0_5.2; let a0_7 := a0_6.2; let a0_8 := a0_7.2; let a0_9 := a0_8.2; let a0_10 := a0_9.2; let a0_11 := a0_10.2; let a0_12 := a0_11.2; let a0_13 := a0_12.2; let a0_14 := a0_13.2; let a0_15 := a0_14.2; let a0_16 := a0_15.2; let a0_17 := a0_16.2; let a0_18 := a0_17.2; let a0_19 := a0_18.2; let a0_20 := a0_19.2; let a0_21 := a0_20.2; let a0_22 := a0_21.2; let a0_23 := a0_22.2; let a0_24 := a0_23.2; F β a0_0.1 a0_1.1 a0_2.1 a0_3.1 a0_4.1 a0_5.1 a0_6.1 a0_7.1 a0_8.1 a0_9.1 a0_10.1 a0_11.1 a0_12.1 a0_13.1 a0_14.1 a0_15.1 a0_16.1 a0_17.1 a0_18.1 a0_19.1 a0_20.1 a0_21.1 a0_22.1 a0_23.1 a0_24.1 e.2.1.1 (fun y1 => k (.int .i64 y1))
abbrev W55 (F : T55) : WT := wrap s55 (G55 F)
theorem k55 (F91 : T91) (F92 : T92) (β : Type) (e : argsT s55) (k : V → Option β) : fnK cfg (tabL [(91, W91 F91), (92, W92 F92)]) noX 55 Try.f55 β (argsEnc s55 e) k = G55 (P55 F91 F92 ) β e k := by kernel_rfl
theorem ok55 : FnOk D 55 (W55 F55) := fn_okW [(91, W91 F91), (92, W92 F92)] noX (fun _ => rfl) Try.func55 rfl (tabL_cons ok91 (tabL_cons ok92 tabL_nil)) (k55 F91 F92 )
abbrev T31 : Type 1 := (β : Type) → List V → Int → (Int → Option β) → Option β
def P31 (F55 : T55) : T31 := fun β a left k =>
 br (decide (IntKind.wrap .i64 (left - (a.length : Int)) < 0)) (
 k (-1)) (
 whileK (fun s1 =>
 br (decide ((lI s1 2) < ((lL s1 0).length : Int))) (
 chk (0 ≤ (lI s1 2)) <|
 idx true [.str, .str, .str, .str, .bool, .sl 1 true, .sl 1 true, .sl 1 true, .str, .str, .sl 4 false, .bool, .sl 4 false, .sl 1 true, .sl 8 true, .sl 5 true, .sl 2 true, .int .i64, .int .i64, .int .i64, .int .i64, .sl 2 true, .sl 1 true, .bool, .bool] (lL s1 0) ((lI s1 2).toNat) fun (e2 : List UInt8 × List UInt8 × List UInt8 × List UInt8 × Bool × List V × List V × List V × List UInt8 × List UInt8 × List V × Bool × List V × List V × List V × List V × List V × Int × Int × Int × Int × List V × List V × Bool × Bool × Unit) =>
 F55 _ e2.1 e2.2.1 e2.2.2.1 e2.2.2.2.1 e2.2.2.2.2.1 e2.2.2.2.2.2.1 e2.2.2.2.2.2.2.1 e2.2.2.2.2.2.2.2.1 e2.2.2.2.2.2.2.2.2.1 e2.2.2.2.2.2.2.2.2.2.1 e2.2.2.2.2.2.2.2.2.2.2.1 e2.2.2.2.2.2.2.2.2.2.2.2.1 e2.2.2.2.2.2.2.2.2.2.2.2.2.1 e2.2.2.2.2.2.2.2.2.2.2.2.2.2.1 e2.2.2.2.2.2.2.2.2.2.2.2.2.2.2.1 e2.2.2.2.2.2.2.2.2.2.2.2.2.2.2.2.1 e2.2.2.2.2.2.2.2.2.2.2.2.2.2.2.2.2.1 e2.2.2.2.2.2.2.2.2.2.2.2.2.2.2.2.2.2.1 e2.2.2.2.2.2.2.2.2.2.2.2.2.2.2.2.2.2.2.1 e2.2.2.2.2.2.2.2.2.2.2.2.2.2.2.2.2.2.2.2.1 e2.2.2.2.2.2.2.2.2.2.2.2.2.2.2.2.2.2.2.2.2.1 e2.2.2.2.2.2.2.2.2.2.2.2.2.2.2.2.2.2.2.2.2.2.1 e2.2.2.2.2.2.2.2.2.2.2.2.2.2.2.2.2.2.2.2.2.2.2.1 e2.2.2.2.2.2.2.2.2.2.2.2.2.2.2.2.2.2.2.2.2.2.2.2.1 e2.2.2.2.2.2.2.2.2.2.2.2.2.2.2.2.2.2.2.2.2.2.2.2.2.1 (lI s1 1) fun n3 =>
 br (decide (n3 < 0)) (
 some (.inr (0, [.i n3, .i (-1)]))) (
 some (.inl [.l (lL s1 0), .i n3, .i (IntKind.wrap .i64 ((lI s1 2) + 1))]))) (
 some (.inr (1, [.i (lI s1 1)])))) [.l a, .i (IntKind.wrap .i64 (left - (a.length : Int))), .i 0] fun (r4 : Nat × List Leaf) =>
 if r4.1 = 0 then
 k (lI r4.2 1)
 else
 k (lI r4.2 0))
def F31 : T31 := P31 F55
def X31 : Exits := fun i => lookN i [] [(5, [(.ret, xk 27 [(1, .int .i64 0), (4, .int .i64 0)] []), (.exit 0, xk 27 [(1, .int .i64 0)] [])])]
abbrev s31 : List (Bool × List CK) := [(false, [.sl 25 false]), (false, [.int .i64])]
def G31 (F : T31) (β : Type) (e : (List V × Unit) × (Int × Unit) × Unit) (k : V → Option β) : Option β := F β e.1.1 e.2.1.1 (fun y1 => k (.int .i64 y1))
abbrev W31 (F : T31) : WT := wrap s31 (G31 F)
theorem k31 (F55 : T55) (β : Type) (e : argsT s31) (k : V → Option β) : fnK cfg (tabL [(55, W55 F55)]) X31 31 Try.f31 β (argsEnc s31 e) k = G31 (P31 F55 ) β e k := by kernel_rfl
theorem ok31 : FnOk D 31 (W31 F31) := fn_okW [(55, W55 F55)] X31 (fun _ => rfl) Try.func31 rfl (tabL_cons ok55 tabL_nil) (k31 F55 )
abbrev T11 : Type 1 := (β : Type) → List V → Int → Int → (Int → Option β) → Option β
def P11 (F31 : T31) : T11 := fun β a_Visits a_At left k =>
 F31 _ a_Visits left fun n1 =>
 br (decide (n1 < 0)) (
 k (-1)) (
 k n1)
def F11 : T11 := P11 F31
abbrev s11 : List (Bool × List CK) := [(true, [.sl 25 false, .int .i64]), (false, [.int .i64])]
def G11 (F : T11) (β : Type) (e : (List V × Int × Unit) × (Int × Unit) × Unit) (k : V → Option β) : Option β := F β e.1.1 e.1.2.1 e.2.1.1 (fun y1 => k (.int .i64 y1))
abbrev W11 (F : T11) : WT := wrap s11 (G11 F)
theorem k11 (F31 : T31) (β : Type) (e : argsT s11) (k : V → Option β) : fnK cfg (tabL [(31, W31 F31)]) noX 11 Try.f11 β (argsEnc s11 e) k = G11 (P11 F31 ) β e k := by kernel_rfl
theorem ok11 : FnOk D 11 (W11 F11) := fn_okW [(31, W31 F31)] noX (fun _ => rfl) Try.func11 rfl (tabL_cons ok31 tabL_nil) (k11 F31 )
abbrev T96 : Type 1 := (β : Type) → List UInt8 → List UInt8 → (List UInt8 → List UInt8 → Option β) → Option β
def P96 : T96 := fun β a_Host a_Path k =>
 k a_Host a_Path
def F96 : T96 := P96
abbrev s96 : List (Bool × List CK) := [(true, [.str, .str])]
def G96 (F : T96) (β : Type) (e : (List UInt8 × List UInt8 × Unit) × Unit) (k : V → Option β) : Option β := F β e.1.1 e.1.2.1 (fun y1 y2 => k (.agg [.str y1, .str y2]))
abbrev W96 (F : T96) : WT := wrap s96 (G96 F)
theorem k96 (β : Type) (e : argsT s96) (k : V → Option β) : fnK cfg (tabL []) noX 96 Try.f96 β (argsEnc s96 e) k = G96 (P96 ) β e k := by kernel_rfl
theorem ok96 : FnOk D 96 (W96 F96) := fn_okW [] noX (fun _ => rfl) Try.func96 rfl (tabL_nil) (k96 )
abbrev T141 : Type 1 := (β : Type) → List V → (List V → Option β) → Option β
def P141 : T141 := fun β a k =>
 chk (0 ≤ (a.length : Int) ∧ (a.length : Int) ≤ (a.length : Int) ∧ (a.length : Int) * 16 ≤ 140737488355328 ∧ (a.length : Int) ≤ 140737488355328) <|
 whileK (fun s1 =>
 br (decide ((lI s1 2) < ((lL s1 0).length : Int))) (
 chk (0 ≤ (lI s1 2)) <|
 idx false [.str] (lL s1 0) ((lI s1 2).toNat) fun (e2 : List UInt8 × Unit) =>
 chk (0 ≤ (lI s1 2) ∧ (lI s1 2).toNat < (lL s1 1).length) <|
 storeO (lL s1 1) ((lI s1 2).toNat) 0 [.str e2.1] fun l3 =>
 some (.inl [.l (lL s1 0), .l l3, .i (IntKind.wrap .i64 ((lI s1 2) + 1))])) (
 some (.inr (0, [.l (lL s1 1)])))) [.l a, .l (List.replicate ((a.length : Int).toNat) (.str [])), .i 0] fun (r4 : Nat × List Leaf) =>
 k (lL r4.2 0)
def F141 : T141 := P141
def X141 : Exits := fun i => lookN i [] [(3, [(.exit 0, xk 22 [(3, .own 1000000 1 .flat [])] [])])]
abbrev s141 : List (Bool × List CK) := [(false, [.sl 1 true])]
def G141 (F : T141) (β : Type) (e : (List V × Unit) × Unit) (k : V → Option β) : Option β := F β e.1.1 (fun y1 => k (.own 0 1 .flat y1))
abbrev W141 (F : T141) : WT := wrap s141 (G141 F)
theorem k141 (β : Type) (e : argsT s141) (k : V → Option β) : fnK cfg (tabL []) X141 141 Try.f141 β (argsEnc s141 e) k = G141 (P141 ) β e k := by kernel_rfl
theorem ok141 : FnOk D 141 (W141 F141) := fn_okW [] X141 (fun _ => rfl) Try.func141 rfl (tabL_nil) (k141 )
abbrev T134 : Type 1 := (β : Type) → Bool → List V → List V → List V → List UInt8 → (Bool → List V → List V → List V → List UInt8 → Option β) → Option β
def P134 (F141 : T141) : T134 := fun β a_Set a_Scripts a_Styles a_Images a_Nonce k =>
 F141 _ a_Scripts fun l1 =>
 F141 _ a_Styles fun l2 =>
 F141 _ a_Images fun l3 =>
 k a_Set l1 l2 l3 a_Nonce
def F134 : T134 := P134 F141
abbrev s134 : List (Bool × List CK) := [(true, [.bool, .sl 1 true, .sl 1 true, .sl 1 true, .str])]
def G134 (F : T134) (β : Type) (e : (Bool × List V × List V × List V × List UInt8 × Unit) × Unit) (k : V → Option β) : Option β := let a0_0 := e.1; let a0_1 := a0_0.2; let a0_2 := a0_1.2; let a0_3 := a0_2.2; let a0_4 := a0_3.2; F β a0_0.1 a0_1.1 a0_2.1 a0_3.1 a0_4.1 (fun y1 y2 y3 y4 y5 => k (.agg [.bool y1, .own 1 1 .flat y2, .own 2 1 .flat y3, .own 3 1 .flat y4, .str y5]))
abbrev W134 (F : T134) : WT := wrap s134 (G134 F)
theorem k134 (F141 : T141) (β : Type) (e : argsT s134) (k : V → Option β) : fnK cfg (tabL [(141, W141 F141)]) noX 134 Try.f134 β (argsEnc s134 e) k = G134 (P134 F141 ) β e k := by kernel_rfl
theorem ok134 : FnOk D 134 (W134 F134) := fn_okW [(141, W141 F141)] noX (fun _ => rfl) Try.func134 rfl (tabL_cons ok141 tabL_nil) (k134 F141 )
abbrev T135 : Type 1 := (β : Type) → List UInt8 → (List UInt8 → Option β) → Option β
def P135 : T135 := fun β a_Rest k =>
 k a_Rest
def F135 : T135 := P135
abbrev s135 : List (Bool × List CK) := [(true, [.str])]
def G135 (F : T135) (β : Type) (e : (List UInt8 × Unit) × Unit) (k : V → Option β) : Option β := F β e.1.1 (fun y1 => k (.agg [.str y1]))
abbrev W135 (F : T135) : WT := wrap s135 (G135 F)
theorem k135 (β : Type) (e : argsT s135) (k : V → Option β) : fnK cfg (tabL []) noX 135 Try.f135 β (argsEnc s135 e) k = G135 (P135 ) β e k := by kernel_rfl
theorem ok135 : FnOk D 135 (W135 F135) := fn_okW [] noX (fun _ => rfl) Try.func135 rfl (tabL_nil) (k135 )
abbrev T175 : Type 1 := (β : Type) → List UInt8 → List UInt8 → (List UInt8 → List UInt8 → Option β) → Option β
def P175 : T175 := fun β a_Name a_Value k =>
 k a_Name a_Value
def F175 : T175 := P175
abbrev s175 : List (Bool × List CK) := [(true, [.str, .str])]
def G175 (F : T175) (β : Type) (e : (List UInt8 × List UInt8 × Unit) × Unit) (k : V → Option β) : Option β := F β e.1.1 e.1.2.1 (fun y1 y2 => k (.agg [.str y1, .str y2]))
abbrev W175 (F : T175) : WT := wrap s175 (G175 F)
theorem k175 (β : Type) (e : argsT s175) (k : V → Option β) : fnK cfg (tabL []) noX 175 Try.f175 β (argsEnc s175 e) k = G175 (P175 ) β e k := by kernel_rfl
theorem ok175 : FnOk D 175 (W175 F175) := fn_okW [] noX (fun _ => rfl) Try.func175 rfl (tabL_nil) (k175 )
abbrev T169 : Type 1 := (β : Type) → List V → (List V → Option β) → Option β
def P169 (F175 : T175) : T169 := fun β a k =>
 chk (0 ≤ (a.length : Int) ∧ (a.length : Int) ≤ (a.length : Int) ∧ (a.length : Int) * 32 ≤ 140737488355328 ∧ (a.length : Int) ≤ 140737488355328) <|
 whileK (fun s1 =>
 br (decide ((lI s1 2) < ((lL s1 0).length : Int))) (
 chk (0 ≤ (lI s1 2)) <|
 idx true [.str, .str] (lL s1 0) ((lI s1 2).toNat) fun (e2 : List UInt8 × List UInt8 × Unit) =>
 F175 _ e2.1 e2.2.1 fun t3 t4 =>
 chk (0 ≤ (lI s1 2) ∧ (lI s1 2).toNat < (lL s1 1).length) <|
 storeO (lL s1 1) ((lI s1 2).toNat) 0 [.str t3, .str t4] fun l5 =>
 some (.inl [.l (lL s1 0), .l l5, .i (IntKind.wrap .i64 ((lI s1 2) + 1))])) (
 some (.inr (0, [.l (lL s1 1)])))) [.l a, .l (List.replicate ((a.length : Int).toNat) (.agg [.str [], .str []])), .i 0] fun (r6 : Nat × List Leaf) =>
 k (lL r6.2 0)
def F169 : T169 := P169 F175
def X169 : Exits := fun i => lookN i [] [(3, [(.exit 0, xk 23 [(3, .own 1000000 2 .flat [])] [])])]
abbrev s169 : List (Bool × List CK) := [(false, [.sl 2 true])]
def G169 (F : T169) (β : Type) (e : (List V × Unit) × Unit) (k : V → Option β) : Option β := F β e.1.1 (fun y1 => k (.own 0 2 .flat y1))
abbrev W169 (F : T169) : WT := wrap s169 (G169 F)
theorem k169 (F175 : T175) (β : Type) (e : argsT s169) (k : V → Option β) : fnK cfg (tabL [(175, W175 F175)]) X169 169 Try.f169 β (argsEnc s169 e) k = G169 (P169 F175 ) β e k := by kernel_rfl
theorem ok169 : FnOk D 169 (W169 F169) := fn_okW [(175, W175 F175)] X169 (fun _ => rfl) Try.func169 rfl (tabL_cons ok175 tabL_nil) (k169 F175 )
abbrev T158 : Type 1 := (β : Type) → Int → List UInt8 → List V → List UInt8 → (Int → List UInt8 → List V → List UInt8 → Option β) → Option β
def P158 (F169 : T169) : T158 := fun β a_Kind a_Name a_Attrs a_Text k =>
 F169 _ a_Attrs fun l1 =>
 k a_Kind a_Name l1 a_Text
def F158 : T158 := P158 F169
abbrev s158 : List (Bool × List CK) := [(true, [.int .i64, .str, .sl 2 true, .str])]
def G158 (F : T158) (β : Type) (e : (Int × List UInt8 × List V × List UInt8 × Unit) × Unit) (k : V → Option β) : Option β := F β e.1.1 e.1.2.1 e.1.2.2.1 e.1.2.2.2.1 (fun y1 y2 y3 y4 => k (.agg [.int .i64 y1, .str y2, .own 2 2 .flat y3, .str y4]))
abbrev W158 (F : T158) : WT := wrap s158 (G158 F)
theorem k158 (F169 : T169) (β : Type) (e : argsT s158) (k : V → Option β) : fnK cfg (tabL [(169, W169 F169)]) noX 158 Try.f158 β (argsEnc s158 e) k = G158 (P158 F169 ) β e k := by kernel_rfl
theorem ok158 : FnOk D 158 (W158 F158) := fn_okW [(169, W169 F169)] noX (fun _ => rfl) Try.func158 rfl (tabL_cons ok169 tabL_nil) (k158 F169 )
abbrev T136 : Type 1 := (β : Type) → List V → (List V → Option β) → Option β
def P136 (F158 : T158) : T136 := fun β a k =>
 chk (0 ≤ (a.length : Int) ∧ (a.length : Int) ≤ (a.length : Int) ∧ (a.length : Int) * 64 ≤ 140737488355328 ∧ (a.length : Int) ≤ 140737488355328) <|
 whileK (fun s1 =>
 br (decide ((lI s1 2) < ((lL s1 0).length : Int))) (
 chk (0 ≤ (lI s1 2)) <|
 idx true [.int .i64, .str, .sl 2 true, .str] (lL s1 0) ((lI s1 2).toNat) fun (e2 : Int × List UInt8 × List V × List UInt8 × Unit) =>
 F158 _ e2.1 e2.2.1 e2.2.2.1 e2.2.2.2.1 fun n3 t4 l5 t6 =>
 chk (0 ≤ (lI s1 2) ∧ (lI s1 2).toNat < (lL s1 1).length) <|
 storeO (lL s1 1) ((lI s1 2).toNat) 0 [.int .i64 n3, .str t4, .sl 2 true l5, .str t6] fun l7 =>
 some (.inl [.l (lL s1 0), .l l7, .i (IntKind.wrap .i64 ((lI s1 2) + 1))])) (
 some (.inr (0, [.l (lL s1 1)])))) [.l a, .l (List.replicate ((a.length : Int).toNat) (.agg [.int .i64 0, .str [], .sl 2 true [], .str []])), .i 0] fun (r8 : Nat × List Leaf) =>
 k (lL r8.2 0)
def F136 : T136 := P136 F158
def X136 : Exits := fun i => lookN i [] [(3, [(.exit 0, xk 23 [(3, .own 1000000 4 .clean [])] [])])]
abbrev s136 : List (Bool × List CK) := [(false, [.sl 4 false])]
def G136 (F : T136) (β : Type) (e : (List V × Unit) × Unit) (k : V → Option β) : Option β := F β e.1.1 (fun y1 => k (.own 0 4 .clean y1))
abbrev W136 (F : T136) : WT := wrap s136 (G136 F)
theorem k136 (F158 : T158) (β : Type) (e : argsT s136) (k : V → Option β) : fnK cfg (tabL [(158, W158 F158)]) X136 136 Try.f136 β (argsEnc s136 e) k = G136 (P136 F158 ) β e k := by kernel_rfl
theorem ok136 : FnOk D 136 (W136 F136) := fn_okW [(158, W158 F158)] X136 (fun _ => rfl) Try.func136 rfl (tabL_cons ok158 tabL_nil) (k136 F158 )
abbrev T170 : Type 1 := (β : Type) → List UInt8 → List UInt8 → Int → List V → (List UInt8 → List UInt8 → Int → List V → Option β) → Option β
def P170 (F169 : T169) : T170 := fun β a_Name a_Text a_Parent a_Attrs k =>
 F169 _ a_Attrs fun l1 =>
 k a_Name a_Text a_Parent l1
def F170 : T170 := P170 F169
abbrev s170 : List (Bool × List CK) := [(true, [.str, .str, .int .i64, .sl 2 true])]
def G170 (F : T170) (β : Type) (e : (List UInt8 × List UInt8 × Int × List V × Unit) × Unit) (k : V → Option β) : Option β := F β e.1.1 e.1.2.1 e.1.2.2.1 e.1.2.2.2.1 (fun y1 y2 y3 y4 => k (.agg [.str y1, .str y2, .int .i64 y3, .own 3 2 .flat y4]))
abbrev W170 (F : T170) : WT := wrap s170 (G170 F)
theorem k170 (F169 : T169) (β : Type) (e : argsT s170) (k : V → Option β) : fnK cfg (tabL [(169, W169 F169)]) noX 170 Try.f170 β (argsEnc s170 e) k = G170 (P170 F169 ) β e k := by kernel_rfl
theorem ok170 : FnOk D 170 (W170 F170) := fn_okW [(169, W169 F169)] noX (fun _ => rfl) Try.func170 rfl (tabL_cons ok169 tabL_nil) (k170 F169 )
abbrev T159 : Type 1 := (β : Type) → List V → (List V → Option β) → Option β
def P159 (F170 : T170) : T159 := fun β a k =>
 chk (0 ≤ (a.length : Int) ∧ (a.length : Int) ≤ (a.length : Int) ∧ (a.length : Int) * 64 ≤ 140737488355328 ∧ (a.length : Int) ≤ 140737488355328) <|
 whileK (fun s1 =>
 br (decide ((lI s1 2) < ((lL s1 0).length : Int))) (
 chk (0 ≤ (lI s1 2)) <|
 idx true [.str, .str, .int .i64, .sl 2 true] (lL s1 0) ((lI s1 2).toNat) fun (e2 : List UInt8 × List UInt8 × Int × List V × Unit) =>
 F170 _ e2.1 e2.2.1 e2.2.2.1 e2.2.2.2.1 fun t3 t4 n5 l6 =>
 chk (0 ≤ (lI s1 2) ∧ (lI s1 2).toNat < (lL s1 1).length) <|
 storeO (lL s1 1) ((lI s1 2).toNat) 0 [.str t3, .str t4, .int .i64 n5, .sl 2 true l6] fun l7 =>
 some (.inl [.l (lL s1 0), .l l7, .i (IntKind.wrap .i64 ((lI s1 2) + 1))])) (
 some (.inr (0, [.l (lL s1 1)])))) [.l a, .l (List.replicate ((a.length : Int).toNat) (.agg [.str [], .str [], .int .i64 0, .sl 2 true []])), .i 0] fun (r8 : Nat × List Leaf) =>
 k (lL r8.2 0)
def F159 : T159 := P159 F170
def X159 : Exits := fun i => lookN i [] [(3, [(.exit 0, xk 23 [(3, .own 1000000 4 .clean [])] [])])]
abbrev s159 : List (Bool × List CK) := [(false, [.sl 4 false])]
def G159 (F : T159) (β : Type) (e : (List V × Unit) × Unit) (k : V → Option β) : Option β := F β e.1.1 (fun y1 => k (.own 0 4 .clean y1))
abbrev W159 (F : T159) : WT := wrap s159 (G159 F)
theorem k159 (F170 : T170) (β : Type) (e : argsT s159) (k : V → Option β) : fnK cfg (tabL [(170, W170 F170)]) X159 159 Try.f159 β (argsEnc s159 e) k = G159 (P159 F170 ) β e k := by kernel_rfl
theorem ok159 : FnOk D 159 (W159 F159) := fn_okW [(170, W170 F170)] X159 (fun _ => rfl) Try.func159 rfl (tabL_cons ok170 tabL_nil) (k159 F170 )
abbrev T160 : Type 1 := (β : Type) → List V → (List V → Option β) → Option β
def P160 : T160 := fun β a k =>
 chk (0 ≤ (a.length : Int) ∧ (a.length : Int) ≤ (a.length : Int) ∧ (a.length : Int) * 8 ≤ 140737488355328 ∧ (a.length : Int) ≤ 140737488355328) <|
 whileK (fun s1 =>
 br (decide ((lI s1 2) < ((lL s1 0).length : Int))) (
 chk (0 ≤ (lI s1 2)) <|
 idx false [.int .i64] (lL s1 0) ((lI s1 2).toNat) fun (e2 : Int × Unit) =>
 chk (0 ≤ (lI s1 2) ∧ (lI s1 2).toNat < (lL s1 1).length) <|
 storeO (lL s1 1) ((lI s1 2).toNat) 0 [.int .i64 e2.1] fun l3 =>
 some (.inl [.l (lL s1 0), .l l3, .i (IntKind.wrap .i64 ((lI s1 2) + 1))])) (
 some (.inr (0, [.l (lL s1 1)])))) [.l a, .l (List.replicate ((a.length : Int).toNat) (.int .i64 0)), .i 0] fun (r4 : Nat × List Leaf) =>
 k (lL r4.2 0)
def F160 : T160 := P160
def X160 : Exits := fun i => lookN i [] [(3, [(.exit 0, xk 22 [(3, .own 1000000 1 .flat [])] [])])]
abbrev s160 : List (Bool × List CK) := [(false, [.sl 1 true])]
def G160 (F : T160) (β : Type) (e : (List V × Unit) × Unit) (k : V → Option β) : Option β := F β e.1.1 (fun y1 => k (.own 0 1 .flat y1))
abbrev W160 (F : T160) : WT := wrap s160 (G160 F)
theorem k160 (β : Type) (e : argsT s160) (k : V → Option β) : fnK cfg (tabL []) X160 160 Try.f160 β (argsEnc s160 e) k = G160 (P160 ) β e k := by kernel_rfl
theorem ok160 : FnOk D 160 (W160 F160) := fn_okW [] X160 (fun _ => rfl) Try.func160 rfl (tabL_nil) (k160 )
abbrev T137 : Type 1 := (β : Type) → List V → List V → (List V → List V → Option β) → Option β
def P137 (F159 : T159) (F160 : T160) : T137 := fun β a_Nodes a_Open k =>
 F159 _ a_Nodes fun l1 =>
 F160 _ a_Open fun l2 =>
 k l1 l2
def F137 : T137 := P137 F159 F160
abbrev s137 : List (Bool × List CK) := [(true, [.sl 4 false, .sl 1 true])]
def G137 (F : T137) (β : Type) (e : (List V × List V × Unit) × Unit) (k : V → Option β) : Option β := F β e.1.1 e.1.2.1 (fun y1 y2 => k (.agg [.own 0 4 .clean y1, .own 1 1 .flat y2]))
abbrev W137 (F : T137) : WT := wrap s137 (G137 F)
theorem k137 (F159 : T159) (F160 : T160) (β : Type) (e : argsT s137) (k : V → Option β) : fnK cfg (tabL [(159, W159 F159), (160, W160 F160)]) noX 137 Try.f137 β (argsEnc s137 e) k = G137 (P137 F159 F160 ) β e k := by kernel_rfl
theorem ok137 : FnOk D 137 (W137 F137) := fn_okW [(159, W159 F159), (160, W160 F160)] noX (fun _ => rfl) Try.func137 rfl (tabL_cons ok159 (tabL_cons ok160 tabL_nil)) (k137 F159 F160 )
abbrev T161 : Type 1 := (β : Type) → Int → List UInt8 → List UInt8 → List UInt8 → Int → Bool → Int → List UInt8 → (Int → List UInt8 → List UInt8 → List UInt8 → Int → Bool → Int → List UInt8 → Option β) → Option β
def P161 (F96 : T96) : T161 := fun β a_Mode a_To_Host a_To_Path a_Digest a_Node a_Done a_Code a_Body k =>
 F96 _ a_To_Host a_To_Path fun t1 t2 =>
 k a_Mode t1 t2 a_Digest a_Node a_Done a_Code a_Body
def F161 : T161 := P161 F96
abbrev s161 : List (Bool × List CK) := [(true, [.int .i64, .str, .str, .str, .int .i64, .bool, .int .i64, .str])]
def G161 (F : T161) (β : Type) (e : (Int × List UInt8 × List UInt8 × List UInt8 × Int × Bool × Int × List UInt8 × Unit) × Unit) (k : V → Option β) : Option β := let a0_0 := e.1; let a0_1 := a0_0.2; let a0_2 := a0_1.2; let a0_3 := a0_2.2; let a0_4 := a0_3.2; let a0_5 := a0_4.2; let a0_6 := a0_5.2; let a0_7 := a0_6.2; F β a0_0.1 a0_1.1 a0_2.1 a0_3.1 a0_4.1 a0_5.1 a0_6.1 a0_7.1 (fun y1 y2 y3 y4 y5 y6 y7 y8 => k (.agg [.int .i64 y1, .str y2, .str y3, .str y4, .int .i64 y5, .bool y6, .int .i64 y7, .str y8]))
abbrev W161 (F : T161) : WT := wrap s161 (G161 F)
theorem k161 (F96 : T96) (β : Type) (e : argsT s161) (k : V → Option β) : fnK cfg (tabL [(96, W96 F96)]) noX 161 Try.f161 β (argsEnc s161 e) k = G161 (P161 F96 ) β e k := by kernel_rfl
theorem ok161 : FnOk D 161 (W161 F161) := fn_okW [(96, W96 F96)] noX (fun _ => rfl) Try.func161 rfl (tabL_cons ok96 tabL_nil) (k161 F96 )
abbrev T138 : Type 1 := (β : Type) → List V → (List V → Option β) → Option β
def P138 (F161 : T161) : T138 := fun β a k =>
 chk (0 ≤ (a.length : Int) ∧ (a.length : Int) ≤ (a.length : Int) ∧ (a.length : Int) * 96 ≤ 140737488355328 ∧ (a.length : Int) ≤ 140737488355328) <|
 whileK (fun s1 =>
 br (decide ((lI s1 2) < ((lL s1 0).length : Int))) (
 chk (0 ≤ (lI s1 2)) <|
 idx true [.int .i64, .str, .str, .str, .int .i64, .bool, .int .i64, .str] (lL s1 0) ((lI s1 2).toNat) fun (e2 : Int × List UInt8 × List UInt8 × List UInt8 × Int × Bool × Int × List UInt8 × Unit) =>
 F161 _ e2.1 e2.2.1 e2.2.2.1 e2.2.2.2.1 e2.2.2.2.2.1 e2.2.2.2.2.2.1 e2.2.2.2.2.2.2.1 e2.2.2.2.2.2.2.2.1 fun n3 t4 t5 t6 n7 b8 n9 t10 =>
 chk (0 ≤ (lI s1 2) ∧ (lI s1 2).toNat < (lL s1 1).length) <|
 storeO (lL s1 1) ((lI s1 2).toNat) 0 [.int .i64 n3, .str t4, .str t5, .str t6, .int .i64 n7, .bool b8, .int .i64 n9, .str t10] fun l11 =>
 some (.inl [.l (lL s1 0), .l l11, .i (IntKind.wrap .i64 ((lI s1 2) + 1))])) (
 some (.inr (0, [.l (lL s1 1)])))) [.l a, .l (List.replicate ((a.length : Int).toNat) (.agg [.int .i64 0, .str [], .str [], .str [], .int .i64 0, .bool false, .int .i64 0, .str []])), .i 0] fun (r12 : Nat × List Leaf) =>
 k (lL r12.2 0)
def F138 : T138 := P138 F161
def X138 : Exits := fun i => lookN i [] [(3, [(.exit 0, xk 23 [(3, .own 1000000 8 .flat [])] [])])]
abbrev s138 : List (Bool × List CK) := [(false, [.sl 8 true])]
def G138 (F : T138) (β : Type) (e : (List V × Unit) × Unit) (k : V → Option β) : Option β := F β e.1.1 (fun y1 => k (.own 0 8 .flat y1))
abbrev W138 (F : T138) : WT := wrap s138 (G138 F)
theorem k138 (F161 : T161) (β : Type) (e : argsT s138) (k : V → Option β) : fnK cfg (tabL [(161, W161 F161)]) X138 138 Try.f138 β (argsEnc s138 e) k = G138 (P138 F161 ) β e k := by kernel_rfl
theorem ok138 : FnOk D 138 (W138 F138) := fn_okW [(161, W161 F161)] X138 (fun _ => rfl) Try.func138 rfl (tabL_cons ok161 tabL_nil) (k138 F161 )
abbrev T162 : Type 1 := (β : Type) → List UInt8 → List UInt8 → Bool → Int → List UInt8 → (List UInt8 → List UInt8 → Bool → Int → List UInt8 → Option β) → Option β
def P162 (F96 : T96) : T162 := fun β a_To_Host a_To_Path a_Done a_Code a_Body k =>
 F96 _ a_To_Host a_To_Path fun t1 t2 =>
 k t1 t2 a_Done a_Code a_Body
def F162 : T162 := P162 F96
abbrev s162 : List (Bool × List CK) := [(true, [.str, .str, .bool, .int .i64, .str])]
def G162 (F : T162) (β : Type) (e : (List UInt8 × List UInt8 × Bool × Int × List UInt8 × Unit) × Unit) (k : V → Option β) : Option β := let a0_0 := e.1; let a0_1 := a0_0.2; let a0_2 := a0_1.2; let a0_3 := a0_2.2; let a0_4 := a0_3.2; F β a0_0.1 a0_1.1 a0_2.1 a0_3.1 a0_4.1 (fun y1 y2 y3 y4 y5 => k (.agg [.str y1, .str y2, .bool y3, .int .i64 y4, .str y5]))
abbrev W162 (F : T162) : WT := wrap s162 (G162 F)
theorem k162 (F96 : T96) (β : Type) (e : argsT s162) (k : V → Option β) : fnK cfg (tabL [(96, W96 F96)]) noX 162 Try.f162 β (argsEnc s162 e) k = G162 (P162 F96 ) β e k := by kernel_rfl
theorem ok162 : FnOk D 162 (W162 F162) := fn_okW [(96, W96 F96)] noX (fun _ => rfl) Try.func162 rfl (tabL_cons ok96 tabL_nil) (k162 F96 )
abbrev T139 : Type 1 := (β : Type) → List V → (List V → Option β) → Option β
def P139 (F162 : T162) : T139 := fun β a k =>
 chk (0 ≤ (a.length : Int) ∧ (a.length : Int) ≤ (a.length : Int) ∧ (a.length : Int) * 64 ≤ 140737488355328 ∧ (a.length : Int) ≤ 140737488355328) <|
 whileK (fun s1 =>
 br (decide ((lI s1 2) < ((lL s1 0).length : Int))) (
 chk (0 ≤ (lI s1 2)) <|
 idx true [.str, .str, .bool, .int .i64, .str] (lL s1 0) ((lI s1 2).toNat) fun (e2 : List UInt8 × List UInt8 × Bool × Int × List UInt8 × Unit) =>
 F162 _ e2.1 e2.2.1 e2.2.2.1 e2.2.2.2.1 e2.2.2.2.2.1 fun t3 t4 b5 n6 t7 =>
 chk (0 ≤ (lI s1 2) ∧ (lI s1 2).toNat < (lL s1 1).length) <|
 storeO (lL s1 1) ((lI s1 2).toNat) 0 [.str t3, .str t4, .bool b5, .int .i64 n6, .str t7] fun l8 =>
 some (.inl [.l (lL s1 0), .l l8, .i (IntKind.wrap .i64 ((lI s1 2) + 1))])) (
 some (.inr (0, [.l (lL s1 1)])))) [.l a, .l (List.replicate ((a.length : Int).toNat) (.agg [.str [], .str [], .bool false, .int .i64 0, .str []])), .i 0] fun (r9 : Nat × List Leaf) =>
 k (lL r9.2 0)
def F139 : T139 := P139 F162
def X139 : Exits := fun i => lookN i [] [(3, [(.exit 0, xk 23 [(3, .own 1000000 5 .flat [])] [])])]
abbrev s139 : List (Bool × List CK) := [(false, [.sl 5 true])]
def G139 (F : T139) (β : Type) (e : (List V × Unit) × Unit) (k : V → Option β) : Option β := F β e.1.1 (fun y1 => k (.own 0 5 .flat y1))
abbrev W139 (F : T139) : WT := wrap s139 (G139 F)
theorem k139 (F162 : T162) (β : Type) (e : argsT s139) (k : V → Option β) : fnK cfg (tabL [(162, W162 F162)]) X139 139 Try.f139 β (argsEnc s139 e) k = G139 (P139 F162 ) β e k := by kernel_rfl
theorem ok139 : FnOk D 139 (W139 F139) := fn_okW [(162, W162 F162)] X139 (fun _ => rfl) Try.func139 rfl (tabL_cons ok162 tabL_nil) (k139 F162 )
abbrev T140 : Type 1 := (β : Type) → List V → (List V → Option β) → Option β
def P140 (F96 : T96) : T140 := fun β a k =>
 chk (0 ≤ (a.length : Int) ∧ (a.length : Int) ≤ (a.length : Int) ∧ (a.length : Int) * 32 ≤ 140737488355328 ∧ (a.length : Int) ≤ 140737488355328) <|
 whileK (fun s1 =>
 br (decide ((lI s1 2) < ((lL s1 0).length : Int))) (
 chk (0 ≤ (lI s1 2)) <|
 idx true [.str, .str] (lL s1 0) ((lI s1 2).toNat) fun (e2 : List UInt8 × List UInt8 × Unit) =>
 F96 _ e2.1 e2.2.1 fun t3 t4 =>
 chk (0 ≤ (lI s1 2) ∧ (lI s1 2).toNat < (lL s1 1).length) <|
 storeO (lL s1 1) ((lI s1 2).toNat) 0 [.str t3, .str t4] fun l5 =>
 some (.inl [.l (lL s1 0), .l l5, .i (IntKind.wrap .i64 ((lI s1 2) + 1))])) (
 some (.inr (0, [.l (lL s1 1)])))) [.l a, .l (List.replicate ((a.length : Int).toNat) (.agg [.str [], .str []])), .i 0] fun (r6 : Nat × List Leaf) =>
 k (lL r6.2 0)
def F140 : T140 := P140 F96
def X140 : Exits := fun i => lookN i [] [(3, [(.exit 0, xk 23 [(3, .own 1000000 2 .flat [])] [])])]
abbrev s140 : List (Bool × List CK) := [(false, [.sl 2 true])]
def G140 (F : T140) (β : Type) (e : (List V × Unit) × Unit) (k : V → Option β) : Option β := F β e.1.1 (fun y1 => k (.own 0 2 .flat y1))
abbrev W140 (F : T140) : WT := wrap s140 (G140 F)
theorem k140 (F96 : T96) (β : Type) (e : argsT s140) (k : V → Option β) : fnK cfg (tabL [(96, W96 F96)]) X140 140 Try.f140 β (argsEnc s140 e) k = G140 (P140 F96 ) β e k := by kernel_rfl
theorem ok140 : FnOk D 140 (W140 F140) := fn_okW [(96, W96 F96)] X140 (fun _ => rfl) Try.func140 rfl (tabL_cons ok96 tabL_nil) (k140 F96 )
abbrev T97 : Type 1 := (β : Type) → List UInt8 → List UInt8 → Bool → List V → List V → List V → List UInt8 → List UInt8 → List V → Bool → List V → List V → List V → List V → List V → Int → Int → Int → Int → List V → List V → Bool → (List UInt8 → List UInt8 → Bool → List V → List V → List V → List UInt8 → List UInt8 → List V → Bool → List V → List V → List V → List V → List V → Int → Int → Int → Int → List V → List V → Bool → Option β) → Option β
def P97 (F96 : T96) (F134 : T134) (F135 : T135) (F136 : T136) (F137 : T137) (F138 : T138) (F139 : T139) (F140 : T140) (F141 : T141) : T97 := fun β a_Addr_Host a_Addr_Path a_Policy_Set a_Policy_Scripts a_Policy_Styles a_Policy_Images a_Policy_Nonce a_Tok_Rest a_Queue a_Ended a_Builder_Nodes a_Builder_Open a_Slots a_Mods a_Entries a_Block a_Inline a_Deferred a_Entered a_Ran a_Log a_Loaded k =>
 F96 _ a_Addr_Host a_Addr_Path fun t1 t2 =>
 F134 _ a_Policy_Set a_Policy_Scripts a_Policy_Styles a_Policy_Images a_Policy_Nonce fun b3 l4 l5 l6 t7 =>
 F135 _ a_Tok_Rest fun t8 =>
 F136 _ a_Queue fun l9 =>
 F137 _ a_Builder_Nodes a_Builder_Open fun l10 l11 =>
 F138 _ a_Slots fun l12 =>
 F139 _ a_Mods fun l13 =>
 F140 _ a_Entries fun l14 =>
 F140 _ a_Ran fun l15 =>
 F141 _ a_Log fun l16 =>
 k t1 t2 b3 l4 l5 l6 t7 t8 l9 a_Ended l10 l11 l12 l13 l14 a_Block a_Inline a_Deferred a_Entered l15 l16 a_Loaded
def F97 : T97 := P97 F96 F134 F135 F136 F137 F138 F139 F140 F141
abbrev s97 : List (Bool × List CK) := [(true, [.str, .str, .bool, .sl 1 true, .sl 1 true, .sl 1 true, .str, .str, .sl 4 false, .bool, .sl 4 false, .sl 1 true, .sl 8 true, .sl 5 true, .sl 2 true, .int .i64, .int .i64, .int .i64, .int .i64, .sl 2 true, .sl 1 true, .bool])]
def G97 (F : T97) (β : Type) (e : (List UInt8 × List UInt8 × Bool × List V × List V × List V × List UInt8 × List UInt8 × List V × Bool × List V × List V × List V × List V × List V × Int × Int × Int × Int × List V × List V × Bool × Unit) × Unit) (k : V → Option β) : Option β := let a0_0 := e.1; let a0_1 := a0_0.2; let a0_2 := a0_1.2; let a0_3 := a0_2.2; let a0_4 := a0_3.2; let a0_5 := a0_4.2; let a0_6 := a0_5.2; let a0_7 := a0_6.2; let a0_8 := a0_7.2; let a0_9 := a0_8.2; let a0_10 := a0_9.2; let a0_11 := a0_10.2; let a0_12 := a0_11.2; let a0_13 := a0_12.2; let a0_14 := a0_13.2; let a0_15 := a0_14.2; let a0_16 := a0_15.2; let a0_17 := a0_16.2; let a0_18 := a0_17.2; let a0_19 := a0_18.2; let a0_20 := a0_19.2; let a0_21 := a0_20.2; F β a0_0.1 a0_1.1 a0_2.1 a0_3.1 a0_4.1 a0_5.1 a0_6.1 a0_7.1 a0_8.1 a0_9.1 a0_10.1 a0_11.1 a0_12.1 a0_13.1 a0_14.1 a0_15.1 a0_16.1 a0_17.1 a0_18.1 a0_19.1 a0_20.1 a0_21.1 (fun y1 y2 y3 y4 y5 y6 y7 y8 y9 y10 y11 y12 y13 y14 y15 y16 y17 y18 y19 y20 y21 y22 => k (.agg [.str y1, .str y2, .bool y3, .own 3 1 .flat y4, .own 4 1 .flat y5, .own 5 1 .flat y6, .str y7, .str y8, .own 8 4 .clean y9, .bool y10, .own 10 4 .clean y11, .own 11 1 .flat y12, .own 12 8 .flat y13, .own 13 5 .flat y14, .own 14 2 .flat y15, .int .i64 y16, .int .i64 y17, .int .i64 y18, .int .i64 y19, .own 19 2 .flat y20, .own 20 1 .flat y21, .bool y22]))
abbrev W97 (F : T97) : WT := wrap s97 (G97 F)
theorem k97 (F96 : T96) (F134 : T134) (F135 : T135) (F136 : T136) (F137 : T137) (F138 : T138) (F139 : T139) (F140 : T140) (F141 : T141) (β : Type) (e : argsT s97) (k : V → Option β) : fnK cfg (tabL [(96, W96 F96), (134, W134 F134), (135, W135 F135), (136, W136 F136), (137, W137 F137), (138, W138 F138), (139, W139 F139), (140, W140 F140), (141, W141 F141)]) noX 97 Try.f97 β (argsEnc s97 e) k = G97 (P97 F96 F134 F135 F136 F137 F138 F139 F140 F141 ) β e k := by kernel_rfl
theorem ok97 : FnOk D 97 (W97 F97) := fn_okW [(96, W96 F96), (134, W134 F134), (135, W135 F135), (136, W136 F136), (137, W137 F137), (138, W138 F138), (139, W139 F139), (140, W140 F140), (141, W141 F141)] noX (fun _ => rfl) Try.func97 rfl (tabL_cons ok96 (tabL_cons ok134 (tabL_cons ok135 (tabL_cons ok136 (tabL_cons ok137 (tabL_cons ok138 (tabL_cons ok139 (tabL_cons ok140 (tabL_cons ok141 tabL_nil))))))))) (k97 F96 F134 F135 F136 F137 F138 F139 F140 F141 )
abbrev T57 : Type 1 := (β : Type) → List UInt8 → List UInt8 → List UInt8 → List UInt8 → Bool → List V → List V → List V → List UInt8 → List UInt8 → List V → Bool → List V → List V → List V → List V → List V → Int → Int → Int → Int → List V → List V → Bool → Bool → (List UInt8 → List UInt8 → List UInt8 → List UInt8 → Bool → List V → List V → List V → List UInt8 → List UInt8 → List V → Bool → List V → List V → List V → List V → List V → Int → Int → Int → Int → List V → List V → Bool → Bool → Option β) → Option β
def P57 (F96 : T96) (F97 : T97) : T57 := fun β a_Addr_Host a_Addr_Path a_Page_Addr_Host a_Page_Addr_Path a_Page_Policy_Set a_Page_Policy_Scripts a_Page_Policy_Styles a_Page_Policy_Images a_Page_Policy_Nonce a_Page_Tok_Rest a_Page_Queue a_Page_Ended a_Page_Builder_Nodes a_Page_Builder_Open a_Page_Slots a_Page_Mods a_Page_Entries a_Page_Block a_Page_Inline a_Page_Deferred a_Page_Entered a_Page_Ran a_Page_Log a_Page_Loaded a_Kept k =>
 F96 _ a_Addr_Host a_Addr_Path fun t1 t2 =>
 F97 _ a_Page_Addr_Host a_Page_Addr_Path a_Page_Policy_Set a_Page_Policy_Scripts a_Page_Policy_Styles a_Page_Policy_Images a_Page_Policy_Nonce a_Page_Tok_Rest a_Page_Queue a_Page_Ended a_Page_Builder_Nodes a_Page_Builder_Open a_Page_Slots a_Page_Mods a_Page_Entries a_Page_Block a_Page_Inline a_Page_Deferred a_Page_Entered a_Page_Ran a_Page_Log a_Page_Loaded fun t3 t4 b5 l6 l7 l8 t9 t10 l11 b12 l13 l14 l15 l16 l17 n18 n19 n20 n21 l22 l23 b24 =>
 k t1 t2 t3 t4 b5 l6 l7 l8 t9 t10 l11 b12 l13 l14 l15 l16 l17 n18 n19 n20 n21 l22 l23 b24 a_Kept
def F57 : T57 := P57 F96 F97
abbrev s57 : List (Bool × List CK) := [(true, [.str, .str, .str, .str, .bool, .sl 1 true, .sl 1 true, .sl 1 true, .str, .str, .sl 4 false, .bool, .sl 4 false, .sl 1 true, .sl 8 true, .sl 5 true, .sl 2 true, .int .i64, .int .i64, .int .i64, .int .i64, .sl 2 true, .sl 1 true, .bool, .bool])]
def G57 (F : T57) (β : Type) (e : (List UInt8 × List UInt8 × List UInt8 × List UInt8 × Bool × List V × List V × List V × List UInt8 × List UInt8 × List V × Bool × List V × List V × List V × List V × List V × Int × Int × Int × Int × List V × List V × Bool × Bool × Unit) × Unit) (k : V → Option β) : Option β := let a0_0 := e.1; let a0_1 := a0_0.2; let a0_2 := a0_1.2; let a0_3 := a0_2.2; let a0_4 := a0_3.2; let a0_5 := a0_4.2; let a0_6 := a0_5.2; let a0_7 := a0_6.2; let a0_8 := a0_7.2; let a0_9 := a0_8.2; let a0_10 := a0_9.2; let a0_11 := a0_10.2; let a0_12 := a0_11.2; let a0_13 := a0_12.2; let a0_14 := a0_13.2; let a0_15 := a0_14.2; let a0_16 := a0_15.2; let a0_17 := a0_16.2; let a0_18 := a0_17.2; let a0_19 := a0_18.2; let a0_20 := a0_19.2; let a0_21 := a0_20.2; let a0_22 := a0_21.2; let a0_23 := a0_22.2; let a0_24 := a0_23.2; F β a0_0.1 a0_1.1 a0_2.1 a0_3.1 a0_4.1 a0_5.1 a0_6.1 a0_7.1 a0_8.1 a0_9.1 a0_10.1 a0_11.1 a0_12.1 a0_13.1 a0_14.1 a0_15.1 a0_16.1 a0_17.1 a0_18.1 a0_19.1 a0_20.1 a0_21.1 a0_22.1 a0_23.1 a0_24.1 (fun y1 y2 y3 y4 y5 y6 y7 y8 y9 y10 y11 y12 y13 y14 y15 y16 y17 y18 y19 y20 y21 y22 y23 y24 y25 => k (.agg [.str y1, .str y2, .str y3, .str y4, .bool y5, .own 5 1 .flat y6, .own 6 1 .flat y7, .own 7 1 .flat y8, .str y9, .str y10, .own 10 4 .clean y11, .bool y12, .own 12 4 .clean y13, .own 13 1 .flat y14, .own 14 8 .flat y15, .own 15 5 .flat y16, .own 16 2 .flat y17, .int .i64 y18, .int .i64 y19, .int .i64 y20, .int .i64 y21, .own 21 2 .flat y22, .own 22 1 .flat y23, .bool y24, .bool y25]))
abbrev W57 (F : T57) : WT := wrap s57 (G57 F)
theorem k57 (F96 : T96) (F97 : T97) (β : Type) (e : argsT s57) (k : V → Option β) : fnK cfg (tabL [(96, W96 F96), (97, W97 F97)]) noX 57 Try.f57 β (argsEnc s57 e) k = G57 (P57 F96 F97 ) β e k := by kernel_rfl
theorem ok57 : FnOk D 57 (W57 F57) := fn_okW [(96, W96 F96), (97, W97 F97)] noX (fun _ => rfl) Try.func57 rfl (tabL_cons ok96 (tabL_cons ok97 tabL_nil)) (k57 F96 F97 )
abbrev T34 : Type 1 := (β : Type) → List V → (List V → Option β) → Option β
def P34 (F57 : T57) : T34 := fun β a k =>
 chk (0 ≤ (a.length : Int) ∧ (a.length : Int) ≤ (a.length : Int) ∧ (a.length : Int) * 424 ≤ 140737488355328 ∧ (a.length : Int) ≤ 140737488355328) <|
 whileK (fun s1 =>
 br (decide ((lI s1 2) < ((lL s1 0).length : Int))) (
 chk (0 ≤ (lI s1 2)) <|
 idx true [.str, .str, .str, .str, .bool, .sl 1 true, .sl 1 true, .sl 1 true, .str, .str, .sl 4 false, .bool, .sl 4 false, .sl 1 true, .sl 8 true, .sl 5 true, .sl 2 true, .int .i64, .int .i64, .int .i64, .int .i64, .sl 2 true, .sl 1 true, .bool, .bool] (lL s1 0) ((lI s1 2).toNat) fun (e2 : List UInt8 × List UInt8 × List UInt8 × List UInt8 × Bool × List V × List V × List V × List UInt8 × List UInt8 × List V × Bool × List V × List V × List V × List V × List V × Int × Int × Int × Int × List V × List V × Bool × Bool × Unit) =>
 F57 _ e2.1 e2.2.1 e2.2.2.1 e2.2.2.2.1 e2.2.2.2.2.1 e2.2.2.2.2.2.1 e2.2.2.2.2.2.2.1 e2.2.2.2.2.2.2.2.1 e2.2.2.2.2.2.2.2.2.1 e2.2.2.2.2.2.2.2.2.2.1 e2.2.2.2.2.2.2.2.2.2.2.1 e2.2.2.2.2.2.2.2.2.2.2.2.1 e2.2.2.2.2.2.2.2.2.2.2.2.2.1 e2.2.2.2.2.2.2.2.2.2.2.2.2.2.1 e2.2.2.2.2.2.2.2.2.2.2.2.2.2.2.1 e2.2.2.2.2.2.2.2.2.2.2.2.2.2.2.2.1 e2.2.2.2.2.2.2.2.2.2.2.2.2.2.2.2.2.1 e2.2.2.2.2.2.2.2.2.2.2.2.2.2.2.2.2.2.1 e2.2.2.2.2.2.2.2.2.2.2.2.2.2.2.2.2.2.2.1 e2.2.2.2.2.2.2.2.2.2.2.2.2.2.2.2.2.2.2.2.1 e2.2.2.2.2.2.2.2.2.2.2.2.2.2.2.2.2.2.2.2.2.1 e2.2.2.2.2.2.2.2.2.2.2.2.2.2.2.2.2.2.2.2.2.2.1 e2.2.2.2.2.2.2.2.2.2.2.2.2.2.2.2.2.2.2.2.2.2.2.1 e2.2.2.2.2.2.2.2.2.2.2.2.2.2.2.2.2.2.2.2.2.2.2.2.1 e2.2.2.2.2.2.2.2.2.2.2.2.2.2.2.2.2.2.2.2.2.2.2.2.2.1 fun t3 t4 t5 t6 b7 l8 l9 l10 t11 t12 l13 b14 l15 l16 l17 l18 l19 n20 n21 n22 n23 l24 l25 b26 b27 =>
 chk (0 ≤ (lI s1 2) ∧ (lI s1 2).toNat < (lL s1 1).length) <|
 storeO (lL s1 1) ((lI s1 2).toNat) 0 [.str t3, .str t4, .str t5, .str t6, .bool b7, .sl 1 true l8, .sl 1 true l9, .sl 1 true l10, .str t11, .str t12, .sl 4 false l13, .bool b14, .sl 4 false l15, .sl 1 true l16, .sl 8 true l17, .sl 5 true l18, .sl 2 true l19, .int .i64 n20, .int .i64 n21, .int .i64 n22, .int .i64 n23, .sl 2 true l24, .sl 1 true l25, .bool b26, .bool b27] fun l28 =>
 some (.inl [.l (lL s1 0), .l l28, .i (IntKind.wrap .i64 ((lI s1 2) + 1))])) (
 some (.inr (0, [.l (lL s1 1)])))) [.l a, .l (List.replicate ((a.length : Int).toNat) (.agg [.str [], .str [], .str [], .str [], .bool false, .sl 1 true [], .sl 1 true [], .sl 1 true [], .str [], .str [], .sl 4 false [], .bool false, .sl 4 false [], .sl 1 true [], .sl 8 true [], .sl 5 true [], .sl 2 true [], .int .i64 0, .int .i64 0, .int .i64 0, .int .i64 0, .sl 2 true [], .sl 1 true [], .bool false, .bool false])), .i 0] fun (r29 : Nat × List Leaf) =>
 k (lL r29.2 0)
def F34 : T34 := P34 F57
def X34 : Exits := fun i => lookN i [] [(3, [(.exit 0, xk 23 [(3, .own 1000000 25 .clean [])] [])])]
abbrev s34 : List (Bool × List CK) := [(false, [.sl 25 false])]
def G34 (F : T34) (β : Type) (e : (List V × Unit) × Unit) (k : V → Option β) : Option β := F β e.1.1 (fun y1 => k (.own 0 25 .clean y1))
abbrev W34 (F : T34) : WT := wrap s34 (G34 F)
theorem k34 (F57 : T57) (β : Type) (e : argsT s34) (k : V → Option β) : fnK cfg (tabL [(57, W57 F57)]) X34 34 Try.f34 β (argsEnc s34 e) k = G34 (P34 F57 ) β e k := by kernel_rfl
theorem ok34 : FnOk D 34 (W34 F34) := fn_okW [(57, W57 F57)] X34 (fun _ => rfl) Try.func34 rfl (tabL_cons ok57 tabL_nil) (k34 F57 )
abbrev T13 : Type 1 := (β : Type) → List V → Int → (List V → Int → Option β) → Option β
def P13 (F34 : T34) : T13 := fun β a_Visits a_At k =>
 F34 _ a_Visits fun l1 =>
 k l1 a_At
def F13 : T13 := P13 F34
abbrev s13 : List (Bool × List CK) := [(true, [.sl 25 false, .int .i64])]
def G13 (F : T13) (β : Type) (e : (List V × Int × Unit) × Unit) (k : V → Option β) : Option β := F β e.1.1 e.1.2.1 (fun y1 y2 => k (.agg [.own 0 25 .clean y1, .int .i64 y2]))
abbrev W13 (F : T13) : WT := wrap s13 (G13 F)
theorem k13 (F34 : T34) (β : Type) (e : argsT s13) (k : V → Option β) : fnK cfg (tabL [(34, W34 F34)]) noX 13 Try.f13 β (argsEnc s13 e) k = G13 (P13 F34 ) β e k := by kernel_rfl
theorem ok13 : FnOk D 13 (W13 F13) := fn_okW [(34, W34 F34)] noX (fun _ => rfl) Try.func13 rfl (tabL_cons ok34 tabL_nil) (k13 F34 )
abbrev T101 : Type 1 := (β : Type) → List UInt8 → List UInt8 → List UInt8 → List UInt8 → (Bool → Option β) → Option β
def P101 : T101 := fun β a_Host a_Path b_Host b_Path k =>
 br (!(a_Host == b_Host)) (
 k false) (
 br (!(a_Path == b_Path)) (
 k false) (
 k true))
def F101 : T101 := P101
abbrev s101 : List (Bool × List CK) := [(true, [.str, .str]), (true, [.str, .str])]
def G101 (F : T101) (β : Type) (e : (List UInt8 × List UInt8 × Unit) × (List UInt8 × List UInt8 × Unit) × Unit) (k : V → Option β) : Option β := F β e.1.1 e.1.2.1 e.2.1.1 e.2.1.2.1 (fun y1 => k (.bool y1))
abbrev W101 (F : T101) : WT := wrap s101 (G101 F)
theorem k101 (β : Type) (e : argsT s101) (k : V → Option β) : fnK cfg (tabL []) noX 101 Try.f101 β (argsEnc s101 e) k = G101 (P101 ) β e k := by kernel_rfl
theorem ok101 : FnOk D 101 (W101 F101) := fn_okW [] noX (fun _ => rfl) Try.func101 rfl (tabL_nil) (k101 )
abbrev T115 : Type 1 := (β : Type) → List V → List V → (Bool → Option β) → Option β
def P115 : T115 := fun β a b k =>
 br ((a.length : Int) != (b.length : Int)) (
 k false) (
 whileK (fun s1 =>
 br (decide ((lI s1 2) < ((lL s1 0).length : Int))) (
 chk (0 ≤ (lI s1 2)) <|
 idx false [.str] (lL s1 0) ((lI s1 2).toNat) fun (e2 : List UInt8 × Unit) =>
 chk (0 ≤ (lI s1 2)) <|
 idx false [.str] (lL s1 1) ((lI s1 2).toNat) fun (e3 : List UInt8 × Unit) =>
 br (!(e2.1 == e3.1)) (
 some (.inr (0, [.b false]))) (
 some (.inl [.l (lL s1 0), .l (lL s1 1), .i (IntKind.wrap .i64 ((lI s1 2) + 1))]))) (
 some (.inr (1, [])))) [.l a, .l b, .i 0] fun (r4 : Nat × List Leaf) =>
 if r4.1 = 0 then
 k (lB r4.2 0)
 else
 k true)
def F115 : T115 := P115
def X115 : Exits := fun i => lookN i [] [(4, [(.ret, xk 26 [(4, .bool false)] []), (.exit 0, xk 26 [] [])])]
abbrev s115 : List (Bool × List CK) := [(false, [.sl 1 true]), (false, [.sl 1 true])]
def G115 (F : T115) (β : Type) (e : (List V × Unit) × (List V × Unit) × Unit) (k : V → Option β) : Option β := F β e.1.1 e.2.1.1 (fun y1 => k (.bool y1))
abbrev W115 (F : T115) : WT := wrap s115 (G115 F)
theorem k115 (β : Type) (e : argsT s115) (k : V → Option β) : fnK cfg (tabL []) X115 115 Try.f115 β (argsEnc s115 e) k = G115 (P115 ) β e k := by kernel_rfl
theorem ok115 : FnOk D 115 (W115 F115) := fn_okW [] X115 (fun _ => rfl) Try.func115 rfl (tabL_nil) (k115 )
abbrev T108 : Type 1 := (β : Type) → Bool → List V → List V → List V → List UInt8 → Bool → List V → List V → List V → List UInt8 → (Bool → Option β) → Option β
def P108 (F115 : T115) : T108 := fun β a_Set a_Scripts a_Styles a_Images a_Nonce b_Set b_Scripts b_Styles b_Images b_Nonce k =>
 br (!(a_Set == b_Set)) (
 k false) (
 F115 _ a_Scripts b_Scripts fun b1 =>
 br (!b1) (
 k false) (
 F115 _ a_Styles b_Styles fun b2 =>
 br (!b2) (
 k false) (
 F115 _ a_Images b_Images fun b3 =>
 br (!b3) (
 k false) (
 br (!(a_Nonce == b_Nonce)) (
 k false) (
 k true)))))
def F108 : T108 := P108 F115
abbrev s108 : List (Bool × List CK) := [(true, [.bool, .sl 1 true, .sl 1 true, .sl 1 true, .str]), (true, [.bool, .sl 1 true, .sl 1 true, .sl 1 true, .str])]
def G108 (F : T108) (β : Type) (e : (Bool × List V × List V × List V × List UInt8 × Unit) × (Bool × List V × List V × List V × List UInt8 × Unit) × Unit) (k : V → Option β) : Option β := let a0_0 := e.1; let a0_1 := a0_0.2; let a0_2 := a0_1.2; let a0_3 := a0_2.2; let a0_4 := a0_3.2; let a1_0 := e.2.1; let a1_1 := a1_0.2; let a1_2 := a1_1.2; let a1_3 := a1_2.2; let a1_4 := a1_3.2; F β a0_0.1 a0_1.1 a0_2.1 a0_3.1 a0_4.1 a1_0.1 a1_1.1 a1_2.1 a1_3.1 a1_4.1 (fun y1 => k (.bool y1))
abbrev W108 (F : T108) : WT := wrap s108 (G108 F)
theorem k108 (F115 : T115) (β : Type) (e : argsT s108) (k : V → Option β) : fnK cfg (tabL [(115, W115 F115)]) noX 108 Try.f108 β (argsEnc s108 e) k = G108 (P108 F115 ) β e k := by kernel_rfl
theorem ok108 : FnOk D 108 (W108 F108) := fn_okW [(115, W115 F115)] noX (fun _ => rfl) Try.func108 rfl (tabL_cons ok115 tabL_nil) (k108 F115 )
abbrev T109 : Type 1 := (β : Type) → List UInt8 → List UInt8 → (Bool → Option β) → Option β
def P109 : T109 := fun β a_Rest b_Rest k =>
 br (!(a_Rest == b_Rest)) (
 k false) (
 k true)
def F109 : T109 := P109
abbrev s109 : List (Bool × List CK) := [(true, [.str]), (true, [.str])]
def G109 (F : T109) (β : Type) (e : (List UInt8 × Unit) × (List UInt8 × Unit) × Unit) (k : V → Option β) : Option β := F β e.1.1 e.2.1.1 (fun y1 => k (.bool y1))
abbrev W109 (F : T109) : WT := wrap s109 (G109 F)
theorem k109 (β : Type) (e : argsT s109) (k : V → Option β) : fnK cfg (tabL []) noX 109 Try.f109 β (argsEnc s109 e) k = G109 (P109 ) β e k := by kernel_rfl
theorem ok109 : FnOk D 109 (W109 F109) := fn_okW [] noX (fun _ => rfl) Try.func109 rfl (tabL_nil) (k109 )
abbrev T171 : Type 1 := (β : Type) → List UInt8 → List UInt8 → List UInt8 → List UInt8 → (Bool → Option β) → Option β
def P171 : T171 := fun β a_Name a_Value b_Name b_Value k =>
 br (!(a_Name == b_Name)) (
 k false) (
 br (!(a_Value == b_Value)) (
 k false) (
 k true))
def F171 : T171 := P171
abbrev s171 : List (Bool × List CK) := [(true, [.str, .str]), (true, [.str, .str])]
def G171 (F : T171) (β : Type) (e : (List UInt8 × List UInt8 × Unit) × (List UInt8 × List UInt8 × Unit) × Unit) (k : V → Option β) : Option β := F β e.1.1 e.1.2.1 e.2.1.1 e.2.1.2.1 (fun y1 => k (.bool y1))
abbrev W171 (F : T171) : WT := wrap s171 (G171 F)
theorem k171 (β : Type) (e : argsT s171) (k : V → Option β) : fnK cfg (tabL []) noX 171 Try.f171 β (argsEnc s171 e) k = G171 (P171 ) β e k := by kernel_rfl
theorem ok171 : FnOk D 171 (W171 F171) := fn_okW [] noX (fun _ => rfl) Try.func171 rfl (tabL_nil) (k171 )
abbrev T163 : Type 1 := (β : Type) → List V → List V → (Bool → Option β) → Option β
def P163 (F171 : T171) : T163 := fun β a b k =>
 br ((a.length : Int) != (b.length : Int)) (
 k false) (
 whileK (fun s1 =>
 br (decide ((lI s1 2) < ((lL s1 0).length : Int))) (
 chk (0 ≤ (lI s1 2)) <|
 idx true [.str, .str] (lL s1 0) ((lI s1 2).toNat) fun (e2 : List UInt8 × List UInt8 × Unit) =>
 chk (0 ≤ (lI s1 2)) <|
 idx true [.str, .str] (lL s1 1) ((lI s1 2).toNat) fun (e3 : List UInt8 × List UInt8 × Unit) =>
 F171 _ e2.1 e2.2.1 e3.1 e3.2.1 fun b4 =>
 br (!b4) (
 some (.inr (0, [.b false]))) (
 some (.inl [.l (lL s1 0), .l (lL s1 1), .i (IntKind.wrap .i64 ((lI s1 2) + 1))]))) (
 some (.inr (1, [])))) [.l a, .l b, .i 0] fun (r5 : Nat × List Leaf) =>
 if r5.1 = 0 then
 k (lB r5.2 0)
 else
 k true)
def F163 : T163 := P163 F171
def X163 : Exits := fun i => lookN i [] [(4, [(.ret, xk 27 [(4, .bool false)] []), (.exit 0, xk 27 [] [])])]
abbrev s163 : List (Bool × List CK) := [(false, [.sl 2 true]), (false, [.sl 2 true])]
def G163 (F : T163) (β : Type) (e : (List V × Unit) × (List V × Unit) × Unit) (k : V → Option β) : Option β := F β e.1.1 e.2.1.1 (fun y1 => k (.bool y1))
abbrev W163 (F : T163) : WT := wrap s163 (G163 F)
theorem k163 (F171 : T171) (β : Type) (e : argsT s163) (k : V → Option β) : fnK cfg (tabL [(171, W171 F171)]) X163 163 Try.f163 β (argsEnc s163 e) k = G163 (P163 F171 ) β e k := by kernel_rfl
theorem ok163 : FnOk D 163 (W163 F163) := fn_okW [(171, W171 F171)] X163 (fun _ => rfl) Try.func163 rfl (tabL_cons ok171 tabL_nil) (k163 F171 )
abbrev T146 : Type 1 := (β : Type) → Int → List UInt8 → List V → List UInt8 → Int → List UInt8 → List V → List UInt8 → (Bool → Option β) → Option β
def P146 (F163 : T163) : T146 := fun β a_Kind a_Name a_Attrs a_Text b_Kind b_Name b_Attrs b_Text k =>
 br (a_Kind != b_Kind) (
 k false) (
 br (!(a_Name == b_Name)) (
 k false) (
 F163 _ a_Attrs b_Attrs fun b1 =>
 br (!b1) (
 k false) (
 br (!(a_Text == b_Text)) (
 k false) (
 k true))))
def F146 : T146 := P146 F163
abbrev s146 : List (Bool × List CK) := [(true, [.int .i64, .str, .sl 2 true, .str]), (true, [.int .i64, .str, .sl 2 true, .str])]
def G146 (F : T146) (β : Type) (e : (Int × List UInt8 × List V × List UInt8 × Unit) × (Int × List UInt8 × List V × List UInt8 × Unit) × Unit) (k : V → Option β) : Option β := F β e.1.1 e.1.2.1 e.1.2.2.1 e.1.2.2.2.1 e.2.1.1 e.2.1.2.1 e.2.1.2.2.1 e.2.1.2.2.2.1 (fun y1 => k (.bool y1))
abbrev W146 (F : T146) : WT := wrap s146 (G146 F)
theorem k146 (F163 : T163) (β : Type) (e : argsT s146) (k : V → Option β) : fnK cfg (tabL [(163, W163 F163)]) noX 146 Try.f146 β (argsEnc s146 e) k = G146 (P146 F163 ) β e k := by kernel_rfl
theorem ok146 : FnOk D 146 (W146 F146) := fn_okW [(163, W163 F163)] noX (fun _ => rfl) Try.func146 rfl (tabL_cons ok163 tabL_nil) (k146 F163 )
abbrev T110 : Type 1 := (β : Type) → List V → List V → (Bool → Option β) → Option β
def P110 (F146 : T146) : T110 := fun β a b k =>
 br ((a.length : Int) != (b.length : Int)) (
 k false) (
 whileK (fun s1 =>
 br (decide ((lI s1 2) < ((lL s1 0).length : Int))) (
 chk (0 ≤ (lI s1 2)) <|
 idx true [.int .i64, .str, .sl 2 true, .str] (lL s1 0) ((lI s1 2).toNat) fun (e2 : Int × List UInt8 × List V × List UInt8 × Unit) =>
 chk (0 ≤ (lI s1 2)) <|
 idx true [.int .i64, .str, .sl 2 true, .str] (lL s1 1) ((lI s1 2).toNat) fun (e3 : Int × List UInt8 × List V × List UInt8 × Unit) =>
 F146 _ e2.1 e2.2.1 e2.2.2.1 e2.2.2.2.1 e3.1 e3.2.1 e3.2.2.1 e3.2.2.2.1 fun b4 =>
 br (!b4) (
 some (.inr (0, [.b false]))) (
 some (.inl [.l (lL s1 0), .l (lL s1 1), .i (IntKind.wrap .i64 ((lI s1 2) + 1))]))) (
 some (.inr (1, [])))) [.l a, .l b, .i 0] fun (r5 : Nat × List Leaf) =>
 if r5.1 = 0 then
 k (lB r5.2 0)
 else
 k true)
def F110 : T110 := P110 F146
def X110 : Exits := fun i => lookN i [] [(4, [(.ret, xk 27 [(4, .bool false)] []), (.exit 0, xk 27 [] [])])]
abbrev s110 : List (Bool × List CK) := [(false, [.sl 4 false]), (false, [.sl 4 false])]
def G110 (F : T110) (β : Type) (e : (List V × Unit) × (List V × Unit) × Unit) (k : V → Option β) : Option β := F β e.1.1 e.2.1.1 (fun y1 => k (.bool y1))
abbrev W110 (F : T110) : WT := wrap s110 (G110 F)
theorem k110 (F146 : T146) (β : Type) (e : argsT s110) (k : V → Option β) : fnK cfg (tabL [(146, W146 F146)]) X110 110 Try.f110 β (argsEnc s110 e) k = G110 (P110 F146 ) β e k := by kernel_rfl
theorem ok110 : FnOk D 110 (W110 F110) := fn_okW [(146, W146 F146)] X110 (fun _ => rfl) Try.func110 rfl (tabL_cons ok146 tabL_nil) (k110 F146 )
abbrev T164 : Type 1 := (β : Type) → List UInt8 → List UInt8 → Int → List V → List UInt8 → List UInt8 → Int → List V → (Bool → Option β) → Option β
def P164 (F163 : T163) : T164 := fun β a_Name a_Text a_Parent a_Attrs b_Name b_Text b_Parent b_Attrs k =>
 br (!(a_Name == b_Name)) (
 k false) (
 br (!(a_Text == b_Text)) (
 k false) (
 br (a_Parent != b_Parent) (
 k false) (
 F163 _ a_Attrs b_Attrs fun b1 =>
 br (!b1) (
 k false) (
 k true))))
def F164 : T164 := P164 F163
abbrev s164 : List (Bool × List CK) := [(true, [.str, .str, .int .i64, .sl 2 true]), (true, [.str, .str, .int .i64, .sl 2 true])]
def G164 (F : T164) (β : Type) (e : (List UInt8 × List UInt8 × Int × List V × Unit) × (List UInt8 × List UInt8 × Int × List V × Unit) × Unit) (k : V → Option β) : Option β := F β e.1.1 e.1.2.1 e.1.2.2.1 e.1.2.2.2.1 e.2.1.1 e.2.1.2.1 e.2.1.2.2.1 e.2.1.2.2.2.1 (fun y1 => k (.bool y1))
abbrev W164 (F : T164) : WT := wrap s164 (G164 F)
theorem k164 (F163 : T163) (β : Type) (e : argsT s164) (k : V → Option β) : fnK cfg (tabL [(163, W163 F163)]) noX 164 Try.f164 β (argsEnc s164 e) k = G164 (P164 F163 ) β e k := by kernel_rfl
theorem ok164 : FnOk D 164 (W164 F164) := fn_okW [(163, W163 F163)] noX (fun _ => rfl) Try.func164 rfl (tabL_cons ok163 tabL_nil) (k164 F163 )
abbrev T147 : Type 1 := (β : Type) → List V → List V → (Bool → Option β) → Option β
def P147 (F164 : T164) : T147 := fun β a b k =>
 br ((a.length : Int) != (b.length : Int)) (
 k false) (
 whileK (fun s1 =>
 br (decide ((lI s1 2) < ((lL s1 0).length : Int))) (
 chk (0 ≤ (lI s1 2)) <|
 idx true [.str, .str, .int .i64, .sl 2 true] (lL s1 0) ((lI s1 2).toNat) fun (e2 : List UInt8 × List UInt8 × Int × List V × Unit) =>
 chk (0 ≤ (lI s1 2)) <|
 idx true [.str, .str, .int .i64, .sl 2 true] (lL s1 1) ((lI s1 2).toNat) fun (e3 : List UInt8 × List UInt8 × Int × List V × Unit) =>
 F164 _ e2.1 e2.2.1 e2.2.2.1 e2.2.2.2.1 e3.1 e3.2.1 e3.2.2.1 e3.2.2.2.1 fun b4 =>
 br (!b4) (
 some (.inr (0, [.b false]))) (
 some (.inl [.l (lL s1 0), .l (lL s1 1), .i (IntKind.wrap .i64 ((lI s1 2) + 1))]))) (
 some (.inr (1, [])))) [.l a, .l b, .i 0] fun (r5 : Nat × List Leaf) =>
 if r5.1 = 0 then
 k (lB r5.2 0)
 else
 k true)
def F147 : T147 := P147 F164
def X147 : Exits := fun i => lookN i [] [(4, [(.ret, xk 27 [(4, .bool false)] []), (.exit 0, xk 27 [] [])])]
abbrev s147 : List (Bool × List CK) := [(false, [.sl 4 false]), (false, [.sl 4 false])]
def G147 (F : T147) (β : Type) (e : (List V × Unit) × (List V × Unit) × Unit) (k : V → Option β) : Option β := F β e.1.1 e.2.1.1 (fun y1 => k (.bool y1))
abbrev W147 (F : T147) : WT := wrap s147 (G147 F)
theorem k147 (F164 : T164) (β : Type) (e : argsT s147) (k : V → Option β) : fnK cfg (tabL [(164, W164 F164)]) X147 147 Try.f147 β (argsEnc s147 e) k = G147 (P147 F164 ) β e k := by kernel_rfl
theorem ok147 : FnOk D 147 (W147 F147) := fn_okW [(164, W164 F164)] X147 (fun _ => rfl) Try.func147 rfl (tabL_cons ok164 tabL_nil) (k147 F164 )
abbrev T148 : Type 1 := (β : Type) → List V → List V → (Bool → Option β) → Option β
def P148 : T148 := fun β a b k =>
 br ((a.length : Int) != (b.length : Int)) (
 k false) (
 whileK (fun s1 =>
 br (decide ((lI s1 2) < ((lL s1 0).length : Int))) (
 chk (0 ≤ (lI s1 2)) <|
 idx false [.int .i64] (lL s1 0) ((lI s1 2).toNat) fun (e2 : Int × Unit) =>
 chk (0 ≤ (lI s1 2)) <|
 idx false [.int .i64] (lL s1 1) ((lI s1 2).toNat) fun (e3 : Int × Unit) =>
 br (e2.1 != e3.1) (
 some (.inr (0, [.b false]))) (
 some (.inl [.l (lL s1 0), .l (lL s1 1), .i (IntKind.wrap .i64 ((lI s1 2) + 1))]))) (
 some (.inr (1, [])))) [.l a, .l b, .i 0] fun (r4 : Nat × List Leaf) =>
 if r4.1 = 0 then
 k (lB r4.2 0)
 else
 k true)
def F148 : T148 := P148
def X148 : Exits := fun i => lookN i [] [(4, [(.ret, xk 26 [(4, .bool false)] []), (.exit 0, xk 26 [] [])])]
abbrev s148 : List (Bool × List CK) := [(false, [.sl 1 true]), (false, [.sl 1 true])]
def G148 (F : T148) (β : Type) (e : (List V × Unit) × (List V × Unit) × Unit) (k : V → Option β) : Option β := F β e.1.1 e.2.1.1 (fun y1 => k (.bool y1))
abbrev W148 (F : T148) : WT := wrap s148 (G148 F)
theorem k148 (β : Type) (e : argsT s148) (k : V → Option β) : fnK cfg (tabL []) X148 148 Try.f148 β (argsEnc s148 e) k = G148 (P148 ) β e k := by kernel_rfl
theorem ok148 : FnOk D 148 (W148 F148) := fn_okW [] X148 (fun _ => rfl) Try.func148 rfl (tabL_nil) (k148 )
abbrev T111 : Type 1 := (β : Type) → List V → List V → List V → List V → (Bool → Option β) → Option β
def P111 (F147 : T147) (F148 : T148) : T111 := fun β a_Nodes a_Open b_Nodes b_Open k =>
 F147 _ a_Nodes b_Nodes fun b1 =>
 br (!b1) (
 k false) (
 F148 _ a_Open b_Open fun b2 =>
 br (!b2) (
 k false) (
 k true))
def F111 : T111 := P111 F147 F148
abbrev s111 : List (Bool × List CK) := [(true, [.sl 4 false, .sl 1 true]), (true, [.sl 4 false, .sl 1 true])]
def G111 (F : T111) (β : Type) (e : (List V × List V × Unit) × (List V × List V × Unit) × Unit) (k : V → Option β) : Option β := F β e.1.1 e.1.2.1 e.2.1.1 e.2.1.2.1 (fun y1 => k (.bool y1))
abbrev W111 (F : T111) : WT := wrap s111 (G111 F)
theorem k111 (F147 : T147) (F148 : T148) (β : Type) (e : argsT s111) (k : V → Option β) : fnK cfg (tabL [(147, W147 F147), (148, W148 F148)]) noX 111 Try.f111 β (argsEnc s111 e) k = G111 (P111 F147 F148 ) β e k := by kernel_rfl
theorem ok111 : FnOk D 111 (W111 F111) := fn_okW [(147, W147 F147), (148, W148 F148)] noX (fun _ => rfl) Try.func111 rfl (tabL_cons ok147 (tabL_cons ok148 tabL_nil)) (k111 F147 F148 )
abbrev T149 : Type 1 := (β : Type) → Int → List UInt8 → List UInt8 → List UInt8 → Int → Bool → Int → List UInt8 → Int → List UInt8 → List UInt8 → List UInt8 → Int → Bool → Int → List UInt8 → (Bool → Option β) → Option β
def P149 (F101 : T101) : T149 := fun β a_Mode a_To_Host a_To_Path a_Digest a_Node a_Done a_Code a_Body b_Mode b_To_Host b_To_Path b_Digest b_Node b_Done b_Code b_Body k =>
 br (a_Mode != b_Mode) (
 k false) (
 F101 _ a_To_Host a_To_Path b_To_Host b_To_Path fun b1 =>
 br (!b1) (
 k false) (
 br (!(a_Digest == b_Digest)) (
 k false) (
 br (a_Node != b_Node) (
 k false) (
 br (!(a_Done == b_Done)) (
 k false) (
 br (a_Code != b_Code) (
 k false) (
 br (!(a_Body == b_Body)) (
 k false) (
 k true)))))))
def F149 : T149 := P149 F101
abbrev s149 : List (Bool × List CK) := [(true, [.int .i64, .str, .str, .str, .int .i64, .bool, .int .i64, .str]), (true, [.int .i64, .str, .str, .str, .int .i64, .bool, .int .i64, .str])]
def G149 (F : T149) (β : Type) (e : (Int × List UInt8 × List UInt8 × List UInt8 × Int × Bool × Int × List UInt8 × Unit) × (Int × List UInt8 × List UInt8 × List UInt8 × Int × Bool × Int × List UInt8 × Unit) × Unit) (k : V → Option β) : Option β := let a0_0 := e.1; let a0_1 := a0_0.2; let a0_2 := a0_1.2; let a0_3 := a0_2.2; let a0_4 := a0_3.2; let a0_5 := a0_4.2; let a0_6 := a0_5.2; let a0_7 := a0_6.2; let a1_0 := e.2.1; let a1_1 := a1_0.2; let a1_2 := a1_1.2; let a1_3 := a1_2.2; let a1_4 := a1_3.2; let a1_5 := a1_4.2; let a1_6 := a1_5.2; let a1_7 := a1_6.2; F β a0_0.1 a0_1.1 a0_2.1 a0_3.1 a0_4.1 a0_5.1 a0_6.1 a0_7.1 a1_0.1 a1_1.1 a1_2.1 a1_3.1 a1_4.1 a1_5.1 a1_6.1 a1_7.1 (fun y1 => k (.bool y1))
abbrev W149 (F : T149) : WT := wrap s149 (G149 F)
theorem k149 (F101 : T101) (β : Type) (e : argsT s149) (k : V → Option β) : fnK cfg (tabL [(101, W101 F101)]) noX 149 Try.f149 β (argsEnc s149 e) k = G149 (P149 F101 ) β e k := by kernel_rfl
theorem ok149 : FnOk D 149 (W149 F149) := fn_okW [(101, W101 F101)] noX (fun _ => rfl) Try.func149 rfl (tabL_cons ok101 tabL_nil) (k149 F101 )
abbrev T112 : Type 1 := (β : Type) → List V → List V → (Bool → Option β) → Option β
def P112 (F149 : T149) : T112 := fun β a b k =>
 br ((a.length : Int) != (b.length : Int)) (
 k false) (
 whileK (fun s1 =>
 br (decide ((lI s1 2) < ((lL s1 0).length : Int))) (
 chk (0 ≤ (lI s1 2)) <|
 idx true [.int .i64, .str, .str, .str, .int .i64, .bool, .int .i64, .str] (lL s1 0) ((lI s1 2).toNat) fun (e2 : Int × List UInt8 × List UInt8 × List UInt8 × Int × Bool × Int × List UInt8 × Unit) =>
 chk (0 ≤ (lI s1 2)) <|
 idx true [.int .i64, .str, .str, .str, .int .i64, .bool, .int .i64, .str] (lL s1 1) ((lI s1 2).toNat) fun (e3 : Int × List UInt8 × List UInt8 × List UInt8 × Int × Bool × Int × List UInt8 × Unit) =>
 F149 _ e2.1 e2.2.1 e2.2.2.1 e2.2.2.2.1 e2.2.2.2.2.1 e2.2.2.2.2.2.1 e2.2.2.2.2.2.2.1 e2.2.2.2.2.2.2.2.1 e3.1 e3.2.1 e3.2.2.1 e3.2.2.2.1 e3.2.2.2.2.1 e3.2.2.2.2.2.1 e3.2.2.2.2.2.2.1 e3.2.2.2.2.2.2.2.1 fun b4 =>
 br (!b4) (
 some (.inr (0, [.b false]))) (
 some (.inl [.l (lL s1 0), .l (lL s1 1), .i (IntKind.wrap .i64 ((lI s1 2) + 1))]))) (
 some (.inr (1, [])))) [.l a, .l b, .i 0] fun (r5 : Nat × List Leaf) =>
 if r5.1 = 0 then
 k (lB r5.2 0)
 else
 k true)
def F112 : T112 := P112 F149
def X112 : Exits := fun i => lookN i [] [(4, [(.ret, xk 27 [(4, .bool false)] []), (.exit 0, xk 27 [] [])])]
abbrev s112 : List (Bool × List CK) := [(false, [.sl 8 true]), (false, [.sl 8 true])]
def G112 (F : T112) (β : Type) (e : (List V × Unit) × (List V × Unit) × Unit) (k : V → Option β) : Option β := F β e.1.1 e.2.1.1 (fun y1 => k (.bool y1))
abbrev W112 (F : T112) : WT := wrap s112 (G112 F)
theorem k112 (F149 : T149) (β : Type) (e : argsT s112) (k : V → Option β) : fnK cfg (tabL [(149, W149 F149)]) X112 112 Try.f112 β (argsEnc s112 e) k = G112 (P112 F149 ) β e k := by kernel_rfl
theorem ok112 : FnOk D 112 (W112 F112) := fn_okW [(149, W149 F149)] X112 (fun _ => rfl) Try.func112 rfl (tabL_cons ok149 tabL_nil) (k112 F149 )
abbrev T150 : Type 1 := (β : Type) → List UInt8 → List UInt8 → Bool → Int → List UInt8 → List UInt8 → List UInt8 → Bool → Int → List UInt8 → (Bool → Option β) → Option β
def P150 (F101 : T101) : T150 := fun β a_To_Host a_To_Path a_Done a_Code a_Body b_To_Host b_To_Path b_Done b_Code b_Body k =>
 F101 _ a_To_Host a_To_Path b_To_Host b_To_Path fun b1 =>
 br (!b1) (
 k false) (
 br (!(a_Done == b_Done)) (
 k false) (
 br (a_Code != b_Code) (
 k false) (
 br (!(a_Body == b_Body)) (
 k false) (
 k true))))
def F150 : T150 := P150 F101
abbrev s150 : List (Bool × List CK) := [(true, [.str, .str, .bool, .int .i64, .str]), (true, [.str, .str, .bool, .int .i64, .str])]
def G150 (F : T150) (β : Type) (e : (List UInt8 × List UInt8 × Bool × Int × List UInt8 × Unit) × (List UInt8 × List UInt8 × Bool × Int × List UInt8 × Unit) × Unit) (k : V → Option β) : Option β := let a0_0 := e.1; let a0_1 := a0_0.2; let a0_2 := a0_1.2; let a0_3 := a0_2.2; let a0_4 := a0_3.2; let a1_0 := e.2.1; let a1_1 := a1_0.2; let a1_2 := a1_1.2; let a1_3 := a1_2.2; let a1_4 := a1_3.2; F β a0_0.1 a0_1.1 a0_2.1 a0_3.1 a0_4.1 a1_0.1 a1_1.1 a1_2.1 a1_3.1 a1_4.1 (fun y1 => k (.bool y1))
abbrev W150 (F : T150) : WT := wrap s150 (G150 F)
theorem k150 (F101 : T101) (β : Type) (e : argsT s150) (k : V → Option β) : fnK cfg (tabL [(101, W101 F101)]) noX 150 Try.f150 β (argsEnc s150 e) k = G150 (P150 F101 ) β e k := by kernel_rfl
theorem ok150 : FnOk D 150 (W150 F150) := fn_okW [(101, W101 F101)] noX (fun _ => rfl) Try.func150 rfl (tabL_cons ok101 tabL_nil) (k150 F101 )
abbrev T113 : Type 1 := (β : Type) → List V → List V → (Bool → Option β) → Option β
def P113 (F150 : T150) : T113 := fun β a b k =>
 br ((a.length : Int) != (b.length : Int)) (
 k false) (
 whileK (fun s1 =>
 br (decide ((lI s1 2) < ((lL s1 0).length : Int))) (
 chk (0 ≤ (lI s1 2)) <|
 idx true [.str, .str, .bool, .int .i64, .str] (lL s1 0) ((lI s1 2).toNat) fun (e2 : List UInt8 × List UInt8 × Bool × Int × List UInt8 × Unit) =>
 chk (0 ≤ (lI s1 2)) <|
 idx true [.str, .str, .bool, .int .i64, .str] (lL s1 1) ((lI s1 2).toNat) fun (e3 : List UInt8 × List UInt8 × Bool × Int × List UInt8 × Unit) =>
 F150 _ e2.1 e2.2.1 e2.2.2.1 e2.2.2.2.1 e2.2.2.2.2.1 e3.1 e3.2.1 e3.2.2.1 e3.2.2.2.1 e3.2.2.2.2.1 fun b4 =>
 br (!b4) (
 some (.inr (0, [.b false]))) (
 some (.inl [.l (lL s1 0), .l (lL s1 1), .i (IntKind.wrap .i64 ((lI s1 2) + 1))]))) (
 some (.inr (1, [])))) [.l a, .l b, .i 0] fun (r5 : Nat × List Leaf) =>
 if r5.1 = 0 then
 k (lB r5.2 0)
 else
 k true)
def F113 : T113 := P113 F150
def X113 : Exits := fun i => lookN i [] [(4, [(.ret, xk 27 [(4, .bool false)] []), (.exit 0, xk 27 [] [])])]
abbrev s113 : List (Bool × List CK) := [(false, [.sl 5 true]), (false, [.sl 5 true])]
def G113 (F : T113) (β : Type) (e : (List V × Unit) × (List V × Unit) × Unit) (k : V → Option β) : Option β := F β e.1.1 e.2.1.1 (fun y1 => k (.bool y1))
abbrev W113 (F : T113) : WT := wrap s113 (G113 F)
theorem k113 (F150 : T150) (β : Type) (e : argsT s113) (k : V → Option β) : fnK cfg (tabL [(150, W150 F150)]) X113 113 Try.f113 β (argsEnc s113 e) k = G113 (P113 F150 ) β e k := by kernel_rfl
theorem ok113 : FnOk D 113 (W113 F113) := fn_okW [(150, W150 F150)] X113 (fun _ => rfl) Try.func113 rfl (tabL_cons ok150 tabL_nil) (k113 F150 )
abbrev T114 : Type 1 := (β : Type) → List V → List V → (Bool → Option β) → Option β
def P114 (F101 : T101) : T114 := fun β a b k =>
 br ((a.length : Int) != (b.length : Int)) (
 k false) (
 whileK (fun s1 =>
 br (decide ((lI s1 2) < ((lL s1 0).length : Int))) (
 chk (0 ≤ (lI s1 2)) <|
 idx true [.str, .str] (lL s1 0) ((lI s1 2).toNat) fun (e2 : List UInt8 × List UInt8 × Unit) =>
 chk (0 ≤ (lI s1 2)) <|
 idx true [.str, .str] (lL s1 1) ((lI s1 2).toNat) fun (e3 : List UInt8 × List UInt8 × Unit) =>
 F101 _ e2.1 e2.2.1 e3.1 e3.2.1 fun b4 =>
 br (!b4) (
 some (.inr (0, [.b false]))) (
 some (.inl [.l (lL s1 0), .l (lL s1 1), .i (IntKind.wrap .i64 ((lI s1 2) + 1))]))) (
 some (.inr (1, [])))) [.l a, .l b, .i 0] fun (r5 : Nat × List Leaf) =>
 if r5.1 = 0 then
 k (lB r5.2 0)
 else
 k true)
def F114 : T114 := P114 F101
def X114 : Exits := fun i => lookN i [] [(4, [(.ret, xk 27 [(4, .bool false)] []), (.exit 0, xk 27 [] [])])]
abbrev s114 : List (Bool × List CK) := [(false, [.sl 2 true]), (false, [.sl 2 true])]
def G114 (F : T114) (β : Type) (e : (List V × Unit) × (List V × Unit) × Unit) (k : V → Option β) : Option β := F β e.1.1 e.2.1.1 (fun y1 => k (.bool y1))
abbrev W114 (F : T114) : WT := wrap s114 (G114 F)
theorem k114 (F101 : T101) (β : Type) (e : argsT s114) (k : V → Option β) : fnK cfg (tabL [(101, W101 F101)]) X114 114 Try.f114 β (argsEnc s114 e) k = G114 (P114 F101 ) β e k := by kernel_rfl
theorem ok114 : FnOk D 114 (W114 F114) := fn_okW [(101, W101 F101)] X114 (fun _ => rfl) Try.func114 rfl (tabL_cons ok101 tabL_nil) (k114 F101 )
abbrev T78 : Type 1 := (β : Type) → List UInt8 → List UInt8 → Bool → List V → List V → List V → List UInt8 → List UInt8 → List V → Bool → List V → List V → List V → List V → List V → Int → Int → Int → Int → List V → List V → Bool → List UInt8 → List UInt8 → Bool → List V → List V → List V → List UInt8 → List UInt8 → List V → Bool → List V → List V → List V → List V → List V → Int → Int → Int → Int → List V → List V → Bool → (Bool → Option β) → Option β
def P78 (F101 : T101) (F108 : T108) (F109 : T109) (F110 : T110) (F111 : T111) (F112 : T112) (F113 : T113) (F114 : T114) (F115 : T115) : T78 := fun β a_Addr_Host a_Addr_Path a_Policy_Set a_Policy_Scripts a_Policy_Styles a_Policy_Images a_Policy_Nonce a_Tok_Rest a_Queue a_Ended a_Builder_Nodes a_Builder_Open a_Slots a_Mods a_Entries a_Block a_Inline a_Deferred a_Entered a_Ran a_Log a_Loaded b_Addr_Host b_Addr_Path b_Policy_Set b_Policy_Scripts b_Policy_Styles b_Policy_Images b_Policy_Nonce b_Tok_Rest b_Queue b_Ended b_Builder_Nodes b_Builder_Open b_Slots b_Mods b_Entries b_Block b_Inline b_Deferred b_Entered b_Ran b_Log b_Loaded k =>
 F101 _ a_Addr_Host a_Addr_Path b_Addr_Host b_Addr_Path fun b1 =>
 br (!b1) (
 k false) (
 F108 _ a_Policy_Set a_Policy_Scripts a_Policy_Styles a_Policy_Images a_Policy_Nonce b_Policy_Set b_Policy_Scripts b_Policy_Styles b_Policy_Images b_Policy_Nonce fun b2 =>
 br (!b2) (
 k false) (
 F109 _ a_Tok_Rest b_Tok_Rest fun b3 =>
 br (!b3) (
 k false) (
 F110 _ a_Queue b_Queue fun b4 =>
 br (!b4) (
 k false) (
 br (!(a_Ended == b_Ended)) (
 k false) (
 F111 _ a_Builder_Nodes a_Builder_Open b_Builder_Nodes b_Builder_Open fun b5 =>
 br (!b5) (
 k false) (
 F112 _ a_Slots b_Slots fun b6 =>
 br (!b6) (
 k false) (
 F113 _ a_Mods b_Mods fun b7 =>
 br (!b7) (
 k false) (
 F114 _ a_Entries b_Entries fun b8 =>
 br (!b8) (
 k false) (
 br (a_Block != b_Block) (
 k false) (
 br (a_Inline != b_Inline) (
 k false) (
 br (a_Deferred != b_Deferred) (
 k false) (
 br (a_Entered != b_Entered) (
 k false) (
 F114 _ a_Ran b_Ran fun b9 =>
 br (!b9) (
 k false) (
 F115 _ a_Log b_Log fun b10 =>
 br (!b10) (
 k false) (
 br (!(a_Loaded == b_Loaded)) (
 k false) (
 k true))))))))))))))))
def F78 : T78 := P78 F101 F108 F109 F110 F111 F112 F113 F114 F115
abbrev s78 : List (Bool × List CK) := [(true, [.str, .str, .bool, .sl 1 true, .sl 1 true, .sl 1 true, .str, .str, .sl 4 false, .bool, .sl 4 false, .sl 1 true, .sl 8 true, .sl 5 true, .sl 2 true, .int .i64, .int .i64, .int .i64, .int .i64, .sl 2 true, .sl 1 true, .bool]), (true, [.str, .str, .bool, .sl 1 true, .sl 1 true, .sl 1 true, .str, .str, .sl 4 false, .bool, .sl 4 false, .sl 1 true, .sl 8 true, .sl 5 true, .sl 2 true, .int .i64, .int .i64, .int .i64, .int .i64, .sl 2 true, .sl 1 true, .bool])]
def G78 (F : T78) (β : Type) (e : (List UInt8 × List UInt8 × Bool × List V × List V × List V × List UInt8 × List UInt8 × List V × Bool × List V × List V × List V × List V × List V × Int × Int × Int × Int × List V × List V × Bool × Unit) × (List UInt8 × List UInt8 × Bool × List V × List V × List V × List UInt8 × List UInt8 × List V × Bool × List V × List V × List V × List V × List V × Int × Int × Int × Int × List V × List V × Bool × Unit) × Unit) (k : V → Option β) : Option β := let a0_0 := e.1; let a0_1 := a0_0.2; let a0_2 := a0_1.2; let a0_3 := a0_2.2; let a0_4 := a0_3.2; let a0_5 := a0_4.2; let a0_6 := a0_5.2; let a0_7 := a0_6.2; let a0_8 := a0_7.2; let a0_9 := a0_8.2; let a0_10 := a0_9.2; let a0_11 := a0_10.2; let a0_12 := a0_11.2; let a0_13 := a0_12.2; let a0_14 := a0_13.2; let a0_15 := a0_14.2; let a0_16 := a0_15.2; let a0_17 := a0_16.2; let a0_18 := a0_17.2; let a0_19 := a0_18.2; let a0_20 := a0_19.2; let a0_21 := a0_20.2; let a1_0 := e.2.1; let a1_1 := a1_0.2; let a1_2 := a1_1.2; let a1_3 := a1_2.2; let a1_4 := a1_3.2; let a1_5 := a1_4.2; let a1_6 := a1_5.2; let a1_7 := a1_6.2; let a1_8 := a1_7.2; let a1_9 := a1_8.2; let a1_10 := a1_9.2; let a1_11 := a1_10.2; let a1_12 := a1_11.2; let a1_13 := a1_12.2; let a1_14 := a1_13.2; let a1_15 := a1_14.2; let a1_16 := a1_15.2; let a1_17 := a1_16.2; let a1_18 := a1_17.2; let a1_19 := a1_18.2; let a1_20 := a1_19.2; let a1_21 := a1_20.2; F β a0_0.1 a0_1.1 a0_2.1 a0_3.1 a0_4.1 a0_5.1 a0_6.1 a0_7.1 a0_8.1 a0_9.1 a0_10.1 a0_11.1 a0_12.1 a0_13.1 a0_14.1 a0_15.1 a0_16.1 a0_17.1 a0_18.1 a0_19.1 a0_20.1 a0_21.1 a1_0.1 a1_1.1 a1_2.1 a1_3.1 a1_4.1 a1_5.1 a1_6.1 a1_7.1 a1_8.1 a1_9.1 a1_10.1 a1_11.1 a1_12.1 a1_13.1 a1_14.1 a1_15.1 a1_16.1 a1_17.1 a1_18.1 a1_19.1 a1_20.1 a1_21.1 (fun y1 => k (.bool y1))
abbrev W78 (F : T78) : WT := wrap s78 (G78 F)
theorem k78 (F101 : T101) (F108 : T108) (F109 : T109) (F110 : T110) (F111 : T111) (F112 : T112) (F113 : T113) (F114 : T114) (F115 : T115) (β : Type) (e : argsT s78) (k : V → Option β) : fnK cfg (tabL [(101, W101 F101), (108, W108 F108), (109, W109 F109), (110, W110 F110), (111, W111 F111), (112, W112 F112), (113, W113 F113), (114, W114 F114), (115, W115 F115)]) noX 78 Try.f78 β (argsEnc s78 e) k = G78 (P78 F101 F108 F109 F110 F111 F112 F113 F114 F115 ) β e k := by kernel_rfl
theorem ok78 : FnOk D 78 (W78 F78) := fn_okW [(101, W101 F101), (108, W108 F108), (109, W109 F109), (110, W110 F110), (111, W111 F111), (112, W112 F112), (113, W113 F113), (114, W114 F114), (115, W115 F115)] noX (fun _ => rfl) Try.func78 rfl (tabL_cons ok101 (tabL_cons ok108 (tabL_cons ok109 (tabL_cons ok110 (tabL_cons ok111 (tabL_cons ok112 (tabL_cons ok113 (tabL_cons ok114 (tabL_cons ok115 tabL_nil))))))))) (k78 F101 F108 F109 F110 F111 F112 F113 F114 F115 )
abbrev T59 : Type 1 := (β : Type) → List UInt8 → List UInt8 → List UInt8 → List UInt8 → Bool → List V → List V → List V → List UInt8 → List UInt8 → List V → Bool → List V → List V → List V → List V → List V → Int → Int → Int → Int → List V → List V → Bool → Bool → List UInt8 → List UInt8 → List UInt8 → List UInt8 → Bool → List V → List V → List V → List UInt8 → List UInt8 → List V → Bool → List V → List V → List V → List V → List V → Int → Int → Int → Int → List V → List V → Bool → Bool → (Bool → Option β) → Option β
def P59 (F101 : T101) (F78 : T78) : T59 := fun β a_Addr_Host a_Addr_Path a_Page_Addr_Host a_Page_Addr_Path a_Page_Policy_Set a_Page_Policy_Scripts a_Page_Policy_Styles a_Page_Policy_Images a_Page_Policy_Nonce a_Page_Tok_Rest a_Page_Queue a_Page_Ended a_Page_Builder_Nodes a_Page_Builder_Open a_Page_Slots a_Page_Mods a_Page_Entries a_Page_Block a_Page_Inline a_Page_Deferred a_Page_Entered a_Page_Ran a_Page_Log a_Page_Loaded a_Kept b_Addr_Host b_Addr_Path b_Page_Addr_Host b_Page_Addr_Path b_Page_Policy_Set b_Page_Policy_Scripts b_Page_Policy_Styles b_Page_Policy_Images b_Page_Policy_Nonce b_Page_Tok_Rest b_Page_Queue b_Page_Ended b_Page_Builder_Nodes b_Page_Builder_Open b_Page_Slots b_Page_Mods b_Page_Entries b_Page_Block b_Page_Inline b_Page_Deferred b_Page_Entered b_Page_Ran b_Page_Log b_Page_Loaded b_Kept k =>
 F101 _ a_Addr_Host a_Addr_Path b_Addr_Host b_Addr_Path fun b1 =>
 br (!b1) (
 k false) (
 F78 _ a_Page_Addr_Host a_Page_Addr_Path a_Page_Policy_Set a_Page_Policy_Scripts a_Page_Policy_Styles a_Page_Policy_Images a_Page_Policy_Nonce a_Page_Tok_Rest a_Page_Queue a_Page_Ended a_Page_Builder_Nodes a_Page_Builder_Open a_Page_Slots a_Page_Mods a_Page_Entries a_Page_Block a_Page_Inline a_Page_Deferred a_Page_Entered a_Page_Ran a_Page_Log a_Page_Loaded b_Page_Addr_Host b_Page_Addr_Path b_Page_Policy_Set b_Page_Policy_Scripts b_Page_Policy_Styles b_Page_Policy_Images b_Page_Policy_Nonce b_Page_Tok_Rest b_Page_Queue b_Page_Ended b_Page_Builder_Nodes b_Page_Builder_Open b_Page_Slots b_Page_Mods b_Page_Entries b_Page_Block b_Page_Inline b_Page_Deferred b_Page_Entered b_Page_Ran b_Page_Log b_Page_Loaded fun b2 =>
 br (!b2) (
 k false) (
 br (!(a_Kept == b_Kept)) (
 k false) (
 k true)))
def F59 : T59 := P59 F101 F78
abbrev s59 : List (Bool × List CK) := [(true, [.str, .str, .str, .str, .bool, .sl 1 true, .sl 1 true, .sl 1 true, .str, .str, .sl 4 false, .bool, .sl 4 false, .sl 1 true, .sl 8 true, .sl 5 true, .sl 2 true, .int .i64, .int .i64, .int .i64, .int .i64, .sl 2 true, .sl 1 true, .bool, .bool]), (true, [.str, .str, .str, .str, .bool, .sl 1 true, .sl 1 true, .sl 1 true, .str, .str, .sl 4 false, .bool, .sl 4 false, .sl 1 true, .sl 8 true, .sl 5 true, .sl 2 true, .int .i64, .int .i64, .int .i64, .int .i64, .sl 2 true, .sl 1 true, .bool, .bool])]
def G59 (F : T59) (β : Type) (e : (List UInt8 × List UInt8 × List UInt8 × List UInt8 × Bool × List V × List V × List V × List UInt8 × List UInt8 × List V × Bool × List V × List V × List V × List V × List V × Int × Int × Int × Int × List V × List V × Bool × Bool × Unit) × (List UInt8 × List UInt8 × List UInt8 × List UInt8 × Bool × List V × List V × List V × List UInt8 × List UInt8 × List V × Bool × List V × List V × List V × List V × List V × Int × Int × Int × Int × List V × List V × Bool × Bool × Unit) × Unit) (k : V → Option β) : Option β := let a0_0 := e.1; let a0_1 := a0_0.2; let a0_2 := a0_1.2; let a0_3 := a0_2.2; let a0_4 := a0_3.2; let a0_5 := a0_4.2; let a0_6 := a0_5.2; let a0_7 := a0_6.2; let a0_8 := a0_7.2; let a0_9 := a0_8.2; let a0_10 := a0_9.2; let a0_11 := a0_10.2; let a0_12 := a0_11.2; let a0_13 := a0_12.2; let a0_14 := a0_13.2; let a0_15 := a0_14.2; let a0_16 := a0_15.2; let a0_17 := a0_16.2; let a0_18 := a0_17.2; let a0_19 := a0_18.2; let a0_20 := a0_19.2; let a0_21 := a0_20.2; let a0_22 := a0_21.2; let a0_23 := a0_22.2; let a0_24 := a0_23.2; let a1_0 := e.2.1; let a1_1 := a1_0.2; let a1_2 := a1_1.2; let a1_3 := a1_2.2; let a1_4 := a1_3.2; let a1_5 := a1_4.2; let a1_6 := a1_5.2; let a1_7 := a1_6.2; let a1_8 := a1_7.2; let a1_9 := a1_8.2; let a1_10 := a1_9.2; let a1_11 := a1_10.2; let a1_12 := a1_11.2; let a1_13 := a1_12.2; let a1_14 := a1_13.2; let a1_15 := a1_14.2; let a1_16 := a1_15.2; let a1_17 := a1_16.2; let a1_18 := a1_17.2; let a1_19 := a1_18.2; let a1_20 := a1_19.2; let a1_21 := a1_20.2; let a1_22 := a1_21.2; let a1_23 := a1_22.2; let a1_24 := a1_23.2; F β a0_0.1 a0_1.1 a0_2.1 a0_3.1 a0_4.1 a0_5.1 a0_6.1 a0_7.1 a0_8.1 a0_9.1 a0_10.1 a0_11.1 a0_12.1 a0_13.1 a0_14.1 a0_15.1 a0_16.1 a0_17.1 a0_18.1 a0_19.1 a0_20.1 a0_21.1 a0_22.1 a0_23.1 a0_24.1 a1_0.1 a1_1.1 a1_2.1 a1_3.1 a1_4.1 a1_5.1 a1_6.1 a1_7.1 a1_8.1 a1_9.1 a1_10.1 a1_11.1 a1_12.1 a1_13.1 a1_14.1 a1_15.1 a1_16.1 a1_17.1 a1_18.1 a1_19.1 a1_20.1 a1_21.1 a1_22.1 a1_23.1 a1_24.1 (fun y1 => k (.bool y1))
abbrev W59 (F : T59) : WT := wrap s59 (G59 F)
theorem k59 (F101 : T101) (F78 : T78) (β : Type) (e : argsT s59) (k : V → Option β) : fnK cfg (tabL [(101, W101 F101), (78, W78 F78)]) noX 59 Try.f59 β (argsEnc s59 e) k = G59 (P59 F101 F78 ) β e k := by kernel_rfl
theorem ok59 : FnOk D 59 (W59 F59) := fn_okW [(101, W101 F101), (78, W78 F78)] noX (fun _ => rfl) Try.func59 rfl (tabL_cons ok101 (tabL_cons ok78 tabL_nil)) (k59 F101 F78 )
abbrev T36 : Type 1 := (β : Type) → List V → List V → (Bool → Option β) → Option β
def P36 (F59 : T59) : T36 := fun β a b k =>
 br ((a.length : Int) != (b.length : Int)) (
 k false) (
 whileK (fun s1 =>
 br (decide ((lI s1 2) < ((lL s1 0).length : Int))) (
 chk (0 ≤ (lI s1 2)) <|
 idx true [.str, .str, .str, .str, .bool, .sl 1 true, .sl 1 true, .sl 1 true, .str, .str, .sl 4 false, .bool, .sl 4 false, .sl 1 true, .sl 8 true, .sl 5 true, .sl 2 true, .int .i64, .int .i64, .int .i64, .int .i64, .sl 2 true, .sl 1 true, .bool, .bool] (lL s1 0) ((lI s1 2).toNat) fun (e2 : List UInt8 × List UInt8 × List UInt8 × List UInt8 × Bool × List V × List V × List V × List UInt8 × List UInt8 × List V × Bool × List V × List V × List V × List V × List V × Int × Int × Int × Int × List V × List V × Bool × Bool × Unit) =>
 chk (0 ≤ (lI s1 2)) <|
 idx true [.str, .str, .str, .str, .bool, .sl 1 true, .sl 1 true, .sl 1 true, .str, .str, .sl 4 false, .bool, .sl 4 false, .sl 1 true, .sl 8 true, .sl 5 true, .sl 2 true, .int .i64, .int .i64, .int .i64, .int .i64, .sl 2 true, .sl 1 true, .bool, .bool] (lL s1 1) ((lI s1 2).toNat) fun (e3 : List UInt8 × List UInt8 × List UInt8 × List UInt8 × Bool × List V × List V × List V × List UInt8 × List UInt8 × List V × Bool × List V × List V × List V × List V × List V × Int × Int × Int × Int × List V × List V × Bool × Bool × Unit) =>
 F59 _ e2.1 e2.2.1 e2.2.2.1 e2.2.2.2.1 e2.2.2.2.2.1 e2.2.2.2.2.2.1 e2.2.2.2.2.2.2.1 e2.2.2.2.2.2.2.2.1 e2.2.2.2.2.2.2.2.2.1 e2.2.2.2.2.2.2.2.2.2.1 e2.2.2.2.2.2.2.2.2.2.2.1 e2.2.2.2.2.2.2.2.2.2.2.2.1 e2.2.2.2.2.2.2.2.2.2.2.2.2.1 e2.2.2.2.2.2.2.2.2.2.2.2.2.2.1 e2.2.2.2.2.2.2.2.2.2.2.2.2.2.2.1 e2.2.2.2.2.2.2.2.2.2.2.2.2.2.2.2.1 e2.2.2.2.2.2.2.2.2.2.2.2.2.2.2.2.2.1 e2.2.2.2.2.2.2.2.2.2.2.2.2.2.2.2.2.2.1 e2.2.2.2.2.2.2.2.2.2.2.2.2.2.2.2.2.2.2.1 e2.2.2.2.2.2.2.2.2.2.2.2.2.2.2.2.2.2.2.2.1 e2.2.2.2.2.2.2.2.2.2.2.2.2.2.2.2.2.2.2.2.2.1 e2.2.2.2.2.2.2.2.2.2.2.2.2.2.2.2.2.2.2.2.2.2.1 e2.2.2.2.2.2.2.2.2.2.2.2.2.2.2.2.2.2.2.2.2.2.2.1 e2.2.2.2.2.2.2.2.2.2.2.2.2.2.2.2.2.2.2.2.2.2.2.2.1 e2.2.2.2.2.2.2.2.2.2.2.2.2.2.2.2.2.2.2.2.2.2.2.2.2.1 e3.1 e3.2.1 e3.2.2.1 e3.2.2.2.1 e3.2.2.2.2.1 e3.2.2.2.2.2.1 e3.2.2.2.2.2.2.1 e3.2.2.2.2.2.2.2.1 e3.2.2.2.2.2.2.2.2.1 e3.2.2.2.2.2.2.2.2.2.1 e3.2.2.2.2.2.2.2.2.2.2.1 e3.2.2.2.2.2.2.2.2.2.2.2.1 e3.2.2.2.2.2.2.2.2.2.2.2.2.1 e3.2.2.2.2.2.2.2.2.2.2.2.2.2.1 e3.2.2.2.2.2.2.2.2.2.2.2.2.2.2.1 e3.2.2.2.2.2.2.2.2.2.2.2.2.2.2.2.1 e3.2.2.2.2.2.2.2.2.2.2.2.2.2.2.2.2.1 e3.2.2.2.2.2.2.2.2.2.2.2.2.2.2.2.2.2.1 e3.2.2.2.2.2.2.2.2.2.2.2.2.2.2.2.2.2.2.1 e3.2.2.2.2.2.2.2.2.2.2.2.2.2.2.2.2.2.2.2.1 e3.2.2.2.2.2.2.2.2.2.2.2.2.2.2.2.2.2.2.2.2.1 e3.2.2.2.2.2.2.2.2.2.2.2.2.2.2.2.2.2.2.2.2.2.1 e3.2.2.2.2.2.2.2.2.2.2.2.2.2.2.2.2.2.2.2.2.2.2.1 e3.2.2.2.2.2.2.2.2.2.2.2.2.2.2.2.2.2.2.2.2.2.2.2.1 e3.2.2.2.2.2.2.2.2.2.2.2.2.2.2.2.2.2.2.2.2.2.2.2.2.1 fun b4 =>
 br (!b4) (
 some (.inr (0, [.b false]))) (
 some (.inl [.l (lL s1 0), .l (lL s1 1), .i (IntKind.wrap .i64 ((lI s1 2) + 1))]))) (
 some (.inr (1, [])))) [.l a, .l b, .i 0] fun (r5 : Nat × List Leaf) =>
 if r5.1 = 0 then
 k (lB r5.2 0)
 else
 k true)
def F36 : T36 := P36 F59
def X36 : Exits := fun i => lookN i [] [(4, [(.ret, xk 27 [(4, .bool false)] []), (.exit 0, xk 27 [] [])])]
abbrev s36 : List (Bool × List CK) := [(false, [.sl 25 false]), (false, [.sl 25 false])]
def G36 (F : T36) (β : Type) (e : (List V × Unit) × (List V × Unit) × Unit) (k : V → Option β) : Option β := F β e.1.1 e.2.1.1 (fun y1 => k (.bool y1))
abbrev W36 (F : T36) : WT := wrap s36 (G36 F)
theorem k36 (F59 : T59) (β : Type) (e : argsT s36) (k : V → Option β) : fnK cfg (tabL [(59, W59 F59)]) X36 36 Try.f36 β (argsEnc s36 e) k = G36 (P36 F59 ) β e k := by kernel_rfl
theorem ok36 : FnOk D 36 (W36 F36) := fn_okW [(59, W59 F59)] X36 (fun _ => rfl) Try.func36 rfl (tabL_cons ok59 tabL_nil) (k36 F59 )
abbrev T15 : Type 1 := (β : Type) → List V → Int → List V → Int → (Bool → Option β) → Option β
def P15 (F36 : T36) : T15 := fun β a_Visits a_At b_Visits b_At k =>
 F36 _ a_Visits b_Visits fun b1 =>
 br (!b1) (
 k false) (
 br (a_At != b_At) (
 k false) (
 k true))
def F15 : T15 := P15 F36
abbrev s15 : List (Bool × List CK) := [(true, [.sl 25 false, .int .i64]), (true, [.sl 25 false, .int .i64])]
def G15 (F : T15) (β : Type) (e : (List V × Int × Unit) × (List V × Int × Unit) × Unit) (k : V → Option β) : Option β := F β e.1.1 e.1.2.1 e.2.1.1 e.2.1.2.1 (fun y1 => k (.bool y1))
abbrev W15 (F : T15) : WT := wrap s15 (G15 F)
theorem k15 (F36 : T36) (β : Type) (e : argsT s15) (k : V → Option β) : fnK cfg (tabL [(36, W36 F36)]) noX 15 Try.f15 β (argsEnc s15 e) k = G15 (P15 F36 ) β e k := by kernel_rfl
theorem ok15 : FnOk D 15 (W15 F15) := fn_okW [(36, W36 F36)] noX (fun _ => rfl) Try.func15 rfl (tabL_cons ok36 tabL_nil) (k15 F36 )
abbrev T93 : Type 1 := (β : Type) → Bool → List V → List V → List V → List UInt8 → (Bool → List V → List V → List V → List UInt8 → Option β) → Option β
def P93 : T93 := fun β p_Set p_Scripts p_Styles p_Images p_Nonce k =>
 chk ((([] : List V).length + p_Scripts.length) * 16 ≤ 140737488355328 ∧ ([] : List V).length + p_Scripts.length ≤ 140737488355328) <|
 chk ((([] : List V).length + p_Styles.length) * 16 ≤ 140737488355328 ∧ ([] : List V).length + p_Styles.length ≤ 140737488355328) <|
 chk ((([] : List V).length + p_Images.length) * 16 ≤ 140737488355328 ∧ ([] : List V).length + p_Images.length ≤ 140737488355328) <|
 k p_Set (([] : List V) ++ p_Scripts) (([] : List V) ++ p_Styles) (([] : List V) ++ p_Images) p_Nonce
def F93 : T93 := P93
abbrev s93 : List (Bool × List CK) := [(true, [.bool, .sl 1 true, .sl 1 true, .sl 1 true, .str])]
def G93 (F : T93) (β : Type) (e : (Bool × List V × List V × List V × List UInt8 × Unit) × Unit) (k : V → Option β) : Option β := let a0_0 := e.1; let a0_1 := a0_0.2; let a0_2 := a0_1.2; let a0_3 := a0_2.2; let a0_4 := a0_3.2; F β a0_0.1 a0_1.1 a0_2.1 a0_3.1 a0_4.1 (fun y1 y2 y3 y4 y5 => k (.agg [.bool y1, .own 1 1 .flat y2, .own 2 1 .flat y3, .own 3 1 .flat y4, .str y5]))
abbrev W93 (F : T93) : WT := wrap s93 (G93 F)
theorem k93 (β : Type) (e : argsT s93) (k : V → Option β) : fnK cfg (tabL []) noX 93 Try.f93 β (argsEnc s93 e) k = G93 (P93 ) β e k := by kernel_rfl
theorem ok93 : FnOk D 93 (W93 F93) := fn_okW [] noX (fun _ => rfl) Try.func93 rfl (tabL_nil) (k93 )
abbrev T133 : Type 1 := (β : Type) → List V → (List V → Option β) → Option β
def P133 : T133 := fun β l k =>
 chk ((([] : List V).length + l.length) * 32 ≤ 140737488355328 ∧ ([] : List V).length + l.length ≤ 140737488355328) <|
 k (([] : List V) ++ l)
def F133 : T133 := P133
abbrev s133 : List (Bool × List CK) := [(false, [.sl 2 true])]
def G133 (F : T133) (β : Type) (e : (List V × Unit) × Unit) (k : V → Option β) : Option β := F β e.1.1 (fun y1 => k (.own 0 2 .flat y1))
abbrev W133 (F : T133) : WT := wrap s133 (G133 F)
theorem k133 (β : Type) (e : argsT s133) (k : V → Option β) : fnK cfg (tabL []) noX 133 Try.f133 β (argsEnc s133 e) k = G133 (P133 ) β e k := by kernel_rfl
theorem ok133 : FnOk D 133 (W133 F133) := fn_okW [] noX (fun _ => rfl) Try.func133 rfl (tabL_nil) (k133 )
abbrev T94 : Type 1 := (β : Type) → List V → (List V → Option β) → Option β
def P94 (F133 : T133) : T94 := fun β l k =>
 whileK (fun s1 =>
 br (decide ((lI s1 2) < ((lL s1 0).length : Int))) (
 chk (0 ≤ (lI s1 2)) <|
 idx true [.int .i64, .str, .sl 2 true, .str] (lL s1 0) ((lI s1 2).toNat) fun (e2 : Int × List UInt8 × List V × List UInt8 × Unit) =>
 chk (0 ≤ (lI s1 2)) <|
 idx true [.int .i64, .str, .sl 2 true, .str] (lL s1 0) ((lI s1 2).toNat) fun (e3 : Int × List UInt8 × List V × List UInt8 × Unit) =>
 F133 _ e3.2.2.1 fun l4 =>
 chk (((lL s1 1).length + ([.agg [.int .i64 e2.1, .str e2.2.1, .sl 2 true l4, .str e2.2.2.2.1]] : List V).length) * 64 ≤ 140737488355328 ∧ (lL s1 1).length + ([.agg [.int .i64 e2.1, .str e2.2.1, .sl 2 true l4, .str e2.2.2.2.1]] : List V).length ≤ 140737488355328) <|
 some (.inl [.l (lL s1 0), .l ((lL s1 1) ++ ([.agg [.int .i64 e2.1, .str e2.2.1, .sl 2 true l4, .str e2.2.2.2.1]] : List V)), .i (IntKind.wrap .i64 ((lI s1 2) + 1))])) (
 some (.inr (0, [.l (lL s1 1)])))) [.l l, .l [], .i 0] fun (r5 : Nat × List Leaf) =>
 k (lL r5.2 0)
def F94 : T94 := P94 F133
def X94 : Exits := fun i => lookN i [] [(3, [(.exit 0, xk 29 [(3, .own 1000000 4 .clean [])] [])])]
abbrev s94 : List (Bool × List CK) := [(false, [.sl 4 false])]
def G94 (F : T94) (β : Type) (e : (List V × Unit) × Unit) (k : V → Option β) : Option β := F β e.1.1 (fun y1 => k (.own 0 4 .clean y1))
abbrev W94 (F : T94) : WT := wrap s94 (G94 F)
theorem k94 (F133 : T133) (β : Type) (e : argsT s94) (k : V → Option β) : fnK cfg (tabL [(133, W133 F133)]) X94 94 Try.f94 β (argsEnc s94 e) k = G94 (P94 F133 ) β e k := by kernel_rfl
theorem ok94 : FnOk D 94 (W94 F94) := fn_okW [(133, W133 F133)] X94 (fun _ => rfl) Try.func94 rfl (tabL_cons ok133 tabL_nil) (k94 F133 )
abbrev T95 : Type 1 := (β : Type) → List V → List V → (List V → List V → Option β) → Option β
def P95 (F133 : T133) : T95 := fun β b_Nodes b_Open k =>
 chk ((([] : List V).length + b_Open.length) * 8 ≤ 140737488355328 ∧ ([] : List V).length + b_Open.length ≤ 140737488355328) <|
 whileK (fun s1 =>
 br (decide ((lI s1 0) < ((lL s1 1).length : Int))) (
 chk (0 ≤ (lI s1 0)) <|
 idx true [.str, .str, .int .i64, .sl 2 true] (lL s1 1) ((lI s1 0).toNat) fun (e2 : List UInt8 × List UInt8 × Int × List V × Unit) =>
 chk (0 ≤ (lI s1 0)) <|
 idx true [.str, .str, .int .i64, .sl 2 true] (lL s1 1) ((lI s1 0).toNat) fun (e3 : List UInt8 × List UInt8 × Int × List V × Unit) =>
 F133 _ e3.2.2.2.1 fun l4 =>
 chk (((lL s1 3).length + ([.agg [.str e2.1, .str e2.2.1, .int .i64 e2.2.2.1, .sl 2 true l4]] : List V).length) * 64 ≤ 140737488355328 ∧ (lL s1 3).length + ([.agg [.str e2.1, .str e2.2.1, .int .i64 e2.2.2.1, .sl 2 true l4]] : List V).length ≤ 140737488355328) <|
 some (.inl [.i (IntKind.wrap .i64 ((lI s1 0) + 1)), .l (lL s1 1), .l (lL s1 2), .l ((lL s1 3) ++ ([.agg [.str e2.1, .str e2.2.1, .int .i64 e2.2.2.1, .sl 2 true l4]] : List V)), .l (lL s1 4)])) (
 some (.inr (0, [.l (lL s1 3), .l (lL s1 4)])))) [.i 0, .l b_Nodes, .l b_Open, .l [], .l (([] : List V) ++ b_Open)] fun (r5 : Nat × List Leaf) =>
 k (lL r5.2 0) (lL r5.2 1)
def F95 : T95 := P95 F133
def X95 : Exits := fun i => lookN i [] [(3, [(.exit 0, xk 38 [(2, .ptr 2 0), (3, .ptr 3 0)] [(2, .agg [.nil, .nil]), (3, .agg [.own 1000000 4 .clean [], .own 1000001 1 .flat []])])])]
abbrev s95 : List (Bool × List CK) := [(true, [.sl 4 false, .sl 1 true])]
def G95 (F : T95) (β : Type) (e : (List V × List V × Unit) × Unit) (k : V → Option β) : Option β := F β e.1.1 e.1.2.1 (fun y1 y2 => k (.agg [.own 0 4 .clean y1, .own 1 1 .flat y2]))
abbrev W95 (F : T95) : WT := wrap s95 (G95 F)
theorem k95 (F133 : T133) (β : Type) (e : argsT s95) (k : V → Option β) : fnK cfg (tabL [(133, W133 F133)]) X95 95 Try.f95 β (argsEnc s95 e) k = G95 (P95 F133 ) β e k := by kernel_rfl
theorem ok95 : FnOk D 95 (W95 F95) := fn_okW [(133, W133 F133)] X95 (fun _ => rfl) Try.func95 rfl (tabL_cons ok133 tabL_nil) (k95 F133 )
abbrev T56 : Type 1 := (β : Type) → List UInt8 → List UInt8 → Bool → List V → List V → List V → List UInt8 → List UInt8 → List V → Bool → List V → List V → List V → List V → List V → Int → Int → Int → Int → List V → List V → Bool → (List UInt8 → List UInt8 → Bool → List V → List V → List V → List UInt8 → List UInt8 → List V → Bool → List V → List V → List V → List V → List V → Int → Int → Int → Int → List V → List V → Bool → Option β) → Option β
def P56 (F93 : T93) (F94 : T94) (F95 : T95) : T56 := fun β p_Addr_Host p_Addr_Path p_Policy_Set p_Policy_Scripts p_Policy_Styles p_Policy_Images p_Policy_Nonce p_Tok_Rest p_Queue p_Ended p_Builder_Nodes p_Builder_Open p_Slots p_Mods p_Entries p_Block p_Inline p_Deferred p_Entered p_Ran p_Log p_Loaded k =>
 F93 _ p_Policy_Set p_Policy_Scripts p_Policy_Styles p_Policy_Images p_Policy_Nonce fun b1 l2 l3 l4 t5 =>
 F94 _ p_Queue fun l6 =>
 F95 _ p_Builder_Nodes p_Builder_Open fun l7 l8 =>
 chk ((([] : List V).length + p_Slots.length) * 96 ≤ 140737488355328 ∧ ([] : List V).length + p_Slots.length ≤ 140737488355328) <|
 chk ((([] : List V).length + p_Mods.length) * 64 ≤ 140737488355328 ∧ ([] : List V).length + p_Mods.length ≤ 140737488355328) <|
 chk ((([] : List V).length + p_Entries.length) * 32 ≤ 140737488355328 ∧ ([] : List V).length + p_Entries.length ≤ 140737488355328) <|
 chk ((([] : List V).length + p_Ran.length) * 32 ≤ 140737488355328 ∧ ([] : List V).length + p_Ran.length ≤ 140737488355328) <|
 chk ((([] : List V).length + p_Log.length) * 16 ≤ 140737488355328 ∧ ([] : List V).length + p_Log.length ≤ 140737488355328) <|
 k p_Addr_Host p_Addr_Path b1 l2 l3 l4 t5 p_Tok_Rest l6 p_Ended l7 l8 (([] : List V) ++ p_Slots) (([] : List V) ++ p_Mods) (([] : List V) ++ p_Entries) p_Block p_Inline p_Deferred p_Entered (([] : List V) ++ p_Ran) (([] : List V) ++ p_Log) p_Loaded
def F56 : T56 := P56 F93 F94 F95
abbrev s56 : List (Bool × List CK) := [(true, [.str, .str, .bool, .sl 1 true, .sl 1 true, .sl 1 true, .str, .str, .sl 4 false, .bool, .sl 4 false, .sl 1 true, .sl 8 true, .sl 5 true, .sl 2 true, .int .i64, .int .i64, .int .i64, .int .i64, .sl 2 true, .sl 1 true, .bool])]
def G56 (F : T56) (β : Type) (e : (List UInt8 × List UInt8 × Bool × List V × List V × List V × List UInt8 × List UInt8 × List V × Bool × List V × List V × List V × List V × List V × Int × Int × Int × Int × List V × List V × Bool × Unit) × Unit) (k : V → Option β) : Option β := let a0_0 := e.1; let a0_1 := a0_0.2; let a0_2 := a0_1.2; let a0_3 := a0_2.2; let a0_4 := a0_3.2; let a0_5 := a0_4.2; let a0_6 := a0_5.2; let a0_7 := a0_6.2; let a0_8 := a0_7.2; let a0_9 := a0_8.2; let a0_10 := a0_9.2; let a0_11 := a0_10.2; let a0_12 := a0_11.2; let a0_13 := a0_12.2; let a0_14 := a0_13.2; let a0_15 := a0_14.2; let a0_16 := a0_15.2; let a0_17 := a0_16.2; let a0_18 := a0_17.2; let a0_19 := a0_18.2; let a0_20 := a0_19.2; let a0_21 := a0_20.2; F β a0_0.1 a0_1.1 a0_2.1 a0_3.1 a0_4.1 a0_5.1 a0_6.1 a0_7.1 a0_8.1 a0_9.1 a0_10.1 a0_11.1 a0_12.1 a0_13.1 a0_14.1 a0_15.1 a0_16.1 a0_17.1 a0_18.1 a0_19.1 a0_20.1 a0_21.1 (fun y1 y2 y3 y4 y5 y6 y7 y8 y9 y10 y11 y12 y13 y14 y15 y16 y17 y18 y19 y20 y21 y22 => k (.agg [.str y1, .str y2, .bool y3, .own 3 1 .flat y4, .own 4 1 .flat y5, .own 5 1 .flat y6, .str y7, .str y8, .own 8 4 .clean y9, .bool y10, .own 10 4 .clean y11, .own 11 1 .flat y12, .own 12 8 .flat y13, .own 13 5 .flat y14, .own 14 2 .flat y15, .int .i64 y16, .int .i64 y17, .int .i64 y18, .int .i64 y19, .own 19 2 .flat y20, .own 20 1 .flat y21, .bool y22]))
abbrev W56 (F : T56) : WT := wrap s56 (G56 F)
theorem k56 (F93 : T93) (F94 : T94) (F95 : T95) (β : Type) (e : argsT s56) (k : V → Option β) : fnK cfg (tabL [(93, W93 F93), (94, W94 F94), (95, W95 F95)]) noX 56 Try.f56 β (argsEnc s56 e) k = G56 (P56 F93 F94 F95 ) β e k := by kernel_rfl
theorem ok56 : FnOk D 56 (W56 F56) := fn_okW [(93, W93 F93), (94, W94 F94), (95, W95 F95)] noX (fun _ => rfl) Try.func56 rfl (tabL_cons ok93 (tabL_cons ok94 (tabL_cons ok95 tabL_nil))) (k56 F93 F94 F95 )
abbrev T32 : Type 1 := (β : Type) → List V → Int → (List V → Int → Option β) → Option β
def P32 (F56 : T56) : T32 := fun β t_Visits t_At k =>
 whileK (fun s1 =>
 br (decide ((lI s1 0) < ((lL s1 1).length : Int))) (
 chk (0 ≤ (lI s1 0)) <|
 idx true [.str, .str, .str, .str, .bool, .sl 1 true, .sl 1 true, .sl 1 true, .str, .str, .sl 4 false, .bool, .sl 4 false, .sl 1 true, .sl 8 true, .sl 5 true, .sl 2 true, .int .i64, .int .i64, .int .i64, .int .i64, .sl 2 true, .sl 1 true, .bool, .bool] (lL s1 1) ((lI s1 0).toNat) fun (e2 : List UInt8 × List UInt8 × List UInt8 × List UInt8 × Bool × List V × List V × List V × List UInt8 × List UInt8 × List V × Bool × List V × List V × List V × List V × List V × Int × Int × Int × Int × List V × List V × Bool × Bool × Unit) =>
 chk (0 ≤ (lI s1 0)) <|
 idx true [.str, .str, .str, .str, .bool, .sl 1 true, .sl 1 true, .sl 1 true, .str, .str, .sl 4 false, .bool, .sl 4 false, .sl 1 true, .sl 8 true, .sl 5 true, .sl 2 true, .int .i64, .int .i64, .int .i64, .int .i64, .sl 2 true, .sl 1 true, .bool, .bool] (lL s1 1) ((lI s1 0).toNat) fun (e3 : List UInt8 × List UInt8 × List UInt8 × List UInt8 × Bool × List V × List V × List V × List UInt8 × List UInt8 × List V × Bool × List V × List V × List V × List V × List V × Int × Int × Int × Int × List V × List V × Bool × Bool × Unit) =>
 F56 _ e3.2.2.1 e3.2.2.2.1 e3.2.2.2.2.1 e3.2.2.2.2.2.1 e3.2.2.2.2.2.2.1 e3.2.2.2.2.2.2.2.1 e3.2.2.2.2.2.2.2.2.1 e3.2.2.2.2.2.2.2.2.2.1 e3.2.2.2.2.2.2.2.2.2.2.1 e3.2.2.2.2.2.2.2.2.2.2.2.1 e3.2.2.2.2.2.2.2.2.2.2.2.2.1 e3.2.2.2.2.2.2.2.2.2.2.2.2.2.1 e3.2.2.2.2.2.2.2.2.2.2.2.2.2.2.1 e3.2.2.2.2.2.2.2.2.2.2.2.2.2.2.2.1 e3.2.2.2.2.2.2.2.2.2.2.2.2.2.2.2.2.1 e3.2.2.2.2.2.2.2.2.2.2.2.2.2.2.2.2.2.1 e3.2.2.2.2.2.2.2.2.2.2.2.2.2.2.2.2.2.2.1 e3.2.2.2.2.2.2.2.2.2.2.2.2.2.2.2.2.2.2.2.1 e3.2.2.2.2.2.2.2.2.2.2.2.2.2.2.2.2.2.2.2.2.1 e3.2.2.2.2.2.2.2.2.2.2.2.2.2.2.2.2.2.2.2.2.2.1 e3.2.2.2.2.2.2.2.2.2.2.2.2.2.2.2.2.2.2.2.2.2.2.1 e3.2.2.2.2.2.2.2.2.2.2.2.2.2.2.2.2.2.2.2.2.2.2.2.1 fun t4 t5 b6 l7 l8 l9 t10 t11 l12 b13 l14 l15 l16 l17 l18 n19 n20 n21 n22 l23 l24 b25 =>
 chk (((lL s1 4).length + ([.agg [.str e2.1, .str e2.2.1, .str t4, .str t5, .bool b6, .sl 1 true l7, .sl 1 true l8, .sl 1 true l9, .str t10, .str t11, .sl 4 false l12, .bool b13, .sl 4 false l14, .sl 1 true l15, .sl 8 true l16, .sl 5 true l17, .sl 2 true l18, .int .i64 n19, .int .i64 n20, .int .i64 n21, .int .i64 n22, .sl 2 true l23, .sl 1 true l24, .bool b25, .bool e2.2.2.2.2.2.2.2.2.2.2.2.2.2.2.2.2.2.2.2.2.2.2.2.2.1]] : List V).length) * 424 ≤ 140737488355328 ∧ (lL s1 4).length + ([.agg [.str e2.1, .str e2.2.1, .str t4, .str t5, .bool b6, .sl 1 true l7, .sl 1 true l8, .sl 1 true l9, .str t10, .str t11, .sl 4 false l12, .bool b13, .sl 4 false l14, .sl 1 true l15, .sl 8 true l16, .sl 5 true l17, .sl 2 true l18, .int .i64 n19, .int .i64 n20, .int .i64 n21, .int .i64 n22, .sl 2 true l23, .sl 1 true l24, .bool b25, .bool e2.2.2.2.2.2.2.2.2.2.2.2.2.2.2.2.2.2.2.2.2.2.2.2.2.1]] : List V).length ≤ 140737488355328) <|
 some (.inl [.i (IntKind.wrap .i64 ((lI s1 0) + 1)), .l (lL s1 1), .i (lI s1 2), .i (lI s1 3), .l ((lL s1 4) ++ ([.agg [.str e2.1, .str e2.2.1, .str t4, .str t5, .bool b6, .sl 1 true l7, .sl 1 true l8, .sl 1 true l9, .str t10, .str t11, .sl 4 false l12, .bool b13, .sl 4 false l14, .sl 1 true l15, .sl 8 true l16, .sl 5 true l17, .sl 2 true l18, .int .i64 n19, .int .i64 n20, .int .i64 n21, .int .i64 n22, .sl 2 true l23, .sl 1 true l24, .bool b25, .bool e2.2.2.2.2.2.2.2.2.2.2.2.2.2.2.2.2.2.2.2.2.2.2.2.2.1]] : List V)), .i (lI s1 5)])) (
 some (.inr (0, [.i (lI s1 3), .l (lL s1 4), .i (lI s1 5)])))) [.i 0, .l t_Visits, .i t_At, .i 0, .l [], .i t_At] fun (r26 : Nat × List Leaf) =>
 k (lL r26.2 1) (lI r26.2 2)
def F32 : T32 := P32 F56
def X32 : Exits := fun i => lookN i [] [(3, [(.exit 0, xk 36 [(2, .ptr 2 0), (3, .ptr 3 0)] [(2, .agg [.nil, .int .i64 0]), (3, .agg [.own 1000000 25 .clean [], .int .i64 0])])])]
abbrev s32 : List (Bool × List CK) := [(true, [.sl 25 false, .int .i64])]
def G32 (F : T32) (β : Type) (e : (List V × Int × Unit) × Unit) (k : V → Option β) : Option β := F β e.1.1 e.1.2.1 (fun y1 y2 => k (.agg [.own 0 25 .clean y1, .int .i64 y2]))
abbrev W32 (F : T32) : WT := wrap s32 (G32 F)
theorem k32 (F56 : T56) (β : Type) (e : argsT s32) (k : V → Option β) : fnK cfg (tabL [(56, W56 F56)]) X32 32 Try.f32 β (argsEnc s32 e) k = G32 (P32 F56 ) β e k := by kernel_rfl
theorem ok32 : FnOk D 32 (W32 F32) := fn_okW [(56, W56 F56)] X32 (fun _ => rfl) Try.func32 rfl (tabL_cons ok56 tabL_nil) (k32 F56 )
abbrev T33 : Type 1 := (β : Type) → Int → Int → Int → (Bool → Option β) → Option β
def P33 : T33 := fun β x least most k =>
 br (decide (x ≥ least)) (
 k (decide (x ≤ most))) (
 k false)
def F33 : T33 := P33
abbrev s33 : List (Bool × List CK) := [(false, [.int .i64]), (false, [.int .i64]), (false, [.int .i64])]
def G33 (F : T33) (β : Type) (e : (Int × Unit) × (Int × Unit) × (Int × Unit) × Unit) (k : V → Option β) : Option β := F β e.1.1 e.2.1.1 e.2.2.1.1 (fun y1 => k (.bool y1))
abbrev W33 (F : T33) : WT := wrap s33 (G33 F)
theorem k33 (β : Type) (e : argsT s33) (k : V → Option β) : fnK cfg (tabL []) noX 33 Try.f33 β (argsEnc s33 e) k = G33 (P33 ) β e k := by kernel_rfl
theorem ok33 : FnOk D 33 (W33 F33) := fn_okW [] noX (fun _ => rfl) Try.func33 rfl (tabL_nil) (k33 )
abbrev T12 : Type 1 := (β : Type) → List V → Int → Int → (List V → Int → Option β) → Option β
def P12 (F32 : T32) (F33 : T33) : T12 := fun β t_Visits t_At i k =>
 F32 _ t_Visits t_At fun l1 n2 =>
 F33 _ i 0 (IntKind.wrap .i64 ((t_Visits.length : Int) - 1)) fun b3 =>
 br (!b3) (
 k l1 n2) (
 chk (0 ≤ i ∧ i.toNat < l1.length) <|
 storeO l1 i.toNat 24 [.bool false] fun l4 =>
 chk (0 ≤ i ∧ i.toNat < l4.length) <|
 storeO l4 i.toNat 2 [.str [], .str [], .bool false, .sl 1 true [], .sl 1 true [], .sl 1 true [], .str [], .str [], .sl 4 false [], .bool false, .sl 4 false [], .sl 1 true [], .sl 8 true [], .sl 5 true [], .sl 2 true [], .int .i64 0, .int .i64 0, .int .i64 0, .int .i64 0, .sl 2 true [], .sl 1 true [], .bool false] fun l5 =>
 k l5 n2)
def F12 : T12 := P12 F32 F33
abbrev s12 : List (Bool × List CK) := [(true, [.sl 25 false, .int .i64]), (false, [.int .i64])]
def G12 (F : T12) (β : Type) (e : (List V × Int × Unit) × (Int × Unit) × Unit) (k : V → Option β) : Option β := F β e.1.1 e.1.2.1 e.2.1.1 (fun y1 y2 => k (.agg [.own 0 25 .clean y1, .int .i64 y2]))
abbrev W12 (F : T12) : WT := wrap s12 (G12 F)
theorem k12 (F32 : T32) (F33 : T33) (β : Type) (e : argsT s12) (k : V → Option β) : fnK cfg (tabL [(32, W32 F32), (33, W33 F33)]) noX 12 Try.f12 β (argsEnc s12 e) k = G12 (P12 F32 F33 ) β e k := by kernel_rfl
theorem ok12 : FnOk D 12 (W12 F12) := fn_okW [(32, W32 F32), (33, W33 F33)] noX (fun _ => rfl) Try.func12 rfl (tabL_cons ok32 (tabL_cons ok33 tabL_nil)) (k12 F32 F33 )
abbrev T98 : Type 1 := (β : Type) → Bool → List V → List V → List V → List UInt8 → (Bool → List V → List V → List V → List UInt8 → Option β) → Option β
def P98 : T98 := fun β p_Set p_Scripts p_Styles p_Images p_Nonce k =>
 chk ((([] : List V).length + p_Scripts.length) * 16 ≤ 140737488355328 ∧ ([] : List V).length + p_Scripts.length ≤ 140737488355328) <|
 chk ((([] : List V).length + p_Styles.length) * 16 ≤ 140737488355328 ∧ ([] : List V).length + p_Styles.length ≤ 140737488355328) <|
 chk ((([] : List V).length + p_Images.length) * 16 ≤ 140737488355328 ∧ ([] : List V).length + p_Images.length ≤ 140737488355328) <|
 k p_Set (([] : List V) ++ p_Scripts) (([] : List V) ++ p_Styles) (([] : List V) ++ p_Images) p_Nonce
def F98 : T98 := P98
abbrev s98 : List (Bool × List CK) := [(true, [.bool, .sl 1 true, .sl 1 true, .sl 1 true, .str])]
def G98 (F : T98) (β : Type) (e : (Bool × List V × List V × List V × List UInt8 × Unit) × Unit) (k : V → Option β) : Option β := let a0_0 := e.1; let a0_1 := a0_0.2; let a0_2 := a0_1.2; let a0_3 := a0_2.2; let a0_4 := a0_3.2; F β a0_0.1 a0_1.1 a0_2.1 a0_3.1 a0_4.1 (fun y1 y2 y3 y4 y5 => k (.agg [.bool y1, .own 1 1 .flat y2, .own 2 1 .flat y3, .own 3 1 .flat y4, .str y5]))
abbrev W98 (F : T98) : WT := wrap s98 (G98 F)
theorem k98 (β : Type) (e : argsT s98) (k : V → Option β) : fnK cfg (tabL []) noX 98 Try.f98 β (argsEnc s98 e) k = G98 (P98 ) β e k := by kernel_rfl
theorem ok98 : FnOk D 98 (W98 F98) := fn_okW [] noX (fun _ => rfl) Try.func98 rfl (tabL_nil) (k98 )
abbrev T142 : Type 1 := (β : Type) → Int → List UInt8 → List V → List UInt8 → (Int → List UInt8 → List V → List UInt8 → Option β) → Option β
def P142 : T142 := fun β t_Kind t_Name t_Attrs t_Text k =>
 chk ((([] : List V).length + t_Attrs.length) * 32 ≤ 140737488355328 ∧ ([] : List V).length + t_Attrs.length ≤ 140737488355328) <|
 k t_Kind t_Name (([] : List V) ++ t_Attrs) t_Text
def F142 : T142 := P142
abbrev s142 : List (Bool × List CK) := [(true, [.int .i64, .str, .sl 2 true, .str])]
def G142 (F : T142) (β : Type) (e : (Int × List UInt8 × List V × List UInt8 × Unit) × Unit) (k : V → Option β) : Option β := F β e.1.1 e.1.2.1 e.1.2.2.1 e.1.2.2.2.1 (fun y1 y2 y3 y4 => k (.agg [.int .i64 y1, .str y2, .own 2 2 .flat y3, .str y4]))
abbrev W142 (F : T142) : WT := wrap s142 (G142 F)
theorem k142 (β : Type) (e : argsT s142) (k : V → Option β) : fnK cfg (tabL []) noX 142 Try.f142 β (argsEnc s142 e) k = G142 (P142 ) β e k := by kernel_rfl
theorem ok142 : FnOk D 142 (W142 F142) := fn_okW [] noX (fun _ => rfl) Try.func142 rfl (tabL_nil) (k142 )
abbrev T99 : Type 1 := (β : Type) → List V → (List V → Option β) → Option β
def P99 (F142 : T142) : T99 := fun β l k =>
 whileK (fun s1 =>
 br (decide ((lI s1 3) < (lI s1 2))) (
 chk (0 ≤ (lI s1 3)) <|
 idx true [.int .i64, .str, .sl 2 true, .str] (lL s1 1) ((lI s1 3).toNat) fun (e2 : Int × List UInt8 × List V × List UInt8 × Unit) =>
 F142 _ e2.1 e2.2.1 e2.2.2.1 e2.2.2.2.1 fun n3 t4 l5 t6 =>
 chk (((lL s1 0).length + ([.agg [.int .i64 n3, .str t4, .sl 2 true l5, .str t6]] : List V).length) * 64 ≤ 140737488355328 ∧ (lL s1 0).length + ([.agg [.int .i64 n3, .str t4, .sl 2 true l5, .str t6]] : List V).length ≤ 140737488355328) <|
 some (.inl [.l ((lL s1 0) ++ ([.agg [.int .i64 n3, .str t4, .sl 2 true l5, .str t6]] : List V)), .l (lL s1 1), .i (lI s1 2), .i (IntKind.wrap .i64 ((lI s1 3) + 1))])) (
 some (.inr (0, [.l (lL s1 0)])))) [.l [], .l l, .i (l.length : Int), .i 0] fun (r7 : Nat × List Leaf) =>
 k (lL r7.2 0)
def F99 : T99 := P99 F142
def X99 : Exits := fun i => lookN i [] [(3, [(.exit 0, xk 20 [(3, .own 1000000 4 .clean [])] [])])]
abbrev s99 : List (Bool × List CK) := [(false, [.sl 4 false])]
def G99 (F : T99) (β : Type) (e : (List V × Unit) × Unit) (k : V → Option β) : Option β := F β e.1.1 (fun y1 => k (.own 0 4 .clean y1))
abbrev W99 (F : T99) : WT := wrap s99 (G99 F)
theorem k99 (F142 : T142) (β : Type) (e : argsT s99) (k : V → Option β) : fnK cfg (tabL [(142, W142 F142)]) X99 99 Try.f99 β (argsEnc s99 e) k = G99 (P99 F142 ) β e k := by kernel_rfl
theorem ok99 : FnOk D 99 (W99 F99) := fn_okW [(142, W142 F142)] X99 (fun _ => rfl) Try.func99 rfl (tabL_cons ok142 tabL_nil) (k99 F142 )
abbrev T100 : Type 1 := (β : Type) → List V → List V → (List V → List V → Option β) → Option β
def P100 : T100 := fun β b_Nodes b_Open k =>
 chk ((([] : List V).length + b_Open.length) * 8 ≤ 140737488355328 ∧ ([] : List V).length + b_Open.length ≤ 140737488355328) <|
 whileK (fun s1 =>
 br (decide ((lI s1 2) < (lI s1 1))) (
 chk (0 ≤ (lI s1 2)) <|
 idx true [.str, .str, .int .i64, .sl 2 true] (lL s1 0) ((lI s1 2).toNat) fun (e2 : List UInt8 × List UInt8 × Int × List V × Unit) =>
 chk ((([] : List V).length + e2.2.2.2.1.length) * 32 ≤ 140737488355328 ∧ ([] : List V).length + e2.2.2.2.1.length ≤ 140737488355328) <|
 chk (((lL s1 3).length + ([.agg [.str e2.1, .str e2.2.1, .int .i64 e2.2.2.1, .sl 2 true (([] : List V) ++ e2.2.2.2.1)]] : List V).length) * 64 ≤ 140737488355328 ∧ (lL s1 3).length + ([.agg [.str e2.1, .str e2.2.1, .int .i64 e2.2.2.1, .sl 2 true (([] : List V) ++ e2.2.2.2.1)]] : List V).length ≤ 140737488355328) <|
 some (.inl [.l (lL s1 0), .i (lI s1 1), .i (IntKind.wrap .i64 ((lI s1 2) + 1)), .l ((lL s1 3) ++ ([.agg [.str e2.1, .str e2.2.1, .int .i64 e2.2.2.1, .sl 2 true (([] : List V) ++ e2.2.2.2.1)]] : List V)), .l (lL s1 4)])) (
 some (.inr (0, [.l (lL s1 3), .l (lL s1 4)])))) [.l b_Nodes, .i (b_Nodes.length : Int), .i 0, .l [], .l (([] : List V) ++ b_Open)] fun (r3 : Nat × List Leaf) =>
 k (lL r3.2 0) (lL r3.2 1)
def F100 : T100 := P100
def X100 : Exits := fun i => lookN i [] [(3, [(.exit 0, xk 31 [(2, .ptr 2 0), (3, .ptr 3 0)] [(2, .agg [.nil, .nil]), (3, .agg [.own 1000000 4 .clean [], .own 1000001 1 .flat []])])])]
abbrev s100 : List (Bool × List CK) := [(true, [.sl 4 false, .sl 1 true])]
def G100 (F : T100) (β : Type) (e : (List V × List V × Unit) × Unit) (k : V → Option β) : Option β := F β e.1.1 e.1.2.1 (fun y1 y2 => k (.agg [.own 0 4 .clean y1, .own 1 1 .flat y2]))
abbrev W100 (F : T100) : WT := wrap s100 (G100 F)
theorem k100 (β : Type) (e : argsT s100) (k : V → Option β) : fnK cfg (tabL []) X100 100 Try.f100 β (argsEnc s100 e) k = G100 (P100 ) β e k := by kernel_rfl
theorem ok100 : FnOk D 100 (W100 F100) := fn_okW [] X100 (fun _ => rfl) Try.func100 rfl (tabL_nil) (k100 )
abbrev T58 : Type 1 := (β : Type) → List UInt8 → List UInt8 → Bool → List V → List V → List V → List UInt8 → List UInt8 → List V → Bool → List V → List V → List V → List V → List V → Int → Int → Int → Int → List V → List V → Bool → (List UInt8 → List UInt8 → Bool → List V → List V → List V → List UInt8 → List UInt8 → List V → Bool → List V → List V → List V → List V → List V → Int → Int → Int → Int → List V → List V → Bool → Option β) → Option β
def P58 (F98 : T98) (F99 : T99) (F100 : T100) : T58 := fun β p_Addr_Host p_Addr_Path p_Policy_Set p_Policy_Scripts p_Policy_Styles p_Policy_Images p_Policy_Nonce p_Tok_Rest p_Queue p_Ended p_Builder_Nodes p_Builder_Open p_Slots p_Mods p_Entries p_Block p_Inline p_Deferred p_Entered p_Ran p_Log p_Loaded k =>
 F98 _ p_Policy_Set p_Policy_Scripts p_Policy_Styles p_Policy_Images p_Policy_Nonce fun b1 l2 l3 l4 t5 =>
 F99 _ p_Queue fun l6 =>
 F100 _ p_Builder_Nodes p_Builder_Open fun l7 l8 =>
 chk ((([] : List V).length + p_Slots.length) * 96 ≤ 140737488355328 ∧ ([] : List V).length + p_Slots.length ≤ 140737488355328) <|
 chk ((([] : List V).length + p_Mods.length) * 64 ≤ 140737488355328 ∧ ([] : List V).length + p_Mods.length ≤ 140737488355328) <|
 chk ((([] : List V).length + p_Entries.length) * 32 ≤ 140737488355328 ∧ ([] : List V).length + p_Entries.length ≤ 140737488355328) <|
 chk ((([] : List V).length + p_Ran.length) * 32 ≤ 140737488355328 ∧ ([] : List V).length + p_Ran.length ≤ 140737488355328) <|
 chk ((([] : List V).length + p_Log.length) * 16 ≤ 140737488355328 ∧ ([] : List V).length + p_Log.length ≤ 140737488355328) <|
 k p_Addr_Host p_Addr_Path b1 l2 l3 l4 t5 p_Tok_Rest l6 p_Ended l7 l8 (([] : List V) ++ p_Slots) (([] : List V) ++ p_Mods) (([] : List V) ++ p_Entries) p_Block p_Inline p_Deferred p_Entered (([] : List V) ++ p_Ran) (([] : List V) ++ p_Log) p_Loaded
def F58 : T58 := P58 F98 F99 F100
abbrev s58 : List (Bool × List CK) := [(true, [.str, .str, .bool, .sl 1 true, .sl 1 true, .sl 1 true, .str, .str, .sl 4 false, .bool, .sl 4 false, .sl 1 true, .sl 8 true, .sl 5 true, .sl 2 true, .int .i64, .int .i64, .int .i64, .int .i64, .sl 2 true, .sl 1 true, .bool])]
def G58 (F : T58) (β : Type) (e : (List UInt8 × List UInt8 × Bool × List V × List V × List V × List UInt8 × List UInt8 × List V × Bool × List V × List V × List V × List V × List V × Int × Int × Int × Int × List V × List V × Bool × Unit) × Unit) (k : V → Option β) : Option β := let a0_0 := e.1; let a0_1 := a0_0.2; let a0_2 := a0_1.2; let a0_3 := a0_2.2; let a0_4 := a0_3.2; let a0_5 := a0_4.2; let a0_6 := a0_5.2; let a0_7 := a0_6.2; let a0_8 := a0_7.2; let a0_9 := a0_8.2; let a0_10 := a0_9.2; let a0_11 := a0_10.2; let a0_12 := a0_11.2; let a0_13 := a0_12.2; let a0_14 := a0_13.2; let a0_15 := a0_14.2; let a0_16 := a0_15.2; let a0_17 := a0_16.2; let a0_18 := a0_17.2; let a0_19 := a0_18.2; let a0_20 := a0_19.2; let a0_21 := a0_20.2; F β a0_0.1 a0_1.1 a0_2.1 a0_3.1 a0_4.1 a0_5.1 a0_6.1 a0_7.1 a0_8.1 a0_9.1 a0_10.1 a0_11.1 a0_12.1 a0_13.1 a0_14.1 a0_15.1 a0_16.1 a0_17.1 a0_18.1 a0_19.1 a0_20.1 a0_21.1 (fun y1 y2 y3 y4 y5 y6 y7 y8 y9 y10 y11 y12 y13 y14 y15 y16 y17 y18 y19 y20 y21 y22 => k (.agg [.str y1, .str y2, .bool y3, .own 3 1 .flat y4, .own 4 1 .flat y5, .own 5 1 .flat y6, .str y7, .str y8, .own 8 4 .clean y9, .bool y10, .own 10 4 .clean y11, .own 11 1 .flat y12, .own 12 8 .flat y13, .own 13 5 .flat y14, .own 14 2 .flat y15, .int .i64 y16, .int .i64 y17, .int .i64 y18, .int .i64 y19, .own 19 2 .flat y20, .own 20 1 .flat y21, .bool y22]))
abbrev W58 (F : T58) : WT := wrap s58 (G58 F)
theorem k58 (F98 : T98) (F99 : T99) (F100 : T100) (β : Type) (e : argsT s58) (k : V → Option β) : fnK cfg (tabL [(98, W98 F98), (99, W99 F99), (100, W100 F100)]) noX 58 Try.f58 β (argsEnc s58 e) k = G58 (P58 F98 F99 F100 ) β e k := by kernel_rfl
theorem ok58 : FnOk D 58 (W58 F58) := fn_okW [(98, W98 F98), (99, W99 F99), (100, W100 F100)] noX (fun _ => rfl) Try.func58 rfl (tabL_cons ok98 (tabL_cons ok99 (tabL_cons ok100 tabL_nil))) (k58 F98 F99 F100 )
abbrev T35 : Type 1 := (β : Type) → List V → Int → (List V → Int → Option β) → Option β
def P35 (F58 : T58) : T35 := fun β t_Visits t_At k =>
 whileK (fun s1 =>
 br (decide ((lI s1 2) < (lI s1 1))) (
 chk (0 ≤ (lI s1 2)) <|
 idx true [.str, .str, .str, .str, .bool, .sl 1 true, .sl 1 true, .sl 1 true, .str, .str, .sl 4 false, .bool, .sl 4 false, .sl 1 true, .sl 8 true, .sl 5 true, .sl 2 true, .int .i64, .int .i64, .int .i64, .int .i64, .sl 2 true, .sl 1 true, .bool, .bool] (lL s1 0) ((lI s1 2).toNat) fun (e2 : List UInt8 × List UInt8 × List UInt8 × List UInt8 × Bool × List V × List V × List V × List UInt8 × List UInt8 × List V × Bool × List V × List V × List V × List V × List V × Int × Int × Int × Int × List V × List V × Bool × Bool × Unit) =>
 F58 _ e2.2.2.1 e2.2.2.2.1 e2.2.2.2.2.1 e2.2.2.2.2.2.1 e2.2.2.2.2.2.2.1 e2.2.2.2.2.2.2.2.1 e2.2.2.2.2.2.2.2.2.1 e2.2.2.2.2.2.2.2.2.2.1 e2.2.2.2.2.2.2.2.2.2.2.1 e2.2.2.2.2.2.2.2.2.2.2.2.1 e2.2.2.2.2.2.2.2.2.2.2.2.2.1 e2.2.2.2.2.2.2.2.2.2.2.2.2.2.1 e2.2.2.2.2.2.2.2.2.2.2.2.2.2.2.1 e2.2.2.2.2.2.2.2.2.2.2.2.2.2.2.2.1 e2.2.2.2.2.2.2.2.2.2.2.2.2.2.2.2.2.1 e2.2.2.2.2.2.2.2.2.2.2.2.2.2.2.2.2.2.1 e2.2.2.2.2.2.2.2.2.2.2.2.2.2.2.2.2.2.2.1 e2.2.2.2.2.2.2.2.2.2.2.2.2.2.2.2.2.2.2.2.1 e2.2.2.2.2.2.2.2.2.2.2.2.2.2.2.2.2.2.2.2.2.1 e2.2.2.2.2.2.2.2.2.2.2.2.2.2.2.2.2.2.2.2.2.2.1 e2.2.2.2.2.2.2.2.2.2.2.2.2.2.2.2.2.2.2.2.2.2.2.1 e2.2.2.2.2.2.2.2.2.2.2.2.2.2.2.2.2.2.2.2.2.2.2.2.1 fun t3 t4 b5 l6 l7 l8 t9 t10 l11 b12 l13 l14 l15 l16 l17 n18 n19 n20 n21 l22 l23 b24 =>
 chk (((lL s1 4).length + ([.agg [.str e2.1, .str e2.2.1, .str t3, .str t4, .bool b5, .sl 1 true l6, .sl 1 true l7, .sl 1 true l8, .str t9, .str t10, .sl 4 false l11, .bool b12, .sl 4 false l13, .sl 1 true l14, .sl 8 true l15, .sl 5 true l16, .sl 2 true l17, .int .i64 n18, .int .i64 n19, .int .i64 n20, .int .i64 n21, .sl 2 true l22, .sl 1 true l23, .bool b24, .bool e2.2.2.2.2.2.2.2.2.2.2.2.2.2.2.2.2.2.2.2.2.2.2.2.2.1]] : List V).length) * 424 ≤ 140737488355328 ∧ (lL s1 4).length + ([.agg [.str e2.1, .str e2.2.1, .str t3, .str t4, .bool b5, .sl 1 true l6, .sl 1 true l7, .sl 1 true l8, .str t9, .str t10, .sl 4 false l11, .bool b12, .sl 4 false l13, .sl 1 true l14, .sl 8 true l15, .sl 5 true l16, .sl 2 true l17, .int .i64 n18, .int .i64 n19, .int .i64 n20, .int .i64 n21, .sl 2 true l22, .sl 1 true l23, .bool b24, .bool e2.2.2.2.2.2.2.2.2.2.2.2.2.2.2.2.2.2.2.2.2.2.2.2.2.1]] : List V).length ≤ 140737488355328) <|
 some (.inl [.l (lL s1 0), .i (lI s1 1), .i (IntKind.wrap .i64 ((lI s1 2) + 1)), .i (lI s1 3), .l ((lL s1 4) ++ ([.agg [.str e2.1, .str e2.2.1, .str t3, .str t4, .bool b5, .sl 1 true l6, .sl 1 true l7, .sl 1 true l8, .str t9, .str t10, .sl 4 false l11, .bool b12, .sl 4 false l13, .sl 1 true l14, .sl 8 true l15, .sl 5 true l16, .sl 2 true l17, .int .i64 n18, .int .i64 n19, .int .i64 n20, .int .i64 n21, .sl 2 true l22, .sl 1 true l23, .bool b24, .bool e2.2.2.2.2.2.2.2.2.2.2.2.2.2.2.2.2.2.2.2.2.2.2.2.2.1]] : List V)), .i (lI s1 5)])) (
 some (.inr (0, [.i (lI s1 3), .l (lL s1 4), .i (lI s1 5)])))) [.l t_Visits, .i (t_Visits.length : Int), .i 0, .i 0, .l [], .i t_At] fun (r25 : Nat × List Leaf) =>
 k (lL r25.2 1) (lI r25.2 2)
def F35 : T35 := P35 F58
def X35 : Exits := fun i => lookN i [] [(3, [(.exit 0, xk 28 [(2, .ptr 2 0), (3, .ptr 3 0)] [(2, .agg [.nil, .int .i64 0]), (3, .agg [.own 1000000 25 .clean [], .int .i64 0])])])]
abbrev s35 : List (Bool × List CK) := [(true, [.sl 25 false, .int .i64])]
def G35 (F : T35) (β : Type) (e : (List V × Int × Unit) × Unit) (k : V → Option β) : Option β := F β e.1.1 e.1.2.1 (fun y1 y2 => k (.agg [.own 0 25 .clean y1, .int .i64 y2]))
abbrev W35 (F : T35) : WT := wrap s35 (G35 F)
theorem k35 (F58 : T58) (β : Type) (e : argsT s35) (k : V → Option β) : fnK cfg (tabL [(58, W58 F58)]) X35 35 Try.f35 β (argsEnc s35 e) k = G35 (P35 F58 ) β e k := by kernel_rfl
theorem ok35 : FnOk D 35 (W35 F35) := fn_okW [(58, W58 F58)] X35 (fun _ => rfl) Try.func35 rfl (tabL_cons ok58 tabL_nil) (k35 F58 )
abbrev T14 : Type 1 := (β : Type) → List V → Int → Int → (List V → Int → Option β) → Option β
def P14 (F35 : T35) : T14 := fun β t_Visits t_At i k =>
 F35 _ t_Visits t_At fun l1 n2 =>
 br (decide (i ≥ 0)) (
 br (decide (i < (t_Visits.length : Int))) (
 chk (0 ≤ i ∧ i.toNat < l1.length) <|
 storeO l1 i.toNat 24 [.bool false] fun l3 =>
 chk (0 ≤ i ∧ i.toNat < l3.length) <|
 storeO l3 i.toNat 2 [.str [], .str [], .bool false, .sl 1 true [], .sl 1 true [], .sl 1 true [], .str [], .str [], .sl 4 false [], .bool false, .sl 4 false [], .sl 1 true [], .sl 8 true [], .sl 5 true [], .sl 2 true [], .int .i64 0, .int .i64 0, .int .i64 0, .int .i64 0, .sl 2 true [], .sl 1 true [], .bool false] fun l4 =>
 k l4 n2) (
 k l1 n2)) (
 k l1 n2)
def F14 : T14 := P14 F35
abbrev s14 : List (Bool × List CK) := [(true, [.sl 25 false, .int .i64]), (false, [.int .i64])]
def G14 (F : T14) (β : Type) (e : (List V × Int × Unit) × (Int × Unit) × Unit) (k : V → Option β) : Option β := F β e.1.1 e.1.2.1 e.2.1.1 (fun y1 y2 => k (.agg [.own 0 25 .clean y1, .int .i64 y2]))
abbrev W14 (F : T14) : WT := wrap s14 (G14 F)
theorem k14 (F35 : T35) (β : Type) (e : argsT s14) (k : V → Option β) : fnK cfg (tabL [(35, W35 F35)]) noX 14 Try.f14 β (argsEnc s14 e) k = G14 (P14 F35 ) β e k := by kernel_rfl
theorem ok14 : FnOk D 14 (W14 F14) := fn_okW [(35, W35 F35)] noX (fun _ => rfl) Try.func14 rfl (tabL_cons ok35 tabL_nil) (k14 F35 )
abbrev T124 : Type 1 := (β : Type) → Int → Int → List UInt8 → Int → Bool → List UInt8 → Int → Int → List UInt8 → Int → Bool → List UInt8 → (Bool → Option β) → Option β
def P124 : T124 := fun β a_Status a_Kind a_Body a_Age a_Shares a_Policy b_Status b_Kind b_Body b_Age b_Shares b_Policy k =>
 br (a_Status != b_Status) (
 k false) (
 br (a_Kind != b_Kind) (
 k false) (
 br (!(a_Body == b_Body)) (
 k false) (
 br (a_Age != b_Age) (
 k false) (
 br (!(a_Shares == b_Shares)) (
 k false) (
 br (!(a_Policy == b_Policy)) (
 k false) (
 k true))))))
def F124 : T124 := P124
abbrev T90 : Type 1 := (β : Type) → List UInt8 → Int → Int → List UInt8 → Int → Bool → List UInt8 → List UInt8 → Int → Int → List UInt8 → Int → Bool → List UInt8 → (Bool → Option β) → Option β
def P90 (F124 : T124) : T90 := fun β a_Path a_Response_Status a_Response_Kind a_Response_Body a_Response_Age a_Response_Shares a_Response_Policy b_Path b_Response_Status b_Response_Kind b_Response_Body b_Response_Age b_Response_Shares b_Response_Policy k =>
 br (!(a_Path == b_Path)) (
 k false) (
 F124 _ a_Response_Status a_Response_Kind a_Response_Body a_Response_Age a_Response_Shares a_Response_Policy b_Response_Status b_Response_Kind b_Response_Body b_Response_Age b_Response_Shares b_Response_Policy fun b1 =>
 br (!b1) (
 k false) (
 k true))
def F90 : T90 := P90 F124
abbrev T54 : Type 1 := (β : Type) → List V → List V → (Bool → Option β) → Option β
def P54 (F90 : T90) : T54 := fun β a b k =>
 br ((a.length : Int) != (b.length : Int)) (
 k false) (
 whileK (fun s1 =>
 br (decide ((lI s1 2) < ((lL s1 0).length : Int))) (
 chk (0 ≤ (lI s1 2)) <|
 idx true [.str, .int .i64, .int .i64, .str, .int .i64, .bool, .str] (lL s1 0) ((lI s1 2).toNat) fun (e2 : List UInt8 × Int × Int × List UInt8 × Int × Bool × List UInt8 × Unit) =>
 chk (0 ≤ (lI s1 2)) <|
 idx true [.str, .int .i64, .int .i64, .str, .int .i64, .bool, .str] (lL s1 1) ((lI s1 2).toNat) fun (e3 : List UInt8 × Int × Int × List UInt8 × Int × Bool × List UInt8 × Unit) =>
 F90 _ e2.1 e2.2.1 e2.2.2.1 e2.2.2.2.1 e2.2.2.2.2.1 e2.2.2.2.2.2.1 e2.2.2.2.2.2.2.1 e3.1 e3.2.1 e3.2.2.1 e3.2.2.2.1 e3.2.2.2.2.1 e3.2.2.2.2.2.1 e3.2.2.2.2.2.2.1 fun b4 =>
 br (!b4) (
 some (.inr (0, [.b false]))) (
 some (.inl [.l (lL s1 0), .l (lL s1 1), .i (IntKind.wrap .i64 ((lI s1 2) + 1))]))) (
 some (.inr (1, [])))) [.l a, .l b, .i 0] fun (r5 : Nat × List Leaf) =>
 if r5.1 = 0 then
 k (lB r5.2 0)
 else
 k true)
def F54 : T54 := P54 F90
abbrev T27 : Type 1 := (β : Type) → List UInt8 → List V → List UInt8 → List V → (Bool → Option β) → Option β
def P27 (F54 : T54) : T27 := fun β a_Host a_Files b_Host b_Files k =>
 br (!(a_Host == b_Host)) (
 k false) (
 F54 _ a_Files b_Files fun b1 =>
 br (!b1) (
 k false) (
 k true))
def F27 : T27 := P27 F54
abbrev s27 : List (Bool × List CK) := [(true, [.str, .sl 7 true]), (true, [.str, .sl 7 true])]
def G27 (F : T27) (β : Type) (e : (List UInt8 × List V × Unit) × (List UInt8 × List V × Unit) × Unit) (k : V → Option β) : Option β := F β e.1.1 e.1.2.1 e.2.1.1 e.2.1.2.1 (fun y1 => k (.bool y1))
abbrev W27 (F : T27) : WT := wrap s27 (G27 F)
abbrev T8 : Type 1 := (β : Type) → List V → List V → (Bool → Option β) → Option β
def P8 (F27 : T27) : T8 := fun β a b k =>
 br ((a.length : Int) != (b.length : Int)) (
 k false) (
 whileK (fun s1 =>
 br (decide ((lI s1 2) < ((lL s1 0).length : Int))) (
 chk (0 ≤ (lI s1 2)) <|
 idx true [.str, .sl 7 true] (lL s1 0) ((lI s1 2).toNat) fun (e2 : List UInt8 × List V × Unit) =>
 chk (0 ≤ (lI s1 2)) <|
 idx true [.str, .sl 7 true] (lL s1 1) ((lI s1 2).toNat) fun (e3 : List UInt8 × List V × Unit) =>
 F27 _ e2.1 e2.2.1 e3.1 e3.2.1 fun b4 =>
 br (!b4) (
 some (.inr (0, [.b false]))) (
 some (.inl [.l (lL s1 0), .l (lL s1 1), .i (IntKind.wrap .i64 ((lI s1 2) + 1))]))) (
 some (.inr (1, [])))) [.l a, .l b, .i 0] fun (r5 : Nat × List Leaf) =>
 if r5.1 = 0 then
 k (lB r5.2 0)
 else
 k true)
def X8 : Exits := fun i => lookN i [] [(4, [(.ret, xk 27 [(4, .bool false)] []), (.exit 0, xk 27 [] [])])]
abbrev s8 : List (Bool × List CK) := [(false, [.sl 2 false]), (false, [.sl 2 false])]
def G8 (F : T8) (β : Type) (e : (List V × Unit) × (List V × Unit) × Unit) (k : V → Option β) : Option β := F β e.1.1 e.2.1.1 (fun y1 => k (.bool y1))
theorem k8 (F27 : T27) (β : Type) (e : argsT s8) (k : V → Option β) : fnK cfg (tabL [(27, W27 F27)]) X8 8 Try.f8 β (argsEnc s8 e) k = G8 (P8 F27 ) β e k := by kernel_rfl
abbrev T28 : Type 1 := (β : Type) → Int → (List UInt8 → Option β) → Option β
def P28 : T28 := fun β xk k =>
 br (decide (xk ≤ 0)) (
 k [109, 48]) (
 whileK (fun s1 =>
 br (decide ((lI s1 0) > 0)) (
 strO [.int .u8 (IntKind.wrap .u8 (IntKind.wrap .i64 (48 + (Int.tmod (lI s1 0) 10))))] fun t2 =>
 chk (t2.length + (lS s1 1).length ≤ 9223372036854775807) <|
 some (.inl [.i (IntKind.wrap .i64 (Int.tdiv (lI s1 0) 10)), .s (t2 ++ (lS s1 1))])) (
 some (.inr (0, [.s (lS s1 1)])))) [.i xk, .s []] fun (r3 : Nat × List Leaf) =>
 chk (([109] : List UInt8).length + (lS r3.2 0).length ≤ 9223372036854775807) <|
 k ([109] ++ (lS r3.2 0)))
def F28 : T28 := P28
def X28 : Exits := fun i => lookN i [] [(4, [(.exit 0, xk 20 [(3, .str [])] [])])]
abbrev s28 : List (Bool × List CK) := [(false, [.int .i64])]
def G28 (F : T28) (β : Type) (e : (Int × Unit) × Unit) (k : V → Option β) : Option β := F β e.1.1 (fun y1 => k (.str y1))
abbrev W28 (F : T28) : WT := wrap s28 (G28 F)
theorem k28 (β : Type) (e : argsT s28) (k : V → Option β) : fnK cfg (tabL []) X28 28 Try.f28 β (argsEnc s28 e) k = G28 (P28 ) β e k := by kernel_rfl
theorem ok28 : FnOk D 28 (W28 F28) := fn_okW [] X28 (fun _ => rfl) Try.func28 rfl (tabL_nil) (k28 )
end
end Go.Am

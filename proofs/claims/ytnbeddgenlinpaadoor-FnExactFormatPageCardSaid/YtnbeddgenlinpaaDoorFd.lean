/-
  Functions of the program, extracted by program (sym.py) out of their code: what each computes, and, by the kernel's reckoning, that the machine's looking form computes just that; so what the machine answers.
-/
import Derived.Test.YtnbeddgenlinpaaDoorAmCfg
import Derived.Test.YtnbeddgenlinpaaDoorAmEvOk2
import Derived.KernelRfl
set_option maxRecDepth 10000
set_option linter.unusedVariables false
namespace Go.Am
open Go Go.Proofs
noncomputable section
abbrev WT : Type 1 := (β : Type) → List V → (V → Option β) → Option β
/-- laws.szResponse -/
abbrev T7 : Type 1 := (β : Type) → Int → Int → List UInt8 → Int → Bool → List UInt8 → Int → (Int → Option β) → Option β
def P7 : T7 := fun β a_Status a_Kind a_Body a_Age a_Shares a_Policy left k =>
 br (decide (IntKind.wrap .i64 (left - (a_Body.length : Int)) < 0)) (
 k (-1)) (
 br (decide (IntKind.wrap .i64 ((IntKind.wrap .i64 (left - (a_Body.length : Int))) - (a_Policy.length : Int)) < 0)) (
 k (-1)) (
 k (IntKind.wrap .i64 ((IntKind.wrap .i64 (left - (a_Body.length : Int))) - (a_Policy.length : Int)))))
def F7 : T7 := P7 
abbrev s7 : List (Bool × List CK) := [(true, [.int .i64, .int .i64, .str, .int .i64, .bool, .str]), (false, [.int .i64])]
def G7 (F : T7) (β : Type) (e : (Int × Int × List UInt8 × Int × Bool × List UInt8 × Unit) × (Int × Unit) × Unit) (k : V → Option β) : Option β := let a0_0 := e.1; let a0_1 := a0_0.2; let a0_2 := a0_1.2; let a0_3 := a0_2.2; let a0_4 := a0_3.2; let a0_5 := a0_4.2; F β a0_0.1 a0_1.1 a0_2.1 a0_3.1 a0_4.1 a0_5.1 e.2.1.1 (fun y1 => k (.int .i64 y1))
abbrev W7 (F : T7) : WT := wrap s7 (G7 F)
theorem k7 (β : Type) (e : argsT s7) (k : V → Option β) : fnK cfg (tabL []) noX 7 Tryd.f7 β (argsEnc s7 e) k = G7 (P7 ) β e k := by kernel_rfl
theorem ok7 : FnOk D 7 (W7 F7) := fn_okW [] noX (fun _ => rfl) Tryd.func7 rfl (tabL_nil) (k7 )

/-- laws.toResponse -/
abbrev T9 : Type 1 := (β : Type) → Int → Int → List UInt8 → Int → Bool → List UInt8 → (Int → Int → List UInt8 → Int → Bool → List UInt8 → Option β) → Option β
def P9 : T9 := fun β a_Status a_Kind a_Body a_Age a_Shares a_Policy k =>
 k a_Status a_Kind a_Body a_Age a_Shares a_Policy
def F9 : T9 := P9 
abbrev s9 : List (Bool × List CK) := [(true, [.int .i64, .int .i64, .str, .int .i64, .bool, .str])]
def G9 (F : T9) (β : Type) (e : (Int × Int × List UInt8 × Int × Bool × List UInt8 × Unit) × Unit) (k : V → Option β) : Option β := let a0_0 := e.1; let a0_1 := a0_0.2; let a0_2 := a0_1.2; let a0_3 := a0_2.2; let a0_4 := a0_3.2; let a0_5 := a0_4.2; F β a0_0.1 a0_1.1 a0_2.1 a0_3.1 a0_4.1 a0_5.1 (fun y1 y2 y3 y4 y5 y6 => k (.agg [.int .i64 y1, .int .i64 y2, .str y3, .int .i64 y4, .bool y5, .str y6]))
abbrev W9 (F : T9) : WT := wrap s9 (G9 F)
theorem k9 (β : Type) (e : argsT s9) (k : V → Option β) : fnK cfg (tabL []) noX 9 Tryd.f9 β (argsEnc s9 e) k = G9 (P9 ) β e k := by kernel_rfl
theorem ok9 : FnOk D 9 (W9 F9) := fn_okW [] noX (fun _ => rfl) Tryd.func9 rfl (tabL_nil) (k9 )

/-- spec.l1In -/
abbrev T74 : Type 1 := (β : Type) → Int → Int → Int → (Bool → Option β) → Option β
def P74 : T74 := fun β x least most k =>
 br (decide (x ≥ least)) (
 k (decide (x ≤ most))) (
 k false)
def F74 : T74 := P74 
abbrev s74 : List (Bool × List CK) := [(false, [.int .i64]), (false, [.int .i64]), (false, [.int .i64])]
def G74 (F : T74) (β : Type) (e : (Int × Unit) × (Int × Unit) × (Int × Unit) × Unit) (k : V → Option β) : Option β := F β e.1.1 e.2.1.1 e.2.2.1.1 (fun y1 => k (.bool y1))
abbrev W74 (F : T74) : WT := wrap s74 (G74 F)
theorem k74 (β : Type) (e : argsT s74) (k : V → Option β) : fnK cfg (tabL []) noX 74 Tryd.f74 β (argsEnc s74 e) k = G74 (P74 ) β e k := by kernel_rfl
theorem ok74 : FnOk D 74 (W74 F74) := fn_okW [] noX (fun _ => rfl) Tryd.func74 rfl (tabL_nil) (k74 )

/-- spec.KindName -/
abbrev T26 : Type 1 := (β : Type) → Int → (List UInt8 → Option β) → Option β
def P26 (F74 : T74) : T26 := fun β kind k =>
 F74 _ kind 1 5 fun b1 =>
 br (!b1) (
 k []) (
 chk (0 ≤ kind ∧ kind.toNat < ([.str [], .str [112, 97, 103, 101], .str [115, 99, 114, 105, 112, 116], .str [115, 116, 121, 108, 101], .str [105, 109, 97, 103, 101], .str [109, 111, 100, 117, 108, 101]] : List V).length) <|
 idxAt [.str] [.str [], .str [112, 97, 103, 101], .str [115, 99, 114, 105, 112, 116], .str [115, 116, 121, 108, 101], .str [105, 109, 97, 103, 101], .str [109, 111, 100, 117, 108, 101]] kind.toNat 0 fun (e2 : List UInt8 × Unit) =>
 k e2.1)
def F26 : T26 := P26 F74 
abbrev s26 : List (Bool × List CK) := [(false, [.int .i64])]
def G26 (F : T26) (β : Type) (e : (Int × Unit) × Unit) (k : V → Option β) : Option β := F β e.1.1 (fun y1 => k (.str y1))
abbrev W26 (F : T26) : WT := wrap s26 (G26 F)
theorem k26 (F74 : T74) (β : Type) (e : argsT s26) (k : V → Option β) : fnK cfg (tabL [(74, W74 F74)]) noX 26 Tryd.f26 β (argsEnc s26 e) k = G26 (P26 F74 ) β e k := by kernel_rfl
theorem ok26 : FnOk D 26 (W26 F26) := fn_okW [(74, W74 F74)] noX (fun _ => rfl) Tryd.func26 rfl (tabL_cons ok74 tabL_nil) (k26 F74 )

/-- spec.FormatInt -/
abbrev T27 : Type 1 := (β : Type) → Int → (List UInt8 → Option β) → Option β
def P27 : T27 := fun β n k =>
 br (n == 0) (
 k [48]) (
 whileK (fun s1 =>
 br ((lI s1 2) != 0) (
 br (decide (Int.tmod (lI s1 2) 10 < 0)) (
 strO [.int .u8 (IntKind.wrap .u8 (IntKind.wrap .i64 (48 + (IntKind.wrap .i64 (0 - (Int.tmod (lI s1 2) 10))))))] fun t2 =>
 chk (t2.length + (lS s1 1).length ≤ 9223372036854775807) <|
 some (.inl [.i (lI s1 0), .s (t2 ++ (lS s1 1)), .i (IntKind.wrap .i64 (Int.tdiv (lI s1 2) 10))])) (
 strO [.int .u8 (IntKind.wrap .u8 (IntKind.wrap .i64 (48 + (Int.tmod (lI s1 2) 10))))] fun t3 =>
 chk (t3.length + (lS s1 1).length ≤ 9223372036854775807) <|
 some (.inl [.i (lI s1 0), .s (t3 ++ (lS s1 1)), .i (IntKind.wrap .i64 (Int.tdiv (lI s1 2) 10))]))) (
 some (.inr (0, [.i (lI s1 0), .s (lS s1 1)])))) [.i n, .s [], .i n] fun (r4 : Nat × List Leaf) =>
 br (decide ((lI r4.2 0) < 0)) (
 chk (([45] : List UInt8).length + (lS r4.2 1).length ≤ 9223372036854775807) <|
 k ([45] ++ (lS r4.2 1))) (
 k (lS r4.2 1)))
def F27 : T27 := P27 
def X27 : Exits := fun i => lookN i [] [(5, [(.exit 0, xk 31 [(0, .int .i64 0), (3, .str [])] [])])]
abbrev s27 : List (Bool × List CK) := [(false, [.int .i64])]
def G27 (F : T27) (β : Type) (e : (Int × Unit) × Unit) (k : V → Option β) : Option β := F β e.1.1 (fun y1 => k (.str y1))
abbrev W27 (F : T27) : WT := wrap s27 (G27 F)
theorem k27 (β : Type) (e : argsT s27) (k : V → Option β) : fnK cfg (tabL []) X27 27 Tryd.f27 β (argsEnc s27 e) k = G27 (P27 ) β e k := by kernel_rfl
theorem ok27 : FnOk D 27 (W27 F27) := fn_okW [] X27 (fun _ => rfl) Tryd.func27 rfl (tabL_nil) (k27 )

/-- spec.FormatResponse -/
abbrev T8 : Type 1 := (β : Type) → Int → Int → List UInt8 → Int → Bool → List UInt8 → (List UInt8 → Option β) → Option β
def P8 (F26 : T26) (F27 : T27) : T8 := fun β x_Status x_Kind x_Body x_Age x_Shares x_Policy k =>
 F26 _ x_Kind fun t1 =>
 br (t1 == []) (
 F27 _ x_Status fun t2 =>
 chk (t2.length + ([32] : List UInt8).length ≤ 9223372036854775807) <|
 chk ((t2 ++ [32]).length + ([45] : List UInt8).length ≤ 9223372036854775807) <|
 chk (((t2 ++ [32]) ++ [45]).length + ([32] : List UInt8).length ≤ 9223372036854775807) <|
 F27 _ (x_Body.length : Int) fun t3 =>
 chk ((((t2 ++ [32]) ++ [45]) ++ [32]).length + t3.length ≤ 9223372036854775807) <|
 br x_Shares (
 chk (((((t2 ++ [32]) ++ [45]) ++ [32]) ++ t3).length + ([32, 115, 104, 97, 114, 101, 115] : List UInt8).length ≤ 9223372036854775807) <|
 k (((((t2 ++ [32]) ++ [45]) ++ [32]) ++ t3) ++ [32, 115, 104, 97, 114, 101, 115])) (
 k ((((t2 ++ [32]) ++ [45]) ++ [32]) ++ t3))) (
 F27 _ x_Status fun t4 =>
 chk (t4.length + ([32] : List UInt8).length ≤ 9223372036854775807) <|
 chk ((t4 ++ [32]).length + t1.length ≤ 9223372036854775807) <|
 chk (((t4 ++ [32]) ++ t1).length + ([32] : List UInt8).length ≤ 9223372036854775807) <|
 F27 _ (x_Body.length : Int) fun t5 =>
 chk ((((t4 ++ [32]) ++ t1) ++ [32]).length + t5.length ≤ 9223372036854775807) <|
 br x_Shares (
 chk (((((t4 ++ [32]) ++ t1) ++ [32]) ++ t5).length + ([32, 115, 104, 97, 114, 101, 115] : List UInt8).length ≤ 9223372036854775807) <|
 k (((((t4 ++ [32]) ++ t1) ++ [32]) ++ t5) ++ [32, 115, 104, 97, 114, 101, 115])) (
 k ((((t4 ++ [32]) ++ t1) ++ [32]) ++ t5)))
def F8 : T8 := P8 F26 F27 
abbrev s8 : List (Bool × List CK) := [(true, [.int .i64, .int .i64, .str, .int .i64, .bool, .str])]
def G8 (F : T8) (β : Type) (e : (Int × Int × List UInt8 × Int × Bool × List UInt8 × Unit) × Unit) (k : V → Option β) : Option β := let a0_0 := e.1; let a0_1 := a0_0.2; let a0_2 := a0_1.2; let a0_3 := a0_2.2; let a0_4 := a0_3.2; let a0_5 := a0_4.2; F β a0_0.1 a0_1.1 a0_2.1 a0_3.1 a0_4.1 a0_5.1 (fun y1 => k (.str y1))
abbrev W8 (F : T8) : WT := wrap s8 (G8 F)
theorem k8 (F26 : T26) (F27 : T27) (β : Type) (e : argsT s8) (k : V → Option β) : fnK cfg (tabL [(26, W26 F26), (27, W27 F27)]) noX 8 Tryd.f8 β (argsEnc s8 e) k = G8 (P8 F26 F27 ) β e k := by kernel_rfl
theorem ok8 : FnOk D 8 (W8 F8) := fn_okW [(26, W26 F26), (27, W27 F27)] noX (fun _ => rfl) Tryd.func8 rfl (tabL_cons ok26 (tabL_cons ok27 tabL_nil)) (k8 F26 F27 )

/-- impl.InRange -/
abbrev T75 : Type 1 := (β : Type) → Int → Int → Int → (Bool → Option β) → Option β
def P75 : T75 := fun β n low high k =>
 br (decide (low ≤ n)) (
 k (decide (n ≤ high))) (
 k false)
def F75 : T75 := P75 
abbrev s75 : List (Bool × List CK) := [(false, [.int .i64]), (false, [.int .i64]), (false, [.int .i64])]
def G75 (F : T75) (β : Type) (e : (Int × Unit) × (Int × Unit) × (Int × Unit) × Unit) (k : V → Option β) : Option β := F β e.1.1 e.2.1.1 e.2.2.1.1 (fun y1 => k (.bool y1))
abbrev W75 (F : T75) : WT := wrap s75 (G75 F)
theorem k75 (β : Type) (e : argsT s75) (k : V → Option β) : fnK cfg (tabL []) noX 75 Tryd.f75 β (argsEnc s75 e) k = G75 (P75 ) β e k := by kernel_rfl
theorem ok75 : FnOk D 75 (W75 F75) := fn_okW [] noX (fun _ => rfl) Tryd.func75 rfl (tabL_nil) (k75 )

/-- impl.KindName -/
abbrev T28 : Type 1 := (β : Type) → Int → (List UInt8 → Option β) → Option β
def P28 (F75 : T75) : T28 := fun β kind k =>
 F75 _ kind 1 5 fun b1 =>
 br (!b1) (
 k []) (
 chk (0 ≤ IntKind.wrap .i64 (kind - 1) ∧ (IntKind.wrap .i64 (kind - 1)).toNat < ([.str [112, 97, 103, 101], .str [115, 99, 114, 105, 112, 116], .str [115, 116, 121, 108, 101], .str [105, 109, 97, 103, 101], .str [109, 111, 100, 117, 108, 101]] : List V).length) <|
 idxAt [.str] [.str [112, 97, 103, 101], .str [115, 99, 114, 105, 112, 116], .str [115, 116, 121, 108, 101], .str [105, 109, 97, 103, 101], .str [109, 111, 100, 117, 108, 101]] ((IntKind.wrap .i64 (kind - 1)).toNat) 0 fun (e2 : List UInt8 × Unit) =>
 k e2.1)
def F28 : T28 := P28 F75 
abbrev s28 : List (Bool × List CK) := [(false, [.int .i64])]
def G28 (F : T28) (β : Type) (e : (Int × Unit) × Unit) (k : V → Option β) : Option β := F β e.1.1 (fun y1 => k (.str y1))
abbrev W28 (F : T28) : WT := wrap s28 (G28 F)
theorem k28 (F75 : T75) (β : Type) (e : argsT s28) (k : V → Option β) : fnK cfg (tabL [(75, W75 F75)]) noX 28 Tryd.f28 β (argsEnc s28 e) k = G28 (P28 F75 ) β e k := by kernel_rfl
theorem ok28 : FnOk D 28 (W28 F28) := fn_okW [(75, W75 F75)] noX (fun _ => rfl) Tryd.func28 rfl (tabL_cons ok75 tabL_nil) (k28 F75 )

/-- strconv.Itoa -/
abbrev T76 : Type 1 := (β : Type) → Int → (List UInt8 → Option β) → Option β
def F76 : T76 := itoaK
abbrev s76 : List (Bool × List CK) := [(false, [.int .i64])]
def G76 (F : T76) (β : Type) (e : (Int × Unit) × Unit) (k : V → Option β) : Option β := F β e.1.1 (fun y1 => k (.str y1))
abbrev W76 (F : T76) : WT := wrap s76 (G76 F)
theorem ok76 : FnOk D 76 (W76 F76) := ok_itoa (fun _ => rfl)

/-- impl.FormatInt -/
abbrev T29 : Type 1 := (β : Type) → Int → (List UInt8 → Option β) → Option β
def P29 (F76 : T76) : T29 := fun β n k =>
 F76 _ n fun t1 =>
 k t1
def F29 : T29 := P29 F76 
abbrev s29 : List (Bool × List CK) := [(false, [.int .i64])]
def G29 (F : T29) (β : Type) (e : (Int × Unit) × Unit) (k : V → Option β) : Option β := F β e.1.1 (fun y1 => k (.str y1))
abbrev W29 (F : T29) : WT := wrap s29 (G29 F)
theorem k29 (F76 : T76) (β : Type) (e : argsT s29) (k : V → Option β) : fnK cfg (tabL [(76, W76 F76)]) noX 29 Tryd.f29 β (argsEnc s29 e) k = G29 (P29 F76 ) β e k := by kernel_rfl
theorem ok29 : FnOk D 29 (W29 F29) := fn_okW [(76, W76 F76)] noX (fun _ => rfl) Tryd.func29 rfl (tabL_cons ok76 tabL_nil) (k29 F76 )

/-- impl.FormatResponse -/
abbrev T10 : Type 1 := (β : Type) → Int → Int → List UInt8 → Int → Bool → List UInt8 → (List UInt8 → Option β) → Option β
def P10 (F28 : T28) (F29 : T29) : T10 := fun β x_Status x_Kind x_Body x_Age x_Shares x_Policy k =>
 F28 _ x_Kind fun t1 =>
 br (t1 == []) (
 F29 _ x_Status fun t2 =>
 chk (t2.length + ([32] : List UInt8).length ≤ 9223372036854775807) <|
 chk ((t2 ++ [32]).length + ([45] : List UInt8).length ≤ 9223372036854775807) <|
 chk (((t2 ++ [32]) ++ [45]).length + ([32] : List UInt8).length ≤ 9223372036854775807) <|
 F29 _ (x_Body.length : Int) fun t3 =>
 chk ((((t2 ++ [32]) ++ [45]) ++ [32]).length + t3.length ≤ 9223372036854775807) <|
 br x_Shares (
 chk (((((t2 ++ [32]) ++ [45]) ++ [32]) ++ t3).length + ([32, 115, 104, 97, 114, 101, 115] : List UInt8).length ≤ 9223372036854775807) <|
 k (((((t2 ++ [32]) ++ [45]) ++ [32]) ++ t3) ++ [32, 115, 104, 97, 114, 101, 115])) (
 k ((((t2 ++ [32]) ++ [45]) ++ [32]) ++ t3))) (
 F29 _ x_Status fun t4 =>
 chk (t4.length + ([32] : List UInt8).length ≤ 9223372036854775807) <|
 chk ((t4 ++ [32]).length + t1.length ≤ 9223372036854775807) <|
 chk (((t4 ++ [32]) ++ t1).length + ([32] : List UInt8).length ≤ 9223372036854775807) <|
 F29 _ (x_Body.length : Int) fun t5 =>
 chk ((((t4 ++ [32]) ++ t1) ++ [32]).length + t5.length ≤ 9223372036854775807) <|
 br x_Shares (
 chk (((((t4 ++ [32]) ++ t1) ++ [32]) ++ t5).length + ([32, 115, 104, 97, 114, 101, 115] : List UInt8).length ≤ 9223372036854775807) <|
 k (((((t4 ++ [32]) ++ t1) ++ [32]) ++ t5) ++ [32, 115, 104, 97, 114, 101, 115])) (
 k ((((t4 ++ [32]) ++ t1) ++ [32]) ++ t5)))
def F10 : T10 := P10 F28 F29 
abbrev s10 : List (Bool × List CK) := [(true, [.int .i64, .int .i64, .str, .int .i64, .bool, .str])]
def G10 (F : T10) (β : Type) (e : (Int × Int × List UInt8 × Int × Bool × List UInt8 × Unit) × Unit) (k : V → Option β) : Option β := let a0_0 := e.1; let a0_1 := a0_0.2; let a0_2 := a0_1.2; let a0_3 := a0_2.2; let a0_4 := a0_3.2; let a0_5 := a0_4.2; F β a0_0.1 a0_1.1 a0_2.1 a0_3.1 a0_4.1 a0_5.1 (fun y1 => k (.str y1))
abbrev W10 (F : T10) : WT := wrap s10 (G10 F)
theorem k10 (F28 : T28) (F29 : T29) (β : Type) (e : argsT s10) (k : V → Option β) : fnK cfg (tabL [(28, W28 F28), (29, W29 F29)]) noX 10 Tryd.f10 β (argsEnc s10 e) k = G10 (P10 F28 F29 ) β e k := by kernel_rfl
theorem ok10 : FnOk D 10 (W10 F10) := fn_okW [(28, W28 F28), (29, W29 F29)] noX (fun _ => rfl) Tryd.func10 rfl (tabL_cons ok28 (tabL_cons ok29 tabL_nil)) (k10 F28 F29 )

/-- laws.FnExactFormatResponse -/
abbrev T3 : Type 1 := (β : Type) → Int → Int → List UInt8 → Int → Bool → List UInt8 → (Bool → Option β) → Option β
def P3 (F7 : T7) (F9 : T9) (F8 : T8) (F10 : T10) : T3 := fun β aX_Status aX_Kind aX_Body aX_Age aX_Shares aX_Policy k =>
 F7 _ aX_Status aX_Kind aX_Body aX_Age aX_Shares aX_Policy 1048576 fun n1 =>
 br (decide (n1 < 0)) (
 k true) (
 F9 _ aX_Status aX_Kind aX_Body aX_Age aX_Shares aX_Policy fun n2 n3 t4 n5 b6 t7 =>
 F8 _ n2 n3 t4 n5 b6 t7 fun t8 =>
 F9 _ aX_Status aX_Kind aX_Body aX_Age aX_Shares aX_Policy fun n9 n10 t11 n12 b13 t14 =>
 F10 _ n9 n10 t11 n12 b13 t14 fun t15 =>
 br (!(t15 == t8)) (
 k false) (
 k true))
def F3 : T3 := P3 F7 F9 F8 F10 
abbrev s3 : List (Bool × List CK) := [(true, [.int .i64, .int .i64, .str, .int .i64, .bool, .str])]
def G3 (F : T3) (β : Type) (e : (Int × Int × List UInt8 × Int × Bool × List UInt8 × Unit) × Unit) (k : V → Option β) : Option β := let a0_0 := e.1; let a0_1 := a0_0.2; let a0_2 := a0_1.2; let a0_3 := a0_2.2; let a0_4 := a0_3.2; let a0_5 := a0_4.2; F β a0_0.1 a0_1.1 a0_2.1 a0_3.1 a0_4.1 a0_5.1 (fun y1 => k (.bool y1))
abbrev W3 (F : T3) : WT := wrap s3 (G3 F)
theorem k3 (F7 : T7) (F9 : T9) (F8 : T8) (F10 : T10) (β : Type) (e : argsT s3) (k : V → Option β) : fnK cfg (tabL [(7, W7 F7), (9, W9 F9), (8, W8 F8), (10, W10 F10)]) noX 3 Tryd.f3 β (argsEnc s3 e) k = G3 (P3 F7 F9 F8 F10 ) β e k := by kernel_rfl
theorem ok3 : FnOk D 3 (W3 F3) := fn_okW [(7, W7 F7), (9, W9 F9), (8, W8 F8), (10, W10 F10)] noX (fun _ => rfl) Tryd.func3 rfl (tabL_cons ok7 (tabL_cons ok9 (tabL_cons ok8 (tabL_cons ok10 tabL_nil)))) (k3 F7 F9 F8 F10 )

/-- laws.szAddr -/
abbrev T43 : Type 1 := (β : Type) → List UInt8 → List UInt8 → Int → (Int → Option β) → Option β
def P43 : T43 := fun β a_Host a_Path left k =>
 br (decide (IntKind.wrap .i64 (left - (a_Host.length : Int)) < 0)) (
 k (-1)) (
 br (decide (IntKind.wrap .i64 ((IntKind.wrap .i64 (left - (a_Host.length : Int))) - (a_Path.length : Int)) < 0)) (
 k (-1)) (
 k (IntKind.wrap .i64 ((IntKind.wrap .i64 (left - (a_Host.length : Int))) - (a_Path.length : Int)))))
def F43 : T43 := P43 
abbrev s43 : List (Bool × List CK) := [(true, [.str, .str]), (false, [.int .i64])]
def G43 (F : T43) (β : Type) (e : (List UInt8 × List UInt8 × Unit) × (Int × Unit) × Unit) (k : V → Option β) : Option β := F β e.1.1 e.1.2.1 e.2.1.1 (fun y1 => k (.int .i64 y1))
abbrev W43 (F : T43) : WT := wrap s43 (G43 F)
theorem k43 (β : Type) (e : argsT s43) (k : V → Option β) : fnK cfg (tabL []) noX 43 Tryd.f43 β (argsEnc s43 e) k = G43 (P43 ) β e k := by kernel_rfl
theorem ok43 : FnOk D 43 (W43 F43) := fn_okW [] noX (fun _ => rfl) Tryd.func43 rfl (tabL_nil) (k43 )

/-- laws.szEntry -/
abbrev T77 : Type 1 := (β : Type) → List UInt8 → List UInt8 → List UInt8 → Int → Int → List UInt8 → Int → Bool → List UInt8 → Int → Int → (Int → Option β) → Option β
def P77 (F43 : T43) (F7 : T7) : T77 := fun β a_Top a_To_Host a_To_Path a_Response_Status a_Response_Kind a_Response_Body a_Response_Age a_Response_Shares a_Response_Policy a_Until left k =>
 br (decide (IntKind.wrap .i64 (left - (a_Top.length : Int)) < 0)) (
 k (-1)) (
 F43 _ a_To_Host a_To_Path (IntKind.wrap .i64 (left - (a_Top.length : Int))) fun n1 =>
 br (decide (n1 < 0)) (
 k (-1)) (
 F7 _ a_Response_Status a_Response_Kind a_Response_Body a_Response_Age a_Response_Shares a_Response_Policy n1 fun n2 =>
 br (decide (n2 < 0)) (
 k (-1)) (
 k n2)))
def F77 : T77 := P77 F43 F7 
abbrev s77 : List (Bool × List CK) := [(true, [.str, .str, .str, .int .i64, .int .i64, .str, .int .i64, .bool, .str, .int .i64]), (false, [.int .i64])]
def G77 (F : T77) (β : Type) (e : (List UInt8 × List UInt8 × List UInt8 × Int × Int × List UInt8 × Int × Bool × List UInt8 × Int × Unit) × (Int × Unit) × Unit) (k : V → Option β) : Option β := let a0_0 := e.1; let a0_1 := a0_0.2; let a0_2 := a0_1.2; let a0_3 := a0_2.2; let a0_4 := a0_3.2; let a0_5 := a0_4.2; let a0_6 := a0_5.2; let a0_7 := a0_6.2; let a0_8 := a0_7.2; let a0_9 := a0_8.2; F β a0_0.1 a0_1.1 a0_2.1 a0_3.1 a0_4.1 a0_5.1 a0_6.1 a0_7.1 a0_8.1 a0_9.1 e.2.1.1 (fun y1 => k (.int .i64 y1))
abbrev W77 (F : T77) : WT := wrap s77 (G77 F)
theorem k77 (F43 : T43) (F7 : T7) (β : Type) (e : argsT s77) (k : V → Option β) : fnK cfg (tabL [(43, W43 F43), (7, W7 F7)]) noX 77 Tryd.f77 β (argsEnc s77 e) k = G77 (P77 F43 F7 ) β e k := by kernel_rfl
theorem ok77 : FnOk D 77 (W77 F77) := fn_okW [(43, W43 F43), (7, W7 F7)] noX (fun _ => rfl) Tryd.func77 rfl (tabL_cons ok43 (tabL_cons ok7 tabL_nil)) (k77 F43 F7 )

/-- laws.szEntryS -/
abbrev T30 : Type 1 := (β : Type) → List V → Int → (Int → Option β) → Option β
def P30 (F77 : T77) : T30 := fun β a left k =>
 br (decide (IntKind.wrap .i64 (left - (a.length : Int)) < 0)) (
 k (-1)) (
 whileK (fun s1 =>
 br (decide ((lI s1 2) < ((lL s1 0).length : Int))) (
 chk (0 ≤ (lI s1 2)) <|
 idx true [.str, .str, .str, .int .i64, .int .i64, .str, .int .i64, .bool, .str, .int .i64] (lL s1 0) ((lI s1 2).toNat) fun (e2 : List UInt8 × List UInt8 × List UInt8 × Int × Int × List UInt8 × Int × Bool × List UInt8 × Int × Unit) =>
 F77 _ e2.1 e2.2.1 e2.2.2.1 e2.2.2.2.1 e2.2.2.2.2.1 e2.2.2.2.2.2.1 e2.2.2.2.2.2.2.1 e2.2.2.2.2.2.2.2.1 e2.2.2.2.2.2.2.2.2.1 e2.2.2.2.2.2.2.2.2.2.1 (lI s1 1) fun n3 =>
 br (decide (n3 < 0)) (
 some (.inr (0, [.i n3, .i (-1)]))) (
 some (.inl [.l (lL s1 0), .i n3, .i (IntKind.wrap .i64 ((lI s1 2) + 1))]))) (
 some (.inr (1, [.i (lI s1 1)])))) [.l a, .i (IntKind.wrap .i64 (left - (a.length : Int))), .i 0] fun (r4 : Nat × List Leaf) =>
 if r4.1 = 0 then
 k (lI r4.2 1)
 else
 k (lI r4.2 0))
def F30 : T30 := P30 F77 
def X30 : Exits := fun i => lookN i [] [(5, [(.ret, xk 27 [(1, .int .i64 0), (4, .int .i64 0)] []), (.exit 0, xk 27 [(1, .int .i64 0)] [])])]
abbrev s30 : List (Bool × List CK) := [(false, [.sl 10 true]), (false, [.int .i64])]
def G30 (F : T30) (β : Type) (e : (List V × Unit) × (Int × Unit) × Unit) (k : V → Option β) : Option β := F β e.1.1 e.2.1.1 (fun y1 => k (.int .i64 y1))
abbrev W30 (F : T30) : WT := wrap s30 (G30 F)
theorem k30 (F77 : T77) (β : Type) (e : argsT s30) (k : V → Option β) : fnK cfg (tabL [(77, W77 F77)]) X30 30 Tryd.f30 β (argsEnc s30 e) k = G30 (P30 F77 ) β e k := by kernel_rfl
theorem ok30 : FnOk D 30 (W30 F30) := fn_okW [(77, W77 F77)] X30 (fun _ => rfl) Tryd.func30 rfl (tabL_cons ok77 tabL_nil) (k30 F77 )

/-- laws.szCache -/
abbrev T11 : Type 1 := (β : Type) → List V → Int → (Int → Option β) → Option β
def P11 (F30 : T30) : T11 := fun β a_Entries left k =>
 F30 _ a_Entries left fun n1 =>
 br (decide (n1 < 0)) (
 k (-1)) (
 k n1)
def F11 : T11 := P11 F30 
abbrev s11 : List (Bool × List CK) := [(true, [.sl 10 true]), (false, [.int .i64])]
def G11 (F : T11) (β : Type) (e : (List V × Unit) × (Int × Unit) × Unit) (k : V → Option β) : Option β := F β e.1.1 e.2.1.1 (fun y1 => k (.int .i64 y1))
abbrev W11 (F : T11) : WT := wrap s11 (G11 F)
theorem k11 (F30 : T30) (β : Type) (e : argsT s11) (k : V → Option β) : fnK cfg (tabL [(30, W30 F30)]) noX 11 Tryd.f11 β (argsEnc s11 e) k = G11 (P11 F30 ) β e k := by kernel_rfl
theorem ok11 : FnOk D 11 (W11 F11) := fn_okW [(30, W30 F30)] noX (fun _ => rfl) Tryd.func11 rfl (tabL_cons ok30 tabL_nil) (k11 F30 )

/-- laws.toAddr -/
abbrev T54 : Type 1 := (β : Type) → List UInt8 → List UInt8 → (List UInt8 → List UInt8 → Option β) → Option β
def P54 : T54 := fun β a_Host a_Path k =>
 k a_Host a_Path
def F54 : T54 := P54 
abbrev s54 : List (Bool × List CK) := [(true, [.str, .str])]
def G54 (F : T54) (β : Type) (e : (List UInt8 × List UInt8 × Unit) × Unit) (k : V → Option β) : Option β := F β e.1.1 e.1.2.1 (fun y1 y2 => k (.agg [.str y1, .str y2]))
abbrev W54 (F : T54) : WT := wrap s54 (G54 F)
theorem k54 (β : Type) (e : argsT s54) (k : V → Option β) : fnK cfg (tabL []) noX 54 Tryd.f54 β (argsEnc s54 e) k = G54 (P54 ) β e k := by kernel_rfl
theorem ok54 : FnOk D 54 (W54 F54) := fn_okW [] noX (fun _ => rfl) Tryd.func54 rfl (tabL_nil) (k54 )

/-- laws.toEntry -/
abbrev T78 : Type 1 := (β : Type) → List UInt8 → List UInt8 → List UInt8 → Int → Int → List UInt8 → Int → Bool → List UInt8 → Int → (List UInt8 → List UInt8 → List UInt8 → Int → Int → List UInt8 → Int → Bool → List UInt8 → Int → Option β) → Option β
def P78 (F54 : T54) (F9 : T9) : T78 := fun β a_Top a_To_Host a_To_Path a_Response_Status a_Response_Kind a_Response_Body a_Response_Age a_Response_Shares a_Response_Policy a_Until k =>
 F54 _ a_To_Host a_To_Path fun t1 t2 =>
 F9 _ a_Response_Status a_Response_Kind a_Response_Body a_Response_Age a_Response_Shares a_Response_Policy fun n3 n4 t5 n6 b7 t8 =>
 k a_Top t1 t2 n3 n4 t5 n6 b7 t8 a_Until
def F78 : T78 := P78 F54 F9 
abbrev s78 : List (Bool × List CK) := [(true, [.str, .str, .str, .int .i64, .int .i64, .str, .int .i64, .bool, .str, .int .i64])]
def G78 (F : T78) (β : Type) (e : (List UInt8 × List UInt8 × List UInt8 × Int × Int × List UInt8 × Int × Bool × List UInt8 × Int × Unit) × Unit) (k : V → Option β) : Option β := let a0_0 := e.1; let a0_1 := a0_0.2; let a0_2 := a0_1.2; let a0_3 := a0_2.2; let a0_4 := a0_3.2; let a0_5 := a0_4.2; let a0_6 := a0_5.2; let a0_7 := a0_6.2; let a0_8 := a0_7.2; let a0_9 := a0_8.2; F β a0_0.1 a0_1.1 a0_2.1 a0_3.1 a0_4.1 a0_5.1 a0_6.1 a0_7.1 a0_8.1 a0_9.1 (fun y1 y2 y3 y4 y5 y6 y7 y8 y9 y10 => k (.agg [.str y1, .str y2, .str y3, .int .i64 y4, .int .i64 y5, .str y6, .int .i64 y7, .bool y8, .str y9, .int .i64 y10]))
abbrev W78 (F : T78) : WT := wrap s78 (G78 F)
theorem k78 (F54 : T54) (F9 : T9) (β : Type) (e : argsT s78) (k : V → Option β) : fnK cfg (tabL [(54, W54 F54), (9, W9 F9)]) noX 78 Tryd.f78 β (argsEnc s78 e) k = G78 (P78 F54 F9 ) β e k := by kernel_rfl
theorem ok78 : FnOk D 78 (W78 F78) := fn_okW [(54, W54 F54), (9, W9 F9)] noX (fun _ => rfl) Tryd.func78 rfl (tabL_cons ok54 (tabL_cons ok9 tabL_nil)) (k78 F54 F9 )

/-- laws.toEntryS -/
abbrev T32 : Type 1 := (β : Type) → List V → (List V → Option β) → Option β
def P32 (F78 : T78) : T32 := fun β a k =>
 chk (0 ≤ (a.length : Int) ∧ (a.length : Int) ≤ (a.length : Int) ∧ (a.length : Int) * 120 ≤ 140737488355328 ∧ (a.length : Int) ≤ 140737488355328) <|
 whileK (fun s1 =>
 br (decide ((lI s1 2) < ((lL s1 0).length : Int))) (
 chk (0 ≤ (lI s1 2)) <|
 idx true [.str, .str, .str, .int .i64, .int .i64, .str, .int .i64, .bool, .str, .int .i64] (lL s1 0) ((lI s1 2).toNat) fun (e2 : List UInt8 × List UInt8 × List UInt8 × Int × Int × List UInt8 × Int × Bool × List UInt8 × Int × Unit) =>
 F78 _ e2.1 e2.2.1 e2.2.2.1 e2.2.2.2.1 e2.2.2.2.2.1 e2.2.2.2.2.2.1 e2.2.2.2.2.2.2.1 e2.2.2.2.2.2.2.2.1 e2.2.2.2.2.2.2.2.2.1 e2.2.2.2.2.2.2.2.2.2.1 fun t3 t4 t5 n6 n7 t8 n9 b10 t11 n12 =>
 chk (0 ≤ (lI s1 2) ∧ (lI s1 2).toNat < (lL s1 1).length) <|
 storeO (lL s1 1) ((lI s1 2).toNat) 0 [.str t3, .str t4, .str t5, .int .i64 n6, .int .i64 n7, .str t8, .int .i64 n9, .bool b10, .str t11, .int .i64 n12] fun l13 =>
 some (.inl [.l (lL s1 0), .l l13, .i (IntKind.wrap .i64 ((lI s1 2) + 1))])) (
 some (.inr (0, [.l (lL s1 1)])))) [.l a, .l (List.replicate ((a.length : Int).toNat) (.agg [.str [], .str [], .str [], .int .i64 0, .int .i64 0, .str [], .int .i64 0, .bool false, .str [], .int .i64 0])), .i 0] fun (r14 : Nat × List Leaf) =>
 k (lL r14.2 0)
def F32 : T32 := P32 F78 
def X32 : Exits := fun i => lookN i [] [(3, [(.exit 0, xk 23 [(3, .own 1000000 10 .flat [])] [])])]
abbrev s32 : List (Bool × List CK) := [(false, [.sl 10 true])]
def G32 (F : T32) (β : Type) (e : (List V × Unit) × Unit) (k : V → Option β) : Option β := F β e.1.1 (fun y1 => k (.own 0 10 .flat y1))
abbrev W32 (F : T32) : WT := wrap s32 (G32 F)
theorem k32 (F78 : T78) (β : Type) (e : argsT s32) (k : V → Option β) : fnK cfg (tabL [(78, W78 F78)]) X32 32 Tryd.f32 β (argsEnc s32 e) k = G32 (P32 F78 ) β e k := by kernel_rfl
theorem ok32 : FnOk D 32 (W32 F32) := fn_okW [(78, W78 F78)] X32 (fun _ => rfl) Tryd.func32 rfl (tabL_cons ok78 tabL_nil) (k32 F78 )

/-- laws.toCache -/
abbrev T13 : Type 1 := (β : Type) → List V → (List V → Option β) → Option β
def P13 (F32 : T32) : T13 := fun β a_Entries k =>
 F32 _ a_Entries fun l1 =>
 k l1
def F13 : T13 := P13 F32 
abbrev s13 : List (Bool × List CK) := [(true, [.sl 10 true])]
def G13 (F : T13) (β : Type) (e : (List V × Unit) × Unit) (k : V → Option β) : Option β := F β e.1.1 (fun y1 => k (.agg [.own 0 10 .flat y1]))
abbrev W13 (F : T13) : WT := wrap s13 (G13 F)
theorem k13 (F32 : T32) (β : Type) (e : argsT s13) (k : V → Option β) : fnK cfg (tabL [(32, W32 F32)]) noX 13 Tryd.f13 β (argsEnc s13 e) k = G13 (P13 F32 ) β e k := by kernel_rfl
theorem ok13 : FnOk D 13 (W13 F13) := fn_okW [(32, W32 F32)] noX (fun _ => rfl) Tryd.func13 rfl (tabL_cons ok32 tabL_nil) (k13 F32 )

/-- spec.FreshEntries -/
abbrev T31 : Type 1 := (β : Type) → List V → Int → (Int → Option β) → Option β
def P31 : T31 := fun β c_Entries now k =>
 whileK (fun s1 =>
 br (decide ((lI s1 2) < ((lL s1 3).length : Int))) (
 chk (0 ≤ (lI s1 2)) <|
 idx true [.str, .str, .str, .int .i64, .int .i64, .str, .int .i64, .bool, .str, .int .i64] (lL s1 3) ((lI s1 2).toNat) fun (e2 : List UInt8 × List UInt8 × List UInt8 × Int × Int × List UInt8 × Int × Bool × List UInt8 × Int × Unit) =>
 br (decide (e2.2.2.2.2.2.2.2.2.2.1 ≥ (lI s1 0))) (
 some (.inl [.i (lI s1 0), .i (IntKind.wrap .i64 ((lI s1 1) + 1)), .i (IntKind.wrap .i64 ((lI s1 2) + 1)), .l (lL s1 3)])) (
 some (.inl [.i (lI s1 0), .i (lI s1 1), .i (IntKind.wrap .i64 ((lI s1 2) + 1)), .l (lL s1 3)]))) (
 some (.inr (0, [.i (lI s1 1)])))) [.i now, .i 0, .i 0, .l c_Entries] fun (r3 : Nat × List Leaf) =>
 k (lI r3.2 0)
def F31 : T31 := P31 
def X31 : Exits := fun i => lookN i [] [(3, [(.exit 0, xk 25 [(5, .int .i64 0)] [])])]
abbrev s31 : List (Bool × List CK) := [(true, [.sl 10 true]), (false, [.int .i64])]
def G31 (F : T31) (β : Type) (e : (List V × Unit) × (Int × Unit) × Unit) (k : V → Option β) : Option β := F β e.1.1 e.2.1.1 (fun y1 => k (.int .i64 y1))
abbrev W31 (F : T31) : WT := wrap s31 (G31 F)
theorem k31 (β : Type) (e : argsT s31) (k : V → Option β) : fnK cfg (tabL []) X31 31 Tryd.f31 β (argsEnc s31 e) k = G31 (P31 ) β e k := by kernel_rfl
theorem ok31 : FnOk D 31 (W31 F31) := fn_okW [] X31 (fun _ => rfl) Tryd.func31 rfl (tabL_nil) (k31 )

/-- spec.FormatCache -/
abbrev T12 : Type 1 := (β : Type) → List V → Int → (List UInt8 → Option β) → Option β
def P12 (F31 : T31) (F27 : T27) : T12 := fun β c_Entries now k =>
 F31 _ c_Entries now fun n1 =>
 F27 _ n1 fun t2 =>
 chk (t2.length + ([47] : List UInt8).length ≤ 9223372036854775807) <|
 F27 _ (c_Entries.length : Int) fun t3 =>
 chk ((t2 ++ [47]).length + t3.length ≤ 9223372036854775807) <|
 k ((t2 ++ [47]) ++ t3)
def F12 : T12 := P12 F31 F27 
abbrev s12 : List (Bool × List CK) := [(true, [.sl 10 true]), (false, [.int .i64])]
def G12 (F : T12) (β : Type) (e : (List V × Unit) × (Int × Unit) × Unit) (k : V → Option β) : Option β := F β e.1.1 e.2.1.1 (fun y1 => k (.str y1))
abbrev W12 (F : T12) : WT := wrap s12 (G12 F)
theorem k12 (F31 : T31) (F27 : T27) (β : Type) (e : argsT s12) (k : V → Option β) : fnK cfg (tabL [(31, W31 F31), (27, W27 F27)]) noX 12 Tryd.f12 β (argsEnc s12 e) k = G12 (P12 F31 F27 ) β e k := by kernel_rfl
theorem ok12 : FnOk D 12 (W12 F12) := fn_okW [(31, W31 F31), (27, W27 F27)] noX (fun _ => rfl) Tryd.func12 rfl (tabL_cons ok31 (tabL_cons ok27 tabL_nil)) (k12 F31 F27 )

/-- impl.FreshEntries -/
abbrev T33 : Type 1 := (β : Type) → List V → Int → (Int → Option β) → Option β
def P33 : T33 := fun β c_Entries now k =>
 whileK (fun s1 =>
 br (decide ((lI s1 4) < (lI s1 3))) (
 chk (0 ≤ (lI s1 4)) <|
 idx true [.str, .str, .str, .int .i64, .int .i64, .str, .int .i64, .bool, .str, .int .i64] (lL s1 2) ((lI s1 4).toNat) fun (e2 : List UInt8 × List UInt8 × List UInt8 × Int × Int × List UInt8 × Int × Bool × List UInt8 × Int × Unit) =>
 br (decide (e2.2.2.2.2.2.2.2.2.2.1 ≥ (lI s1 0))) (
 some (.inl [.i (lI s1 0), .i (IntKind.wrap .i64 ((lI s1 1) + 1)), .l (lL s1 2), .i (lI s1 3), .i (IntKind.wrap .i64 ((lI s1 4) + 1))])) (
 some (.inl [.i (lI s1 0), .i (lI s1 1), .l (lL s1 2), .i (lI s1 3), .i (IntKind.wrap .i64 ((lI s1 4) + 1))]))) (
 some (.inr (0, [.i (lI s1 1)])))) [.i now, .i 0, .l c_Entries, .i (c_Entries.length : Int), .i 0] fun (r3 : Nat × List Leaf) =>
 k (lI r3.2 0)
def F33 : T33 := P33 
def X33 : Exits := fun i => lookN i [] [(3, [(.exit 0, xk 23 [(5, .int .i64 0)] [])])]
abbrev s33 : List (Bool × List CK) := [(true, [.sl 10 true]), (false, [.int .i64])]
def G33 (F : T33) (β : Type) (e : (List V × Unit) × (Int × Unit) × Unit) (k : V → Option β) : Option β := F β e.1.1 e.2.1.1 (fun y1 => k (.int .i64 y1))
abbrev W33 (F : T33) : WT := wrap s33 (G33 F)
theorem k33 (β : Type) (e : argsT s33) (k : V → Option β) : fnK cfg (tabL []) X33 33 Tryd.f33 β (argsEnc s33 e) k = G33 (P33 ) β e k := by kernel_rfl
theorem ok33 : FnOk D 33 (W33 F33) := fn_okW [] X33 (fun _ => rfl) Tryd.func33 rfl (tabL_nil) (k33 )

/-- impl.FormatCache -/
abbrev T14 : Type 1 := (β : Type) → List V → Int → (List UInt8 → Option β) → Option β
def P14 (F33 : T33) (F29 : T29) : T14 := fun β c_Entries now k =>
 F33 _ c_Entries now fun n1 =>
 F29 _ n1 fun t2 =>
 chk (t2.length + ([47] : List UInt8).length ≤ 9223372036854775807) <|
 F29 _ (c_Entries.length : Int) fun t3 =>
 chk ((t2 ++ [47]).length + t3.length ≤ 9223372036854775807) <|
 k ((t2 ++ [47]) ++ t3)
def F14 : T14 := P14 F33 F29 
abbrev s14 : List (Bool × List CK) := [(true, [.sl 10 true]), (false, [.int .i64])]
def G14 (F : T14) (β : Type) (e : (List V × Unit) × (Int × Unit) × Unit) (k : V → Option β) : Option β := F β e.1.1 e.2.1.1 (fun y1 => k (.str y1))
abbrev W14 (F : T14) : WT := wrap s14 (G14 F)
theorem k14 (F33 : T33) (F29 : T29) (β : Type) (e : argsT s14) (k : V → Option β) : fnK cfg (tabL [(33, W33 F33), (29, W29 F29)]) noX 14 Tryd.f14 β (argsEnc s14 e) k = G14 (P14 F33 F29 ) β e k := by kernel_rfl
theorem ok14 : FnOk D 14 (W14 F14) := fn_okW [(33, W33 F33), (29, W29 F29)] noX (fun _ => rfl) Tryd.func14 rfl (tabL_cons ok33 (tabL_cons ok29 tabL_nil)) (k14 F33 F29 )

/-- laws.eqAddr -/
abbrev T65 : Type 1 := (β : Type) → List UInt8 → List UInt8 → List UInt8 → List UInt8 → (Bool → Option β) → Option β
def P65 : T65 := fun β a_Host a_Path b_Host b_Path k =>
 br (!(a_Host == b_Host)) (
 k false) (
 br (!(a_Path == b_Path)) (
 k false) (
 k true))
def F65 : T65 := P65 
abbrev s65 : List (Bool × List CK) := [(true, [.str, .str]), (true, [.str, .str])]
def G65 (F : T65) (β : Type) (e : (List UInt8 × List UInt8 × Unit) × (List UInt8 × List UInt8 × Unit) × Unit) (k : V → Option β) : Option β := F β e.1.1 e.1.2.1 e.2.1.1 e.2.1.2.1 (fun y1 => k (.bool y1))
abbrev W65 (F : T65) : WT := wrap s65 (G65 F)
theorem k65 (β : Type) (e : argsT s65) (k : V → Option β) : fnK cfg (tabL []) noX 65 Tryd.f65 β (argsEnc s65 e) k = G65 (P65 ) β e k := by kernel_rfl
theorem ok65 : FnOk D 65 (W65 F65) := fn_okW [] noX (fun _ => rfl) Tryd.func65 rfl (tabL_nil) (k65 )

/-- laws.eqResponse -/
abbrev T110 : Type 1 := (β : Type) → Int → Int → List UInt8 → Int → Bool → List UInt8 → Int → Int → List UInt8 → Int → Bool → List UInt8 → (Bool → Option β) → Option β
def P110 : T110 := fun β a_Status a_Kind a_Body a_Age a_Shares a_Policy b_Status b_Kind b_Body b_Age b_Shares b_Policy k =>
 br (a_Status != b_Status) (
 k false) (
 br (a_Kind != b_Kind) (
 k false) (
 br (!(a_Body == b_Body)) (
 k false) (
 br (a_Age != b_Age) (
 k false) (
 br (!(a_Shares == b_Shares)) (
 k false) (
 br (!(a_Policy == b_Policy)) (
 k false) (
 k true))))))
def F110 : T110 := P110 
abbrev s110 : List (Bool × List CK) := [(true, [.int .i64, .int .i64, .str, .int .i64, .bool, .str]), (true, [.int .i64, .int .i64, .str, .int .i64, .bool, .str])]
def G110 (F : T110) (β : Type) (e : (Int × Int × List UInt8 × Int × Bool × List UInt8 × Unit) × (Int × Int × List UInt8 × Int × Bool × List UInt8 × Unit) × Unit) (k : V → Option β) : Option β := let a0_0 := e.1; let a0_1 := a0_0.2; let a0_2 := a0_1.2; let a0_3 := a0_2.2; let a0_4 := a0_3.2; let a0_5 := a0_4.2; let a1_0 := e.2.1; let a1_1 := a1_0.2; let a1_2 := a1_1.2; let a1_3 := a1_2.2; let a1_4 := a1_3.2; let a1_5 := a1_4.2; F β a0_0.1 a0_1.1 a0_2.1 a0_3.1 a0_4.1 a0_5.1 a1_0.1 a1_1.1 a1_2.1 a1_3.1 a1_4.1 a1_5.1 (fun y1 => k (.bool y1))
abbrev W110 (F : T110) : WT := wrap s110 (G110 F)
theorem k110 (β : Type) (e : argsT s110) (k : V → Option β) : fnK cfg (tabL []) noX 110 Tryd.f110 β (argsEnc s110 e) k = G110 (P110 ) β e k := by kernel_rfl
theorem ok110 : FnOk D 110 (W110 F110) := fn_okW [] noX (fun _ => rfl) Tryd.func110 rfl (tabL_nil) (k110 )

/-- laws.eqEntry -/
abbrev T79 : Type 1 := (β : Type) → List UInt8 → List UInt8 → List UInt8 → Int → Int → List UInt8 → Int → Bool → List UInt8 → Int → List UInt8 → List UInt8 → List UInt8 → Int → Int → List UInt8 → Int → Bool → List UInt8 → Int → (Bool → Option β) → Option β
def P79 (F65 : T65) (F110 : T110) : T79 := fun β a_Top a_To_Host a_To_Path a_Response_Status a_Response_Kind a_Response_Body a_Response_Age a_Response_Shares a_Response_Policy a_Until b_Top b_To_Host b_To_Path b_Response_Status b_Response_Kind b_Response_Body b_Response_Age b_Response_Shares b_Response_Policy b_Until k =>
 br (!(a_Top == b_Top)) (
 k false) (
 F65 _ a_To_Host a_To_Path b_To_Host b_To_Path fun b1 =>
 br (!b1) (
 k false) (
 F110 _ a_Response_Status a_Response_Kind a_Response_Body a_Response_Age a_Response_Shares a_Response_Policy b_Response_Status b_Response_Kind b_Response_Body b_Response_Age b_Response_Shares b_Response_Policy fun b2 =>
 br (!b2) (
 k false) (
 br (a_Until != b_Until) (
 k false) (
 k true))))
def F79 : T79 := P79 F65 F110 
abbrev s79 : List (Bool × List CK) := [(true, [.str, .str, .str, .int .i64, .int .i64, .str, .int .i64, .bool, .str, .int .i64]), (true, [.str, .str, .str, .int .i64, .int .i64, .str, .int .i64, .bool, .str, .int .i64])]
def G79 (F : T79) (β : Type) (e : (List UInt8 × List UInt8 × List UInt8 × Int × Int × List UInt8 × Int × Bool × List UInt8 × Int × Unit) × (List UInt8 × List UInt8 × List UInt8 × Int × Int × List UInt8 × Int × Bool × List UInt8 × Int × Unit) × Unit) (k : V → Option β) : Option β := let a0_0 := e.1; let a0_1 := a0_0.2; let a0_2 := a0_1.2; let a0_3 := a0_2.2; let a0_4 := a0_3.2; let a0_5 := a0_4.2; let a0_6 := a0_5.2; let a0_7 := a0_6.2; let a0_8 := a0_7.2; let a0_9 := a0_8.2; let a1_0 := e.2.1; let a1_1 := a1_0.2; let a1_2 := a1_1.2; let a1_3 := a1_2.2; let a1_4 := a1_3.2; let a1_5 := a1_4.2; let a1_6 := a1_5.2; let a1_7 := a1_6.2; let a1_8 := a1_7.2; let a1_9 := a1_8.2; F β a0_0.1 a0_1.1 a0_2.1 a0_3.1 a0_4.1 a0_5.1 a0_6.1 a0_7.1 a0_8.1 a0_9.1 a1_0.1 a1_1.1 a1_2.1 a1_3.1 a1_4.1 a1_5.1 a1_6.1 a1_7.1 a1_8.1 a1_9.1 (fun y1 => k (.bool y1))
abbrev W79 (F : T79) : WT := wrap s79 (G79 F)
theorem k79 (F65 : T65) (F110 : T110) (β : Type) (e : argsT s79) (k : V → Option β) : fnK cfg (tabL [(65, W65 F65), (110, W110 F110)]) noX 79 Tryd.f79 β (argsEnc s79 e) k = G79 (P79 F65 F110 ) β e k := by kernel_rfl
theorem ok79 : FnOk D 79 (W79 F79) := fn_okW [(65, W65 F65), (110, W110 F110)] noX (fun _ => rfl) Tryd.func79 rfl (tabL_cons ok65 (tabL_cons ok110 tabL_nil)) (k79 F65 F110 )

/-- laws.eqEntryS -/
abbrev T34 : Type 1 := (β : Type) → List V → List V → (Bool → Option β) → Option β
def P34 (F79 : T79) : T34 := fun β a b k =>
 br ((a.length : Int) != (b.length : Int)) (
 k false) (
 whileK (fun s1 =>
 br (decide ((lI s1 2) < ((lL s1 0).length : Int))) (
 chk (0 ≤ (lI s1 2)) <|
 idx true [.str, .str, .str, .int .i64, .int .i64, .str, .int .i64, .bool, .str, .int .i64] (lL s1 0) ((lI s1 2).toNat) fun (e2 : List UInt8 × List UInt8 × List UInt8 × Int × Int × List UInt8 × Int × Bool × List UInt8 × Int × Unit) =>
 chk (0 ≤ (lI s1 2)) <|
 idx true [.str, .str, .str, .int .i64, .int .i64, .str, .int .i64, .bool, .str, .int .i64] (lL s1 1) ((lI s1 2).toNat) fun (e3 : List UInt8 × List UInt8 × List UInt8 × Int × Int × List UInt8 × Int × Bool × List UInt8 × Int × Unit) =>
 F79 _ e2.1 e2.2.1 e2.2.2.1 e2.2.2.2.1 e2.2.2.2.2.1 e2.2.2.2.2.2.1 e2.2.2.2.2.2.2.1 e2.2.2.2.2.2.2.2.1 e2.2.2.2.2.2.2.2.2.1 e2.2.2.2.2.2.2.2.2.2.1 e3.1 e3.2.1 e3.2.2.1 e3.2.2.2.1 e3.2.2.2.2.1 e3.2.2.2.2.2.1 e3.2.2.2.2.2.2.1 e3.2.2.2.2.2.2.2.1 e3.2.2.2.2.2.2.2.2.1 e3.2.2.2.2.2.2.2.2.2.1 fun b4 =>
 br (!b4) (
 some (.inr (0, [.b false]))) (
 some (.inl [.l (lL s1 0), .l (lL s1 1), .i (IntKind.wrap .i64 ((lI s1 2) + 1))]))) (
 some (.inr (1, [])))) [.l a, .l b, .i 0] fun (r5 : Nat × List Leaf) =>
 if r5.1 = 0 then
 k (lB r5.2 0)
 else
 k true)
def F34 : T34 := P34 F79 
def X34 : Exits := fun i => lookN i [] [(4, [(.ret, xk 27 [(4, .bool false)] []), (.exit 0, xk 27 [] [])])]
abbrev s34 : List (Bool × List CK) := [(false, [.sl 10 true]), (false, [.sl 10 true])]
def G34 (F : T34) (β : Type) (e : (List V × Unit) × (List V × Unit) × Unit) (k : V → Option β) : Option β := F β e.1.1 e.2.1.1 (fun y1 => k (.bool y1))
abbrev W34 (F : T34) : WT := wrap s34 (G34 F)
theorem k34 (F79 : T79) (β : Type) (e : argsT s34) (k : V → Option β) : fnK cfg (tabL [(79, W79 F79)]) X34 34 Tryd.f34 β (argsEnc s34 e) k = G34 (P34 F79 ) β e k := by kernel_rfl
theorem ok34 : FnOk D 34 (W34 F34) := fn_okW [(79, W79 F79)] X34 (fun _ => rfl) Tryd.func34 rfl (tabL_cons ok79 tabL_nil) (k34 F79 )

/-- laws.eqCache -/
abbrev T15 : Type 1 := (β : Type) → List V → List V → (Bool → Option β) → Option β
def P15 (F34 : T34) : T15 := fun β a_Entries b_Entries k =>
 F34 _ a_Entries b_Entries fun b1 =>
 br (!b1) (
 k false) (
 k true)
def F15 : T15 := P15 F34 
abbrev s15 : List (Bool × List CK) := [(true, [.sl 10 true]), (true, [.sl 10 true])]
def G15 (F : T15) (β : Type) (e : (List V × Unit) × (List V × Unit) × Unit) (k : V → Option β) : Option β := F β e.1.1 e.2.1.1 (fun y1 => k (.bool y1))
abbrev W15 (F : T15) : WT := wrap s15 (G15 F)
theorem k15 (F34 : T34) (β : Type) (e : argsT s15) (k : V → Option β) : fnK cfg (tabL [(34, W34 F34)]) noX 15 Tryd.f15 β (argsEnc s15 e) k = G15 (P15 F34 ) β e k := by kernel_rfl
theorem ok15 : FnOk D 15 (W15 F15) := fn_okW [(34, W34 F34)] noX (fun _ => rfl) Tryd.func15 rfl (tabL_cons ok34 tabL_nil) (k15 F34 )

/-- laws.FnExactFormatCache -/
abbrev T4 : Type 1 := (β : Type) → List V → Int → (Bool → Option β) → Option β
def P4 (F11 : T11) (F13 : T13) (F12 : T12) (F14 : T14) (F15 : T15) : T4 := fun β aC_Entries aNow k =>
 F11 _ aC_Entries 1048576 fun n1 =>
 br (decide (n1 < 0)) (
 k true) (
 F13 _ aC_Entries fun l2 =>
 F12 _ l2 aNow fun t3 =>
 F13 _ aC_Entries fun l4 =>
 F14 _ l4 aNow fun t5 =>
 br (!(t5 == t3)) (
 k false) (
 F13 _ aC_Entries fun l6 =>
 F15 _ l4 l6 fun b7 =>
 br (!b7) (
 k false) (
 k true)))
def F4 : T4 := P4 F11 F13 F12 F14 F15 
abbrev s4 : List (Bool × List CK) := [(true, [.sl 10 true]), (false, [.int .i64])]
def G4 (F : T4) (β : Type) (e : (List V × Unit) × (Int × Unit) × Unit) (k : V → Option β) : Option β := F β e.1.1 e.2.1.1 (fun y1 => k (.bool y1))
abbrev W4 (F : T4) : WT := wrap s4 (G4 F)
theorem k4 (F11 : T11) (F13 : T13) (F12 : T12) (F14 : T14) (F15 : T15) (β : Type) (e : argsT s4) (k : V → Option β) : fnK cfg (tabL [(11, W11 F11), (13, W13 F13), (12, W12 F12), (14, W14 F14), (15, W15 F15)]) noX 4 Tryd.f4 β (argsEnc s4 e) k = G4 (P4 F11 F13 F12 F14 F15 ) β e k := by kernel_rfl
theorem ok4 : FnOk D 4 (W4 F4) := fn_okW [(11, W11 F11), (13, W13 F13), (12, W12 F12), (14, W14 F14), (15, W15 F15)] noX (fun _ => rfl) Tryd.func4 rfl (tabL_cons ok11 (tabL_cons ok13 (tabL_cons ok12 (tabL_cons ok14 (tabL_cons ok15 tabL_nil))))) (k4 F11 F13 F12 F14 F15 )

/-- laws.szStringS -/
abbrev T51 : Type 1 := (β : Type) → List V → Int → (Int → Option β) → Option β
def P51 : T51 := fun β a left k =>
 br (decide (IntKind.wrap .i64 (left - (a.length : Int)) < 0)) (
 k (-1)) (
 whileK (fun s1 =>
 br (decide ((lI s1 2) < ((lL s1 0).length : Int))) (
 chk (0 ≤ (lI s1 2)) <|
 idx false [.str] (lL s1 0) ((lI s1 2).toNat) fun (e2 : List UInt8 × Unit) =>
 br (decide (IntKind.wrap .i64 ((lI s1 1) - (e2.1.length : Int)) < 0)) (
 some (.inr (0, [.i (IntKind.wrap .i64 ((lI s1 1) - (e2.1.length : Int))), .i (-1)]))) (
 some (.inl [.l (lL s1 0), .i (IntKind.wrap .i64 ((lI s1 1) - (e2.1.length : Int))), .i (IntKind.wrap .i64 ((lI s1 2) + 1))]))) (
 some (.inr (1, [.i (lI s1 1)])))) [.l a, .i (IntKind.wrap .i64 (left - (a.length : Int))), .i 0] fun (r3 : Nat × List Leaf) =>
 if r3.1 = 0 then
 k (lI r3.2 1)
 else
 k (lI r3.2 0))
def F51 : T51 := P51 
def X51 : Exits := fun i => lookN i [] [(5, [(.ret, xk 28 [(1, .int .i64 0), (4, .int .i64 0)] []), (.exit 0, xk 28 [(1, .int .i64 0)] [])])]
abbrev s51 : List (Bool × List CK) := [(false, [.sl 1 true]), (false, [.int .i64])]
def G51 (F : T51) (β : Type) (e : (List V × Unit) × (Int × Unit) × Unit) (k : V → Option β) : Option β := F β e.1.1 e.2.1.1 (fun y1 => k (.int .i64 y1))
abbrev W51 (F : T51) : WT := wrap s51 (G51 F)
theorem k51 (β : Type) (e : argsT s51) (k : V → Option β) : fnK cfg (tabL []) X51 51 Tryd.f51 β (argsEnc s51 e) k = G51 (P51 ) β e k := by kernel_rfl
theorem ok51 : FnOk D 51 (W51 F51) := fn_okW [] X51 (fun _ => rfl) Tryd.func51 rfl (tabL_nil) (k51 )

/-- laws.szPolicy -/
abbrev T44 : Type 1 := (β : Type) → Bool → List V → List V → List V → List UInt8 → Int → (Int → Option β) → Option β
def P44 (F51 : T51) : T44 := fun β a_Set a_Scripts a_Styles a_Images a_Nonce left k =>
 F51 _ a_Scripts left fun n1 =>
 br (decide (n1 < 0)) (
 k (-1)) (
 F51 _ a_Styles n1 fun n2 =>
 br (decide (n2 < 0)) (
 k (-1)) (
 F51 _ a_Images n2 fun n3 =>
 br (decide (n3 < 0)) (
 k (-1)) (
 br (decide (IntKind.wrap .i64 (n3 - (a_Nonce.length : Int)) < 0)) (
 k (-1)) (
 k (IntKind.wrap .i64 (n3 - (a_Nonce.length : Int)))))))
def F44 : T44 := P44 F51 
abbrev s44 : List (Bool × List CK) := [(true, [.bool, .sl 1 true, .sl 1 true, .sl 1 true, .str]), (false, [.int .i64])]
def G44 (F : T44) (β : Type) (e : (Bool × List V × List V × List V × List UInt8 × Unit) × (Int × Unit) × Unit) (k : V → Option β) : Option β := let a0_0 := e.1; let a0_1 := a0_0.2; let a0_2 := a0_1.2; let a0_3 := a0_2.2; let a0_4 := a0_3.2; F β a0_0.1 a0_1.1 a0_2.1 a0_3.1 a0_4.1 e.2.1.1 (fun y1 => k (.int .i64 y1))
abbrev W44 (F : T44) : WT := wrap s44 (G44 F)
theorem k44 (F51 : T51) (β : Type) (e : argsT s44) (k : V → Option β) : fnK cfg (tabL [(51, W51 F51)]) noX 44 Tryd.f44 β (argsEnc s44 e) k = G44 (P44 F51 ) β e k := by kernel_rfl
theorem ok44 : FnOk D 44 (W44 F44) := fn_okW [(51, W51 F51)] noX (fun _ => rfl) Tryd.func44 rfl (tabL_cons ok51 tabL_nil) (k44 F51 )

/-- laws.szTokenizer -/
abbrev T45 : Type 1 := (β : Type) → List UInt8 → Int → (Int → Option β) → Option β
def P45 : T45 := fun β a_Rest left k =>
 br (decide (IntKind.wrap .i64 (left - (a_Rest.length : Int)) < 0)) (
 k (-1)) (
 k (IntKind.wrap .i64 (left - (a_Rest.length : Int))))
def F45 : T45 := P45 
abbrev s45 : List (Bool × List CK) := [(true, [.str]), (false, [.int .i64])]
def G45 (F : T45) (β : Type) (e : (List UInt8 × Unit) × (Int × Unit) × Unit) (k : V → Option β) : Option β := F β e.1.1 e.2.1.1 (fun y1 => k (.int .i64 y1))
abbrev W45 (F : T45) : WT := wrap s45 (G45 F)
theorem k45 (β : Type) (e : argsT s45) (k : V → Option β) : fnK cfg (tabL []) noX 45 Tryd.f45 β (argsEnc s45 e) k = G45 (P45 ) β e k := by kernel_rfl
theorem ok45 : FnOk D 45 (W45 F45) := fn_okW [] noX (fun _ => rfl) Tryd.func45 rfl (tabL_nil) (k45 )

/-- laws.szAttr -/
abbrev T134 : Type 1 := (β : Type) → List UInt8 → List UInt8 → Int → (Int → Option β) → Option β
def P134 : T134 := fun β a_Name a_Value left k =>
 br (decide (IntKind.wrap .i64 (left - (a_Name.length : Int)) < 0)) (
 k (-1)) (
 br (decide (IntKind.wrap .i64 ((IntKind.wrap .i64 (left - (a_Name.length : Int))) - (a_Value.length : Int)) < 0)) (
 k (-1)) (
 k (IntKind.wrap .i64 ((IntKind.wrap .i64 (left - (a_Name.length : Int))) - (a_Value.length : Int)))))
def F134 : T134 := P134 
abbrev s134 : List (Bool × List CK) := [(true, [.str, .str]), (false, [.int .i64])]
def G134 (F : T134) (β : Type) (e : (List UInt8 × List UInt8 × Unit) × (Int × Unit) × Unit) (k : V → Option β) : Option β := F β e.1.1 e.1.2.1 e.2.1.1 (fun y1 => k (.int .i64 y1))
abbrev W134 (F : T134) : WT := wrap s134 (G134 F)
theorem k134 (β : Type) (e : argsT s134) (k : V → Option β) : fnK cfg (tabL []) noX 134 Tryd.f134 β (argsEnc s134 e) k = G134 (P134 ) β e k := by kernel_rfl
theorem ok134 : FnOk D 134 (W134 F134) := fn_okW [] noX (fun _ => rfl) Tryd.func134 rfl (tabL_nil) (k134 )

/-- laws.szAttrS -/
abbrev T118 : Type 1 := (β : Type) → List V → Int → (Int → Option β) → Option β
def P118 (F134 : T134) : T118 := fun β a left k =>
 br (decide (IntKind.wrap .i64 (left - (a.length : Int)) < 0)) (
 k (-1)) (
 whileK (fun s1 =>
 br (decide ((lI s1 2) < ((lL s1 0).length : Int))) (
 chk (0 ≤ (lI s1 2)) <|
 idx true [.str, .str] (lL s1 0) ((lI s1 2).toNat) fun (e2 : List UInt8 × List UInt8 × Unit) =>
 F134 _ e2.1 e2.2.1 (lI s1 1) fun n3 =>
 br (decide (n3 < 0)) (
 some (.inr (0, [.i n3, .i (-1)]))) (
 some (.inl [.l (lL s1 0), .i n3, .i (IntKind.wrap .i64 ((lI s1 2) + 1))]))) (
 some (.inr (1, [.i (lI s1 1)])))) [.l a, .i (IntKind.wrap .i64 (left - (a.length : Int))), .i 0] fun (r4 : Nat × List Leaf) =>
 if r4.1 = 0 then
 k (lI r4.2 1)
 else
 k (lI r4.2 0))
def F118 : T118 := P118 F134 
def X118 : Exits := fun i => lookN i [] [(5, [(.ret, xk 27 [(1, .int .i64 0), (4, .int .i64 0)] []), (.exit 0, xk 27 [(1, .int .i64 0)] [])])]
abbrev s118 : List (Bool × List CK) := [(false, [.sl 2 true]), (false, [.int .i64])]
def G118 (F : T118) (β : Type) (e : (List V × Unit) × (Int × Unit) × Unit) (k : V → Option β) : Option β := F β e.1.1 e.2.1.1 (fun y1 => k (.int .i64 y1))
abbrev W118 (F : T118) : WT := wrap s118 (G118 F)
theorem k118 (F134 : T134) (β : Type) (e : argsT s118) (k : V → Option β) : fnK cfg (tabL [(134, W134 F134)]) X118 118 Tryd.f118 β (argsEnc s118 e) k = G118 (P118 F134 ) β e k := by kernel_rfl
theorem ok118 : FnOk D 118 (W118 F118) := fn_okW [(134, W134 F134)] X118 (fun _ => rfl) Tryd.func118 rfl (tabL_cons ok134 tabL_nil) (k118 F134 )

/-- laws.szToken -/
abbrev T94 : Type 1 := (β : Type) → Int → List UInt8 → List V → List UInt8 → Int → (Int → Option β) → Option β
def P94 (F118 : T118) : T94 := fun β a_Kind a_Name a_Attrs a_Text left k =>
 br (decide (IntKind.wrap .i64 (left - (a_Name.length : Int)) < 0)) (
 k (-1)) (
 F118 _ a_Attrs (IntKind.wrap .i64 (left - (a_Name.length : Int))) fun n1 =>
 br (decide (n1 < 0)) (
 k (-1)) (
 br (decide (IntKind.wrap .i64 (n1 - (a_Text.length : Int)) < 0)) (
 k (-1)) (
 k (IntKind.wrap .i64 (n1 - (a_Text.length : Int))))))
def F94 : T94 := P94 F118 
abbrev s94 : List (Bool × List CK) := [(true, [.int .i64, .str, .sl 2 true, .str]), (false, [.int .i64])]
def G94 (F : T94) (β : Type) (e : (Int × List UInt8 × List V × List UInt8 × Unit) × (Int × Unit) × Unit) (k : V → Option β) : Option β := F β e.1.1 e.1.2.1 e.1.2.2.1 e.1.2.2.2.1 e.2.1.1 (fun y1 => k (.int .i64 y1))
abbrev W94 (F : T94) : WT := wrap s94 (G94 F)
theorem k94 (F118 : T118) (β : Type) (e : argsT s94) (k : V → Option β) : fnK cfg (tabL [(118, W118 F118)]) noX 94 Tryd.f94 β (argsEnc s94 e) k = G94 (P94 F118 ) β e k := by kernel_rfl
theorem ok94 : FnOk D 94 (W94 F94) := fn_okW [(118, W118 F118)] noX (fun _ => rfl) Tryd.func94 rfl (tabL_cons ok118 tabL_nil) (k94 F118 )

/-- laws.szTokenS -/
abbrev T46 : Type 1 := (β : Type) → List V → Int → (Int → Option β) → Option β
def P46 (F94 : T94) : T46 := fun β a left k =>
 br (decide (IntKind.wrap .i64 (left - (a.length : Int)) < 0)) (
 k (-1)) (
 whileK (fun s1 =>
 br (decide ((lI s1 2) < ((lL s1 0).length : Int))) (
 chk (0 ≤ (lI s1 2)) <|
 idx true [.int .i64, .str, .sl 2 true, .str] (lL s1 0) ((lI s1 2).toNat) fun (e2 : Int × List UInt8 × List V × List UInt8 × Unit) =>
 F94 _ e2.1 e2.2.1 e2.2.2.1 e2.2.2.2.1 (lI s1 1) fun n3 =>
 br (decide (n3 < 0)) (
 some (.inr (0, [.i n3, .i (-1)]))) (
 some (.inl [.l (lL s1 0), .i n3, .i (IntKind.wrap .i64 ((lI s1 2) + 1))]))) (
 some (.inr (1, [.i (lI s1 1)])))) [.l a, .i (IntKind.wrap .i64 (left - (a.length : Int))), .i 0] fun (r4 : Nat × List Leaf) =>
 if r4.1 = 0 then
 k (lI r4.2 1)
 else
 k (lI r4.2 0))
def F46 : T46 := P46 F94 
def X46 : Exits := fun i => lookN i [] [(5, [(.ret, xk 27 [(1, .int .i64 0), (4, .int .i64 0)] []), (.exit 0, xk 27 [(1, .int .i64 0)] [])])]
abbrev s46 : List (Bool × List CK) := [(false, [.sl 4 false]), (false, [.int .i64])]
def G46 (F : T46) (β : Type) (e : (List V × Unit) × (Int × Unit) × Unit) (k : V → Option β) : Option β := F β e.1.1 e.2.1.1 (fun y1 => k (.int .i64 y1))
abbrev W46 (F : T46) : WT := wrap s46 (G46 F)
theorem k46 (F94 : T94) (β : Type) (e : argsT s46) (k : V → Option β) : fnK cfg (tabL [(94, W94 F94)]) X46 46 Tryd.f46 β (argsEnc s46 e) k = G46 (P46 F94 ) β e k := by kernel_rfl
theorem ok46 : FnOk D 46 (W46 F46) := fn_okW [(94, W94 F94)] X46 (fun _ => rfl) Tryd.func46 rfl (tabL_cons ok94 tabL_nil) (k46 F94 )

/-- laws.szNode -/
abbrev T119 : Type 1 := (β : Type) → List UInt8 → List UInt8 → Int → List V → Int → (Int → Option β) → Option β
def P119 (F118 : T118) : T119 := fun β a_Name a_Text a_Parent a_Attrs left k =>
 br (decide (IntKind.wrap .i64 (left - (a_Name.length : Int)) < 0)) (
 k (-1)) (
 br (decide (IntKind.wrap .i64 ((IntKind.wrap .i64 (left - (a_Name.length : Int))) - (a_Text.length : Int)) < 0)) (
 k (-1)) (
 F118 _ a_Attrs (IntKind.wrap .i64 ((IntKind.wrap .i64 (left - (a_Name.length : Int))) - (a_Text.length : Int))) fun n1 =>
 br (decide (n1 < 0)) (
 k (-1)) (
 k n1)))
def F119 : T119 := P119 F118 
abbrev s119 : List (Bool × List CK) := [(true, [.str, .str, .int .i64, .sl 2 true]), (false, [.int .i64])]
def G119 (F : T119) (β : Type) (e : (List UInt8 × List UInt8 × Int × List V × Unit) × (Int × Unit) × Unit) (k : V → Option β) : Option β := F β e.1.1 e.1.2.1 e.1.2.2.1 e.1.2.2.2.1 e.2.1.1 (fun y1 => k (.int .i64 y1))
abbrev W119 (F : T119) : WT := wrap s119 (G119 F)
theorem k119 (F118 : T118) (β : Type) (e : argsT s119) (k : V → Option β) : fnK cfg (tabL [(118, W118 F118)]) noX 119 Tryd.f119 β (argsEnc s119 e) k = G119 (P119 F118 ) β e k := by kernel_rfl
theorem ok119 : FnOk D 119 (W119 F119) := fn_okW [(118, W118 F118)] noX (fun _ => rfl) Tryd.func119 rfl (tabL_cons ok118 tabL_nil) (k119 F118 )

/-- laws.szNodeS -/
abbrev T95 : Type 1 := (β : Type) → List V → Int → (Int → Option β) → Option β
def P95 (F119 : T119) : T95 := fun β a left k =>
 br (decide (IntKind.wrap .i64 (left - (a.length : Int)) < 0)) (
 k (-1)) (
 whileK (fun s1 =>
 br (decide ((lI s1 2) < ((lL s1 0).length : Int))) (
 chk (0 ≤ (lI s1 2)) <|
 idx true [.str, .str, .int .i64, .sl 2 true] (lL s1 0) ((lI s1 2).toNat) fun (e2 : List UInt8 × List UInt8 × Int × List V × Unit) =>
 F119 _ e2.1 e2.2.1 e2.2.2.1 e2.2.2.2.1 (lI s1 1) fun n3 =>
 br (decide (n3 < 0)) (
 some (.inr (0, [.i n3, .i (-1)]))) (
 some (.inl [.l (lL s1 0), .i n3, .i (IntKind.wrap .i64 ((lI s1 2) + 1))]))) (
 some (.inr (1, [.i (lI s1 1)])))) [.l a, .i (IntKind.wrap .i64 (left - (a.length : Int))), .i 0] fun (r4 : Nat × List Leaf) =>
 if r4.1 = 0 then
 k (lI r4.2 1)
 else
 k (lI r4.2 0))
def F95 : T95 := P95 F119 
def X95 : Exits := fun i => lookN i [] [(5, [(.ret, xk 27 [(1, .int .i64 0), (4, .int .i64 0)] []), (.exit 0, xk 27 [(1, .int .i64 0)] [])])]
abbrev s95 : List (Bool × List CK) := [(false, [.sl 4 false]), (false, [.int .i64])]
def G95 (F : T95) (β : Type) (e : (List V × Unit) × (Int × Unit) × Unit) (k : V → Option β) : Option β := F β e.1.1 e.2.1.1 (fun y1 => k (.int .i64 y1))
abbrev W95 (F : T95) : WT := wrap s95 (G95 F)
theorem k95 (F119 : T119) (β : Type) (e : argsT s95) (k : V → Option β) : fnK cfg (tabL [(119, W119 F119)]) X95 95 Tryd.f95 β (argsEnc s95 e) k = G95 (P95 F119 ) β e k := by kernel_rfl
theorem ok95 : FnOk D 95 (W95 F95) := fn_okW [(119, W119 F119)] X95 (fun _ => rfl) Tryd.func95 rfl (tabL_cons ok119 tabL_nil) (k95 F119 )

/-- laws.szIntS -/
abbrev T96 : Type 1 := (β : Type) → List V → Int → (Int → Option β) → Option β
def P96 : T96 := fun β a left k =>
 br (decide (IntKind.wrap .i64 (left - (a.length : Int)) < 0)) (
 k (-1)) (
 k (IntKind.wrap .i64 (left - (a.length : Int))))
def F96 : T96 := P96 
abbrev s96 : List (Bool × List CK) := [(false, [.sl 1 true]), (false, [.int .i64])]
def G96 (F : T96) (β : Type) (e : (List V × Unit) × (Int × Unit) × Unit) (k : V → Option β) : Option β := F β e.1.1 e.2.1.1 (fun y1 => k (.int .i64 y1))
abbrev W96 (F : T96) : WT := wrap s96 (G96 F)
theorem k96 (β : Type) (e : argsT s96) (k : V → Option β) : fnK cfg (tabL []) noX 96 Tryd.f96 β (argsEnc s96 e) k = G96 (P96 ) β e k := by kernel_rfl
theorem ok96 : FnOk D 96 (W96 F96) := fn_okW [] noX (fun _ => rfl) Tryd.func96 rfl (tabL_nil) (k96 )

/-- laws.szBuilder -/
abbrev T47 : Type 1 := (β : Type) → List V → List V → Int → (Int → Option β) → Option β
def P47 (F95 : T95) (F96 : T96) : T47 := fun β a_Nodes a_Open left k =>
 F95 _ a_Nodes left fun n1 =>
 br (decide (n1 < 0)) (
 k (-1)) (
 F96 _ a_Open n1 fun n2 =>
 br (decide (n2 < 0)) (
 k (-1)) (
 k n2))
def F47 : T47 := P47 F95 F96 
abbrev s47 : List (Bool × List CK) := [(true, [.sl 4 false, .sl 1 true]), (false, [.int .i64])]
def G47 (F : T47) (β : Type) (e : (List V × List V × Unit) × (Int × Unit) × Unit) (k : V → Option β) : Option β := F β e.1.1 e.1.2.1 e.2.1.1 (fun y1 => k (.int .i64 y1))
abbrev W47 (F : T47) : WT := wrap s47 (G47 F)
theorem k47 (F95 : T95) (F96 : T96) (β : Type) (e : argsT s47) (k : V → Option β) : fnK cfg (tabL [(95, W95 F95), (96, W96 F96)]) noX 47 Tryd.f47 β (argsEnc s47 e) k = G47 (P47 F95 F96 ) β e k := by kernel_rfl
theorem ok47 : FnOk D 47 (W47 F47) := fn_okW [(95, W95 F95), (96, W96 F96)] noX (fun _ => rfl) Tryd.func47 rfl (tabL_cons ok95 (tabL_cons ok96 tabL_nil)) (k47 F95 F96 )

/-- laws.szSlot -/
abbrev T97 : Type 1 := (β : Type) → Int → List UInt8 → List UInt8 → List UInt8 → Int → Bool → Int → List UInt8 → Int → (Int → Option β) → Option β
def P97 (F43 : T43) : T97 := fun β a_Mode a_To_Host a_To_Path a_Digest a_Node a_Done a_Code a_Body left k =>
 F43 _ a_To_Host a_To_Path left fun n1 =>
 br (decide (n1 < 0)) (
 k (-1)) (
 br (decide (IntKind.wrap .i64 (n1 - (a_Digest.length : Int)) < 0)) (
 k (-1)) (
 br (decide (IntKind.wrap .i64 ((IntKind.wrap .i64 (n1 - (a_Digest.length : Int))) - (a_Body.length : Int)) < 0)) (
 k (-1)) (
 k (IntKind.wrap .i64 ((IntKind.wrap .i64 (n1 - (a_Digest.length : Int))) - (a_Body.length : Int))))))
def F97 : T97 := P97 F43 
abbrev s97 : List (Bool × List CK) := [(true, [.int .i64, .str, .str, .str, .int .i64, .bool, .int .i64, .str]), (false, [.int .i64])]
def G97 (F : T97) (β : Type) (e : (Int × List UInt8 × List UInt8 × List UInt8 × Int × Bool × Int × List UInt8 × Unit) × (Int × Unit) × Unit) (k : V → Option β) : Option β := let a0_0 := e.1; let a0_1 := a0_0.2; let a0_2 := a0_1.2; let a0_3 := a0_2.2; let a0_4 := a0_3.2; let a0_5 := a0_4.2; let a0_6 := a0_5.2; let a0_7 := a0_6.2; F β a0_0.1 a0_1.1 a0_2.1 a0_3.1 a0_4.1 a0_5.1 a0_6.1 a0_7.1 e.2.1.1 (fun y1 => k (.int .i64 y1))
abbrev W97 (F : T97) : WT := wrap s97 (G97 F)
theorem k97 (F43 : T43) (β : Type) (e : argsT s97) (k : V → Option β) : fnK cfg (tabL [(43, W43 F43)]) noX 97 Tryd.f97 β (argsEnc s97 e) k = G97 (P97 F43 ) β e k := by kernel_rfl
theorem ok97 : FnOk D 97 (W97 F97) := fn_okW [(43, W43 F43)] noX (fun _ => rfl) Tryd.func97 rfl (tabL_cons ok43 tabL_nil) (k97 F43 )

/-- laws.szSlotS -/
abbrev T48 : Type 1 := (β : Type) → List V → Int → (Int → Option β) → Option β
def P48 (F97 : T97) : T48 := fun β a left k =>
 br (decide (IntKind.wrap .i64 (left - (a.length : Int)) < 0)) (
 k (-1)) (
 whileK (fun s1 =>
 br (decide ((lI s1 2) < ((lL s1 0).length : Int))) (
 chk (0 ≤ (lI s1 2)) <|
 idx true [.int .i64, .str, .str, .str, .int .i64, .bool, .int .i64, .str] (lL s1 0) ((lI s1 2).toNat) fun (e2 : Int × List UInt8 × List UInt8 × List UInt8 × Int × Bool × Int × List UInt8 × Unit) =>
 F97 _ e2.1 e2.2.1 e2.2.2.1 e2.2.2.2.1 e2.2.2.2.2.1 e2.2.2.2.2.2.1 e2.2.2.2.2.2.2.1 e2.2.2.2.2.2.2.2.1 (lI s1 1) fun n3 =>
 br (decide (n3 < 0)) (
 some (.inr (0, [.i n3, .i (-1)]))) (
 some (.inl [.l (lL s1 0), .i n3, .i (IntKind.wrap .i64 ((lI s1 2) + 1))]))) (
 some (.inr (1, [.i (lI s1 1)])))) [.l a, .i (IntKind.wrap .i64 (left - (a.length : Int))), .i 0] fun (r4 : Nat × List Leaf) =>
 if r4.1 = 0 then
 k (lI r4.2 1)
 else
 k (lI r4.2 0))
def F48 : T48 := P48 F97 
def X48 : Exits := fun i => lookN i [] [(5, [(.ret, xk 27 [(1, .int .i64 0), (4, .int .i64 0)] []), (.exit 0, xk 27 [(1, .int .i64 0)] [])])]
abbrev s48 : List (Bool × List CK) := [(false, [.sl 8 true]), (false, [.int .i64])]
def G48 (F : T48) (β : Type) (e : (List V × Unit) × (Int × Unit) × Unit) (k : V → Option β) : Option β := F β e.1.1 e.2.1.1 (fun y1 => k (.int .i64 y1))
abbrev W48 (F : T48) : WT := wrap s48 (G48 F)
theorem k48 (F97 : T97) (β : Type) (e : argsT s48) (k : V → Option β) : fnK cfg (tabL [(97, W97 F97)]) X48 48 Tryd.f48 β (argsEnc s48 e) k = G48 (P48 F97 ) β e k := by kernel_rfl
theorem ok48 : FnOk D 48 (W48 F48) := fn_okW [(97, W97 F97)] X48 (fun _ => rfl) Tryd.func48 rfl (tabL_cons ok97 tabL_nil) (k48 F97 )

/-- laws.szModule -/
abbrev T98 : Type 1 := (β : Type) → List UInt8 → List UInt8 → Bool → Int → List UInt8 → Int → (Int → Option β) → Option β
def P98 (F43 : T43) : T98 := fun β a_To_Host a_To_Path a_Done a_Code a_Body left k =>
 F43 _ a_To_Host a_To_Path left fun n1 =>
 br (decide (n1 < 0)) (
 k (-1)) (
 br (decide (IntKind.wrap .i64 (n1 - (a_Body.length : Int)) < 0)) (
 k (-1)) (
 k (IntKind.wrap .i64 (n1 - (a_Body.length : Int)))))
def F98 : T98 := P98 F43 
abbrev s98 : List (Bool × List CK) := [(true, [.str, .str, .bool, .int .i64, .str]), (false, [.int .i64])]
def G98 (F : T98) (β : Type) (e : (List UInt8 × List UInt8 × Bool × Int × List UInt8 × Unit) × (Int × Unit) × Unit) (k : V → Option β) : Option β := let a0_0 := e.1; let a0_1 := a0_0.2; let a0_2 := a0_1.2; let a0_3 := a0_2.2; let a0_4 := a0_3.2; F β a0_0.1 a0_1.1 a0_2.1 a0_3.1 a0_4.1 e.2.1.1 (fun y1 => k (.int .i64 y1))
abbrev W98 (F : T98) : WT := wrap s98 (G98 F)
theorem k98 (F43 : T43) (β : Type) (e : argsT s98) (k : V → Option β) : fnK cfg (tabL [(43, W43 F43)]) noX 98 Tryd.f98 β (argsEnc s98 e) k = G98 (P98 F43 ) β e k := by kernel_rfl
theorem ok98 : FnOk D 98 (W98 F98) := fn_okW [(43, W43 F43)] noX (fun _ => rfl) Tryd.func98 rfl (tabL_cons ok43 tabL_nil) (k98 F43 )

/-- laws.szModuleS -/
abbrev T49 : Type 1 := (β : Type) → List V → Int → (Int → Option β) → Option β
def P49 (F98 : T98) : T49 := fun β a left k =>
 br (decide (IntKind.wrap .i64 (left - (a.length : Int)) < 0)) (
 k (-1)) (
 whileK (fun s1 =>
 br (decide ((lI s1 2) < ((lL s1 0).length : Int))) (
 chk (0 ≤ (lI s1 2)) <|
 idx true [.str, .str, .bool, .int .i64, .str] (lL s1 0) ((lI s1 2).toNat) fun (e2 : List UInt8 × List UInt8 × Bool × Int × List UInt8 × Unit) =>
 F98 _ e2.1 e2.2.1 e2.2.2.1 e2.2.2.2.1 e2.2.2.2.2.1 (lI s1 1) fun n3 =>
 br (decide (n3 < 0)) (
 some (.inr (0, [.i n3, .i (-1)]))) (
 some (.inl [.l (lL s1 0), .i n3, .i (IntKind.wrap .i64 ((lI s1 2) + 1))]))) (
 some (.inr (1, [.i (lI s1 1)])))) [.l a, .i (IntKind.wrap .i64 (left - (a.length : Int))), .i 0] fun (r4 : Nat × List Leaf) =>
 if r4.1 = 0 then
 k (lI r4.2 1)
 else
 k (lI r4.2 0))
def F49 : T49 := P49 F98 
def X49 : Exits := fun i => lookN i [] [(5, [(.ret, xk 27 [(1, .int .i64 0), (4, .int .i64 0)] []), (.exit 0, xk 27 [(1, .int .i64 0)] [])])]
abbrev s49 : List (Bool × List CK) := [(false, [.sl 5 true]), (false, [.int .i64])]
def G49 (F : T49) (β : Type) (e : (List V × Unit) × (Int × Unit) × Unit) (k : V → Option β) : Option β := F β e.1.1 e.2.1.1 (fun y1 => k (.int .i64 y1))
abbrev W49 (F : T49) : WT := wrap s49 (G49 F)
theorem k49 (F98 : T98) (β : Type) (e : argsT s49) (k : V → Option β) : fnK cfg (tabL [(98, W98 F98)]) X49 49 Tryd.f49 β (argsEnc s49 e) k = G49 (P49 F98 ) β e k := by kernel_rfl
theorem ok49 : FnOk D 49 (W49 F49) := fn_okW [(98, W98 F98)] X49 (fun _ => rfl) Tryd.func49 rfl (tabL_cons ok98 tabL_nil) (k49 F98 )

/-- laws.szAddrS -/
abbrev T50 : Type 1 := (β : Type) → List V → Int → (Int → Option β) → Option β
def P50 (F43 : T43) : T50 := fun β a left k =>
 br (decide (IntKind.wrap .i64 (left - (a.length : Int)) < 0)) (
 k (-1)) (
 whileK (fun s1 =>
 br (decide ((lI s1 2) < ((lL s1 0).length : Int))) (
 chk (0 ≤ (lI s1 2)) <|
 idx true [.str, .str] (lL s1 0) ((lI s1 2).toNat) fun (e2 : List UInt8 × List UInt8 × Unit) =>
 F43 _ e2.1 e2.2.1 (lI s1 1) fun n3 =>
 br (decide (n3 < 0)) (
 some (.inr (0, [.i n3, .i (-1)]))) (
 some (.inl [.l (lL s1 0), .i n3, .i (IntKind.wrap .i64 ((lI s1 2) + 1))]))) (
 some (.inr (1, [.i (lI s1 1)])))) [.l a, .i (IntKind.wrap .i64 (left - (a.length : Int))), .i 0] fun (r4 : Nat × List Leaf) =>
 if r4.1 = 0 then
 k (lI r4.2 1)
 else
 k (lI r4.2 0))
def F50 : T50 := P50 F43 
def X50 : Exits := fun i => lookN i [] [(5, [(.ret, xk 27 [(1, .int .i64 0), (4, .int .i64 0)] []), (.exit 0, xk 27 [(1, .int .i64 0)] [])])]
abbrev s50 : List (Bool × List CK) := [(false, [.sl 2 true]), (false, [.int .i64])]
def G50 (F : T50) (β : Type) (e : (List V × Unit) × (Int × Unit) × Unit) (k : V → Option β) : Option β := F β e.1.1 e.2.1.1 (fun y1 => k (.int .i64 y1))
abbrev W50 (F : T50) : WT := wrap s50 (G50 F)
theorem k50 (F43 : T43) (β : Type) (e : argsT s50) (k : V → Option β) : fnK cfg (tabL [(43, W43 F43)]) X50 50 Tryd.f50 β (argsEnc s50 e) k = G50 (P50 F43 ) β e k := by kernel_rfl
theorem ok50 : FnOk D 50 (W50 F50) := fn_okW [(43, W43 F43)] X50 (fun _ => rfl) Tryd.func50 rfl (tabL_cons ok43 tabL_nil) (k50 F43 )

/-- laws.szPage -/
abbrev T21 : Type 1 := (β : Type) → List UInt8 → List UInt8 → Bool → List V → List V → List V → List UInt8 → List UInt8 → List V → Bool → List V → List V → List V → List V → List V → Int → Int → Int → Int → List V → List V → Bool → Int → (Int → Option β) → Option β
def P21 (F43 : T43) (F44 : T44) (F45 : T45) (F46 : T46) (F47 : T47) (F48 : T48) (F49 : T49) (F50 : T50) (F51 : T51) : T21 := fun β a_Addr_Host a_Addr_Path a_Policy_Set a_Policy_Scripts a_Policy_Styles a_Policy_Images a_Policy_Nonce a_Tok_Rest a_Queue a_Ended a_Builder_Nodes a_Builder_Open a_Slots a_Mods a_Entries a_Block a_Inline a_Deferred a_Entered a_Ran a_Log a_Loaded left k =>
 F43 _ a_Addr_Host a_Addr_Path left fun n1 =>
 br (decide (n1 < 0)) (
 k (-1)) (
 F44 _ a_Policy_Set a_Policy_Scripts a_Policy_Styles a_Policy_Images a_Policy_Nonce n1 fun n2 =>
 br (decide (n2 < 0)) (
 k (-1)) (
 F45 _ a_Tok_Rest n2 fun n3 =>
 br (decide (n3 < 0)) (
 k (-1)) (
 F46 _ a_Queue n3 fun n4 =>
 br (decide (n4 < 0)) (
 k (-1)) (
 F47 _ a_Builder_Nodes a_Builder_Open n4 fun n5 =>
 br (decide (n5 < 0)) (
 k (-1)) (
 F48 _ a_Slots n5 fun n6 =>
 br (decide (n6 < 0)) (
 k (-1)) (
 F49 _ a_Mods n6 fun n7 =>
 br (decide (n7 < 0)) (
 k (-1)) (
 F50 _ a_Entries n7 fun n8 =>
 br (decide (n8 < 0)) (
 k (-1)) (
 F50 _ a_Ran n8 fun n9 =>
 br (decide (n9 < 0)) (
 k (-1)) (
 F51 _ a_Log n9 fun n10 =>
 br (decide (n10 < 0)) (
 k (-1)) (
 k n10))))))))))
def F21 : T21 := P21 F43 F44 F45 F46 F47 F48 F49 F50 F51 
abbrev s21 : List (Bool × List CK) := [(true, [.str, .str, .bool, .sl 1 true, .sl 1 true, .sl 1 true, .str, .str, .sl 4 false, .bool, .sl 4 false, .sl 1 true, .sl 8 true, .sl 5 true, .sl 2 true, .int .i64, .int .i64, .int .i64, .int .i64, .sl 2 true, .sl 1 true, .bool]), (false, [.int .i64])]
def G21 (F : T21) (β : Type) (e : (List UInt8 × List UInt8 × Bool × List V × List V × List V × List UInt8 × List UInt8 × List V × Bool × List V × List V × List V × List V × List V × Int × Int × Int × Int × List V × List V × Bool × Unit) × (Int × Unit) × Unit) (k : V → Option β) : Option β := let a0_0 := e.1; let a0_1 := a0_0.2; let a0_2 := a0_1.2; let a0_3 := a0_2.2; let a0_4 := a0_3.2; let a0_5 := a0_4.2; let a0_6 := a0_5.2; let a0_7 := a0_6.2; let a0_8 := a0_7.2; let a0_9 := a0_8.2; let a0_10 := a0_9.2; let a0_11 := a0_10.2; let a0_12 := a0_11.2; let a0_13 := a0_12.2; let a0_14 := a0_13.2; let a0_15 := a0_14.2; let a0_16 := a0_15.2; let a0_17 := a0_16.2; let a0_18 := a0_17.2; let a0_19 := a0_18.2; let a0_20 := a0_19.2; let a0_21 := a0_20.2; F β a0_0.1 a0_1.1 a0_2.1 a0_3.1 a0_4.1 a0_5.1 a0_6.1 a0_7.1 a0_8.1 a0_9.1 a0_10.1 a0_11.1 a0_12.1 a0_13.1 a0_14.1 a0_15.1 a0_16.1 a0_17.1 a0_18.1 a0_19.1 a0_20.1 a0_21.1 e.2.1.1 (fun y1 => k (.int .i64 y1))
abbrev W21 (F : T21) : WT := wrap s21 (G21 F)
theorem k21 (F43 : T43) (F44 : T44) (F45 : T45) (F46 : T46) (F47 : T47) (F48 : T48) (F49 : T49) (F50 : T50) (F51 : T51) (β : Type) (e : argsT s21) (k : V → Option β) : fnK cfg (tabL [(43, W43 F43), (44, W44 F44), (45, W45 F45), (46, W46 F46), (47, W47 F47), (48, W48 F48), (49, W49 F49), (50, W50 F50), (51, W51 F51)]) noX 21 Tryd.f21 β (argsEnc s21 e) k = G21 (P21 F43 F44 F45 F46 F47 F48 F49 F50 F51 ) β e k := by kernel_rfl
theorem ok21 : FnOk D 21 (W21 F21) := fn_okW [(43, W43 F43), (44, W44 F44), (45, W45 F45), (46, W46 F46), (47, W47 F47), (48, W48 F48), (49, W49 F49), (50, W50 F50), (51, W51 F51)] noX (fun _ => rfl) Tryd.func21 rfl (tabL_cons ok43 (tabL_cons ok44 (tabL_cons ok45 (tabL_cons ok46 (tabL_cons ok47 (tabL_cons ok48 (tabL_cons ok49 (tabL_cons ok50 (tabL_cons ok51 tabL_nil))))))))) (k21 F43 F44 F45 F46 F47 F48 F49 F50 F51 )

/-- laws.toStringS -/
abbrev T62 : Type 1 := (β : Type) → List V → (List V → Option β) → Option β
def P62 : T62 := fun β a k =>
 chk (0 ≤ (a.length : Int) ∧ (a.length : Int) ≤ (a.length : Int) ∧ (a.length : Int) * 16 ≤ 140737488355328 ∧ (a.length : Int) ≤ 140737488355328) <|
 whileK (fun s1 =>
 br (decide ((lI s1 2) < ((lL s1 0).length : Int))) (
 chk (0 ≤ (lI s1 2)) <|
 idx false [.str] (lL s1 0) ((lI s1 2).toNat) fun (e2 : List UInt8 × Unit) =>
 chk (0 ≤ (lI s1 2) ∧ (lI s1 2).toNat < (lL s1 1).length) <|
 storeO (lL s1 1) ((lI s1 2).toNat) 0 [.str e2.1] fun l3 =>
 some (.inl [.l (lL s1 0), .l l3, .i (IntKind.wrap .i64 ((lI s1 2) + 1))])) (
 some (.inr (0, [.l (lL s1 1)])))) [.l a, .l (List.replicate ((a.length : Int).toNat) (.str [])), .i 0] fun (r4 : Nat × List Leaf) =>
 k (lL r4.2 0)
def F62 : T62 := P62 
def X62 : Exits := fun i => lookN i [] [(3, [(.exit 0, xk 22 [(3, .own 1000000 1 .flat [])] [])])]
abbrev s62 : List (Bool × List CK) := [(false, [.sl 1 true])]
def G62 (F : T62) (β : Type) (e : (List V × Unit) × Unit) (k : V → Option β) : Option β := F β e.1.1 (fun y1 => k (.own 0 1 .flat y1))
abbrev W62 (F : T62) : WT := wrap s62 (G62 F)
theorem k62 (β : Type) (e : argsT s62) (k : V → Option β) : fnK cfg (tabL []) X62 62 Tryd.f62 β (argsEnc s62 e) k = G62 (P62 ) β e k := by kernel_rfl
theorem ok62 : FnOk D 62 (W62 F62) := fn_okW [] X62 (fun _ => rfl) Tryd.func62 rfl (tabL_nil) (k62 )

/-- laws.toPolicy -/
abbrev T55 : Type 1 := (β : Type) → Bool → List V → List V → List V → List UInt8 → (Bool → List V → List V → List V → List UInt8 → Option β) → Option β
def P55 (F62 : T62) : T55 := fun β a_Set a_Scripts a_Styles a_Images a_Nonce k =>
 F62 _ a_Scripts fun l1 =>
 F62 _ a_Styles fun l2 =>
 F62 _ a_Images fun l3 =>
 k a_Set l1 l2 l3 a_Nonce
def F55 : T55 := P55 F62 
abbrev s55 : List (Bool × List CK) := [(true, [.bool, .sl 1 true, .sl 1 true, .sl 1 true, .str])]
def G55 (F : T55) (β : Type) (e : (Bool × List V × List V × List V × List UInt8 × Unit) × Unit) (k : V → Option β) : Option β := let a0_0 := e.1; let a0_1 := a0_0.2; let a0_2 := a0_1.2; let a0_3 := a0_2.2; let a0_4 := a0_3.2; F β a0_0.1 a0_1.1 a0_2.1 a0_3.1 a0_4.1 (fun y1 y2 y3 y4 y5 => k (.agg [.bool y1, .own 1 1 .flat y2, .own 2 1 .flat y3, .own 3 1 .flat y4, .str y5]))
abbrev W55 (F : T55) : WT := wrap s55 (G55 F)
theorem k55 (F62 : T62) (β : Type) (e : argsT s55) (k : V → Option β) : fnK cfg (tabL [(62, W62 F62)]) noX 55 Tryd.f55 β (argsEnc s55 e) k = G55 (P55 F62 ) β e k := by kernel_rfl
theorem ok55 : FnOk D 55 (W55 F55) := fn_okW [(62, W62 F62)] noX (fun _ => rfl) Tryd.func55 rfl (tabL_cons ok62 tabL_nil) (k55 F62 )

/-- laws.toTokenizer -/
abbrev T56 : Type 1 := (β : Type) → List UInt8 → (List UInt8 → Option β) → Option β
def P56 : T56 := fun β a_Rest k =>
 k a_Rest
def F56 : T56 := P56 
abbrev s56 : List (Bool × List CK) := [(true, [.str])]
def G56 (F : T56) (β : Type) (e : (List UInt8 × Unit) × Unit) (k : V → Option β) : Option β := F β e.1.1 (fun y1 => k (.agg [.str y1]))
abbrev W56 (F : T56) : WT := wrap s56 (G56 F)
theorem k56 (β : Type) (e : argsT s56) (k : V → Option β) : fnK cfg (tabL []) noX 56 Tryd.f56 β (argsEnc s56 e) k = G56 (P56 ) β e k := by kernel_rfl
theorem ok56 : FnOk D 56 (W56 F56) := fn_okW [] noX (fun _ => rfl) Tryd.func56 rfl (tabL_nil) (k56 )

/-- laws.toAttr -/
abbrev T135 : Type 1 := (β : Type) → List UInt8 → List UInt8 → (List UInt8 → List UInt8 → Option β) → Option β
def P135 : T135 := fun β a_Name a_Value k =>
 k a_Name a_Value
def F135 : T135 := P135 
abbrev s135 : List (Bool × List CK) := [(true, [.str, .str])]
def G135 (F : T135) (β : Type) (e : (List UInt8 × List UInt8 × Unit) × Unit) (k : V → Option β) : Option β := F β e.1.1 e.1.2.1 (fun y1 y2 => k (.agg [.str y1, .str y2]))
abbrev W135 (F : T135) : WT := wrap s135 (G135 F)
theorem k135 (β : Type) (e : argsT s135) (k : V → Option β) : fnK cfg (tabL []) noX 135 Tryd.f135 β (argsEnc s135 e) k = G135 (P135 ) β e k := by kernel_rfl
theorem ok135 : FnOk D 135 (W135 F135) := fn_okW [] noX (fun _ => rfl) Tryd.func135 rfl (tabL_nil) (k135 )

/-- laws.toAttrS -/
abbrev T120 : Type 1 := (β : Type) → List V → (List V → Option β) → Option β
def P120 (F135 : T135) : T120 := fun β a k =>
 chk (0 ≤ (a.length : Int) ∧ (a.length : Int) ≤ (a.length : Int) ∧ (a.length : Int) * 32 ≤ 140737488355328 ∧ (a.length : Int) ≤ 140737488355328) <|
 whileK (fun s1 =>
 br (decide ((lI s1 2) < ((lL s1 0).length : Int))) (
 chk (0 ≤ (lI s1 2)) <|
 idx true [.str, .str] (lL s1 0) ((lI s1 2).toNat) fun (e2 : List UInt8 × List UInt8 × Unit) =>
 F135 _ e2.1 e2.2.1 fun t3 t4 =>
 chk (0 ≤ (lI s1 2) ∧ (lI s1 2).toNat < (lL s1 1).length) <|
 storeO (lL s1 1) ((lI s1 2).toNat) 0 [.str t3, .str t4] fun l5 =>
 some (.inl [.l (lL s1 0), .l l5, .i (IntKind.wrap .i64 ((lI s1 2) + 1))])) (
 some (.inr (0, [.l (lL s1 1)])))) [.l a, .l (List.replicate ((a.length : Int).toNat) (.agg [.str [], .str []])), .i 0] fun (r6 : Nat × List Leaf) =>
 k (lL r6.2 0)
def F120 : T120 := P120 F135 
def X120 : Exits := fun i => lookN i [] [(3, [(.exit 0, xk 23 [(3, .own 1000000 2 .flat [])] [])])]
abbrev s120 : List (Bool × List CK) := [(false, [.sl 2 true])]
def G120 (F : T120) (β : Type) (e : (List V × Unit) × Unit) (k : V → Option β) : Option β := F β e.1.1 (fun y1 => k (.own 0 2 .flat y1))
abbrev W120 (F : T120) : WT := wrap s120 (G120 F)
theorem k120 (F135 : T135) (β : Type) (e : argsT s120) (k : V → Option β) : fnK cfg (tabL [(135, W135 F135)]) X120 120 Tryd.f120 β (argsEnc s120 e) k = G120 (P120 F135 ) β e k := by kernel_rfl
theorem ok120 : FnOk D 120 (W120 F120) := fn_okW [(135, W135 F135)] X120 (fun _ => rfl) Tryd.func120 rfl (tabL_cons ok135 tabL_nil) (k120 F135 )

/-- laws.toToken -/
abbrev T99 : Type 1 := (β : Type) → Int → List UInt8 → List V → List UInt8 → (Int → List UInt8 → List V → List UInt8 → Option β) → Option β
def P99 (F120 : T120) : T99 := fun β a_Kind a_Name a_Attrs a_Text k =>
 F120 _ a_Attrs fun l1 =>
 k a_Kind a_Name l1 a_Text
def F99 : T99 := P99 F120 
abbrev s99 : List (Bool × List CK) := [(true, [.int .i64, .str, .sl 2 true, .str])]
def G99 (F : T99) (β : Type) (e : (Int × List UInt8 × List V × List UInt8 × Unit) × Unit) (k : V → Option β) : Option β := F β e.1.1 e.1.2.1 e.1.2.2.1 e.1.2.2.2.1 (fun y1 y2 y3 y4 => k (.agg [.int .i64 y1, .str y2, .own 2 2 .flat y3, .str y4]))
abbrev W99 (F : T99) : WT := wrap s99 (G99 F)
theorem k99 (F120 : T120) (β : Type) (e : argsT s99) (k : V → Option β) : fnK cfg (tabL [(120, W120 F120)]) noX 99 Tryd.f99 β (argsEnc s99 e) k = G99 (P99 F120 ) β e k := by kernel_rfl
theorem ok99 : FnOk D 99 (W99 F99) := fn_okW [(120, W120 F120)] noX (fun _ => rfl) Tryd.func99 rfl (tabL_cons ok120 tabL_nil) (k99 F120 )

/-- laws.toTokenS -/
abbrev T57 : Type 1 := (β : Type) → List V → (List V → Option β) → Option β
def P57 (F99 : T99) : T57 := fun β a k =>
 chk (0 ≤ (a.length : Int) ∧ (a.length : Int) ≤ (a.length : Int) ∧ (a.length : Int) * 64 ≤ 140737488355328 ∧ (a.length : Int) ≤ 140737488355328) <|
 whileK (fun s1 =>
 br (decide ((lI s1 2) < ((lL s1 0).length : Int))) (
 chk (0 ≤ (lI s1 2)) <|
 idx true [.int .i64, .str, .sl 2 true, .str] (lL s1 0) ((lI s1 2).toNat) fun (e2 : Int × List UInt8 × List V × List UInt8 × Unit) =>
 F99 _ e2.1 e2.2.1 e2.2.2.1 e2.2.2.2.1 fun n3 t4 l5 t6 =>
 chk (0 ≤ (lI s1 2) ∧ (lI s1 2).toNat < (lL s1 1).length) <|
 storeO (lL s1 1) ((lI s1 2).toNat) 0 [.int .i64 n3, .str t4, .sl 2 true l5, .str t6] fun l7 =>
 some (.inl [.l (lL s1 0), .l l7, .i (IntKind.wrap .i64 ((lI s1 2) + 1))])) (
 some (.inr (0, [.l (lL s1 1)])))) [.l a, .l (List.replicate ((a.length : Int).toNat) (.agg [.int .i64 0, .str [], .sl 2 true [], .str []])), .i 0] fun (r8 : Nat × List Leaf) =>
 k (lL r8.2 0)
def F57 : T57 := P57 F99 
def X57 : Exits := fun i => lookN i [] [(3, [(.exit 0, xk 23 [(3, .own 1000000 4 .clean [])] [])])]
abbrev s57 : List (Bool × List CK) := [(false, [.sl 4 false])]
def G57 (F : T57) (β : Type) (e : (List V × Unit) × Unit) (k : V → Option β) : Option β := F β e.1.1 (fun y1 => k (.own 0 4 .clean y1))
abbrev W57 (F : T57) : WT := wrap s57 (G57 F)
theorem k57 (F99 : T99) (β : Type) (e : argsT s57) (k : V → Option β) : fnK cfg (tabL [(99, W99 F99)]) X57 57 Tryd.f57 β (argsEnc s57 e) k = G57 (P57 F99 ) β e k := by kernel_rfl
theorem ok57 : FnOk D 57 (W57 F57) := fn_okW [(99, W99 F99)] X57 (fun _ => rfl) Tryd.func57 rfl (tabL_cons ok99 tabL_nil) (k57 F99 )

/-- laws.toNode -/
abbrev T121 : Type 1 := (β : Type) → List UInt8 → List UInt8 → Int → List V → (List UInt8 → List UInt8 → Int → List V → Option β) → Option β
def P121 (F120 : T120) : T121 := fun β a_Name a_Text a_Parent a_Attrs k =>
 F120 _ a_Attrs fun l1 =>
 k a_Name a_Text a_Parent l1
def F121 : T121 := P121 F120 
abbrev s121 : List (Bool × List CK) := [(true, [.str, .str, .int .i64, .sl 2 true])]
def G121 (F : T121) (β : Type) (e : (List UInt8 × List UInt8 × Int × List V × Unit) × Unit) (k : V → Option β) : Option β := F β e.1.1 e.1.2.1 e.1.2.2.1 e.1.2.2.2.1 (fun y1 y2 y3 y4 => k (.agg [.str y1, .str y2, .int .i64 y3, .own 3 2 .flat y4]))
abbrev W121 (F : T121) : WT := wrap s121 (G121 F)
theorem k121 (F120 : T120) (β : Type) (e : argsT s121) (k : V → Option β) : fnK cfg (tabL [(120, W120 F120)]) noX 121 Tryd.f121 β (argsEnc s121 e) k = G121 (P121 F120 ) β e k := by kernel_rfl
theorem ok121 : FnOk D 121 (W121 F121) := fn_okW [(120, W120 F120)] noX (fun _ => rfl) Tryd.func121 rfl (tabL_cons ok120 tabL_nil) (k121 F120 )

/-- laws.toNodeS -/
abbrev T100 : Type 1 := (β : Type) → List V → (List V → Option β) → Option β
def P100 (F121 : T121) : T100 := fun β a k =>
 chk (0 ≤ (a.length : Int) ∧ (a.length : Int) ≤ (a.length : Int) ∧ (a.length : Int) * 64 ≤ 140737488355328 ∧ (a.length : Int) ≤ 140737488355328) <|
 whileK (fun s1 =>
 br (decide ((lI s1 2) < ((lL s1 0).length : Int))) (
 chk (0 ≤ (lI s1 2)) <|
 idx true [.str, .str, .int .i64, .sl 2 true] (lL s1 0) ((lI s1 2).toNat) fun (e2 : List UInt8 × List UInt8 × Int × List V × Unit) =>
 F121 _ e2.1 e2.2.1 e2.2.2.1 e2.2.2.2.1 fun t3 t4 n5 l6 =>
 chk (0 ≤ (lI s1 2) ∧ (lI s1 2).toNat < (lL s1 1).length) <|
 storeO (lL s1 1) ((lI s1 2).toNat) 0 [.str t3, .str t4, .int .i64 n5, .sl 2 true l6] fun l7 =>
 some (.inl [.l (lL s1 0), .l l7, .i (IntKind.wrap .i64 ((lI s1 2) + 1))])) (
 some (.inr (0, [.l (lL s1 1)])))) [.l a, .l (List.replicate ((a.length : Int).toNat) (.agg [.str [], .str [], .int .i64 0, .sl 2 true []])), .i 0] fun (r8 : Nat × List Leaf) =>
 k (lL r8.2 0)
def F100 : T100 := P100 F121 
def X100 : Exits := fun i => lookN i [] [(3, [(.exit 0, xk 23 [(3, .own 1000000 4 .clean [])] [])])]
abbrev s100 : List (Bool × List CK) := [(false, [.sl 4 false])]
def G100 (F : T100) (β : Type) (e : (List V × Unit) × Unit) (k : V → Option β) : Option β := F β e.1.1 (fun y1 => k (.own 0 4 .clean y1))
abbrev W100 (F : T100) : WT := wrap s100 (G100 F)
theorem k100 (F121 : T121) (β : Type) (e : argsT s100) (k : V → Option β) : fnK cfg (tabL [(121, W121 F121)]) X100 100 Tryd.f100 β (argsEnc s100 e) k = G100 (P100 F121 ) β e k := by kernel_rfl
theorem ok100 : FnOk D 100 (W100 F100) := fn_okW [(121, W121 F121)] X100 (fun _ => rfl) Tryd.func100 rfl (tabL_cons ok121 tabL_nil) (k100 F121 )

/-- laws.toIntS -/
abbrev T101 : Type 1 := (β : Type) → List V → (List V → Option β) → Option β
def P101 : T101 := fun β a k =>
 chk (0 ≤ (a.length : Int) ∧ (a.length : Int) ≤ (a.length : Int) ∧ (a.length : Int) * 8 ≤ 140737488355328 ∧ (a.length : Int) ≤ 140737488355328) <|
 whileK (fun s1 =>
 br (decide ((lI s1 2) < ((lL s1 0).length : Int))) (
 chk (0 ≤ (lI s1 2)) <|
 idx false [.int .i64] (lL s1 0) ((lI s1 2).toNat) fun (e2 : Int × Unit) =>
 chk (0 ≤ (lI s1 2) ∧ (lI s1 2).toNat < (lL s1 1).length) <|
 storeO (lL s1 1) ((lI s1 2).toNat) 0 [.int .i64 e2.1] fun l3 =>
 some (.inl [.l (lL s1 0), .l l3, .i (IntKind.wrap .i64 ((lI s1 2) + 1))])) (
 some (.inr (0, [.l (lL s1 1)])))) [.l a, .l (List.replicate ((a.length : Int).toNat) (.int .i64 0)), .i 0] fun (r4 : Nat × List Leaf) =>
 k (lL r4.2 0)
def F101 : T101 := P101 
def X101 : Exits := fun i => lookN i [] [(3, [(.exit 0, xk 22 [(3, .own 1000000 1 .flat [])] [])])]
abbrev s101 : List (Bool × List CK) := [(false, [.sl 1 true])]
def G101 (F : T101) (β : Type) (e : (List V × Unit) × Unit) (k : V → Option β) : Option β := F β e.1.1 (fun y1 => k (.own 0 1 .flat y1))
abbrev W101 (F : T101) : WT := wrap s101 (G101 F)
theorem k101 (β : Type) (e : argsT s101) (k : V → Option β) : fnK cfg (tabL []) X101 101 Tryd.f101 β (argsEnc s101 e) k = G101 (P101 ) β e k := by kernel_rfl
theorem ok101 : FnOk D 101 (W101 F101) := fn_okW [] X101 (fun _ => rfl) Tryd.func101 rfl (tabL_nil) (k101 )

/-- laws.toBuilder -/
abbrev T58 : Type 1 := (β : Type) → List V → List V → (List V → List V → Option β) → Option β
def P58 (F100 : T100) (F101 : T101) : T58 := fun β a_Nodes a_Open k =>
 F100 _ a_Nodes fun l1 =>
 F101 _ a_Open fun l2 =>
 k l1 l2
def F58 : T58 := P58 F100 F101 
abbrev s58 : List (Bool × List CK) := [(true, [.sl 4 false, .sl 1 true])]
def G58 (F : T58) (β : Type) (e : (List V × List V × Unit) × Unit) (k : V → Option β) : Option β := F β e.1.1 e.1.2.1 (fun y1 y2 => k (.agg [.own 0 4 .clean y1, .own 1 1 .flat y2]))
abbrev W58 (F : T58) : WT := wrap s58 (G58 F)
theorem k58 (F100 : T100) (F101 : T101) (β : Type) (e : argsT s58) (k : V → Option β) : fnK cfg (tabL [(100, W100 F100), (101, W101 F101)]) noX 58 Tryd.f58 β (argsEnc s58 e) k = G58 (P58 F100 F101 ) β e k := by kernel_rfl
theorem ok58 : FnOk D 58 (W58 F58) := fn_okW [(100, W100 F100), (101, W101 F101)] noX (fun _ => rfl) Tryd.func58 rfl (tabL_cons ok100 (tabL_cons ok101 tabL_nil)) (k58 F100 F101 )

/-- laws.toSlot -/
abbrev T102 : Type 1 := (β : Type) → Int → List UInt8 → List UInt8 → List UInt8 → Int → Bool → Int → List UInt8 → (Int → List UInt8 → List UInt8 → List UInt8 → Int → Bool → Int → List UInt8 → Option β) → Option β
def P102 (F54 : T54) : T102 := fun β a_Mode a_To_Host a_To_Path a_Digest a_Node a_Done a_Code a_Body k =>
 F54 _ a_To_Host a_To_Path fun t1 t2 =>
 k a_Mode t1 t2 a_Digest a_Node a_Done a_Code a_Body
def F102 : T102 := P102 F54 
abbrev s102 : List (Bool × List CK) := [(true, [.int .i64, .str, .str, .str, .int .i64, .bool, .int .i64, .str])]
def G102 (F : T102) (β : Type) (e : (Int × List UInt8 × List UInt8 × List UInt8 × Int × Bool × Int × List UInt8 × Unit) × Unit) (k : V → Option β) : Option β := let a0_0 := e.1; let a0_1 := a0_0.2; let a0_2 := a0_1.2; let a0_3 := a0_2.2; let a0_4 := a0_3.2; let a0_5 := a0_4.2; let a0_6 := a0_5.2; let a0_7 := a0_6.2; F β a0_0.1 a0_1.1 a0_2.1 a0_3.1 a0_4.1 a0_5.1 a0_6.1 a0_7.1 (fun y1 y2 y3 y4 y5 y6 y7 y8 => k (.agg [.int .i64 y1, .str y2, .str y3, .str y4, .int .i64 y5, .bool y6, .int .i64 y7, .str y8]))
abbrev W102 (F : T102) : WT := wrap s102 (G102 F)
theorem k102 (F54 : T54) (β : Type) (e : argsT s102) (k : V → Option β) : fnK cfg (tabL [(54, W54 F54)]) noX 102 Tryd.f102 β (argsEnc s102 e) k = G102 (P102 F54 ) β e k := by kernel_rfl
theorem ok102 : FnOk D 102 (W102 F102) := fn_okW [(54, W54 F54)] noX (fun _ => rfl) Tryd.func102 rfl (tabL_cons ok54 tabL_nil) (k102 F54 )

/-- laws.toSlotS -/
abbrev T59 : Type 1 := (β : Type) → List V → (List V → Option β) → Option β
def P59 (F102 : T102) : T59 := fun β a k =>
 chk (0 ≤ (a.length : Int) ∧ (a.length : Int) ≤ (a.length : Int) ∧ (a.length : Int) * 96 ≤ 140737488355328 ∧ (a.length : Int) ≤ 140737488355328) <|
 whileK (fun s1 =>
 br (decide ((lI s1 2) < ((lL s1 0).length : Int))) (
 chk (0 ≤ (lI s1 2)) <|
 idx true [.int .i64, .str, .str, .str, .int .i64, .bool, .int .i64, .str] (lL s1 0) ((lI s1 2).toNat) fun (e2 : Int × List UInt8 × List UInt8 × List UInt8 × Int × Bool × Int × List UInt8 × Unit) =>
 F102 _ e2.1 e2.2.1 e2.2.2.1 e2.2.2.2.1 e2.2.2.2.2.1 e2.2.2.2.2.2.1 e2.2.2.2.2.2.2.1 e2.2.2.2.2.2.2.2.1 fun n3 t4 t5 t6 n7 b8 n9 t10 =>
 chk (0 ≤ (lI s1 2) ∧ (lI s1 2).toNat < (lL s1 1).length) <|
 storeO (lL s1 1) ((lI s1 2).toNat) 0 [.int .i64 n3, .str t4, .str t5, .str t6, .int .i64 n7, .bool b8, .int .i64 n9, .str t10] fun l11 =>
 some (.inl [.l (lL s1 0), .l l11, .i (IntKind.wrap .i64 ((lI s1 2) + 1))])) (
 some (.inr (0, [.l (lL s1 1)])))) [.l a, .l (List.replicate ((a.length : Int).toNat) (.agg [.int .i64 0, .str [], .str [], .str [], .int .i64 0, .bool false, .int .i64 0, .str []])), .i 0] fun (r12 : Nat × List Leaf) =>
 k (lL r12.2 0)
def F59 : T59 := P59 F102 
def X59 : Exits := fun i => lookN i [] [(3, [(.exit 0, xk 23 [(3, .own 1000000 8 .flat [])] [])])]
abbrev s59 : List (Bool × List CK) := [(false, [.sl 8 true])]
def G59 (F : T59) (β : Type) (e : (List V × Unit) × Unit) (k : V → Option β) : Option β := F β e.1.1 (fun y1 => k (.own 0 8 .flat y1))
abbrev W59 (F : T59) : WT := wrap s59 (G59 F)
theorem k59 (F102 : T102) (β : Type) (e : argsT s59) (k : V → Option β) : fnK cfg (tabL [(102, W102 F102)]) X59 59 Tryd.f59 β (argsEnc s59 e) k = G59 (P59 F102 ) β e k := by kernel_rfl
theorem ok59 : FnOk D 59 (W59 F59) := fn_okW [(102, W102 F102)] X59 (fun _ => rfl) Tryd.func59 rfl (tabL_cons ok102 tabL_nil) (k59 F102 )

/-- laws.toModule -/
abbrev T103 : Type 1 := (β : Type) → List UInt8 → List UInt8 → Bool → Int → List UInt8 → (List UInt8 → List UInt8 → Bool → Int → List UInt8 → Option β) → Option β
def P103 (F54 : T54) : T103 := fun β a_To_Host a_To_Path a_Done a_Code a_Body k =>
 F54 _ a_To_Host a_To_Path fun t1 t2 =>
 k t1 t2 a_Done a_Code a_Body
def F103 : T103 := P103 F54 
abbrev s103 : List (Bool × List CK) := [(true, [.str, .str, .bool, .int .i64, .str])]
def G103 (F : T103) (β : Type) (e : (List UInt8 × List UInt8 × Bool × Int × List UInt8 × Unit) × Unit) (k : V → Option β) : Option β := let a0_0 := e.1; let a0_1 := a0_0.2; let a0_2 := a0_1.2; let a0_3 := a0_2.2; let a0_4 := a0_3.2; F β a0_0.1 a0_1.1 a0_2.1 a0_3.1 a0_4.1 (fun y1 y2 y3 y4 y5 => k (.agg [.str y1, .str y2, .bool y3, .int .i64 y4, .str y5]))
abbrev W103 (F : T103) : WT := wrap s103 (G103 F)
theorem k103 (F54 : T54) (β : Type) (e : argsT s103) (k : V → Option β) : fnK cfg (tabL [(54, W54 F54)]) noX 103 Tryd.f103 β (argsEnc s103 e) k = G103 (P103 F54 ) β e k := by kernel_rfl
theorem ok103 : FnOk D 103 (W103 F103) := fn_okW [(54, W54 F54)] noX (fun _ => rfl) Tryd.func103 rfl (tabL_cons ok54 tabL_nil) (k103 F54 )

/-- laws.toModuleS -/
abbrev T60 : Type 1 := (β : Type) → List V → (List V → Option β) → Option β
def P60 (F103 : T103) : T60 := fun β a k =>
 chk (0 ≤ (a.length : Int) ∧ (a.length : Int) ≤ (a.length : Int) ∧ (a.length : Int) * 64 ≤ 140737488355328 ∧ (a.length : Int) ≤ 140737488355328) <|
 whileK (fun s1 =>
 br (decide ((lI s1 2) < ((lL s1 0).length : Int))) (
 chk (0 ≤ (lI s1 2)) <|
 idx true [.str, .str, .bool, .int .i64, .str] (lL s1 0) ((lI s1 2).toNat) fun (e2 : List UInt8 × List UInt8 × Bool × Int × List UInt8 × Unit) =>
 F103 _ e2.1 e2.2.1 e2.2.2.1 e2.2.2.2.1 e2.2.2.2.2.1 fun t3 t4 b5 n6 t7 =>
 chk (0 ≤ (lI s1 2) ∧ (lI s1 2).toNat < (lL s1 1).length) <|
 storeO (lL s1 1) ((lI s1 2).toNat) 0 [.str t3, .str t4, .bool b5, .int .i64 n6, .str t7] fun l8 =>
 some (.inl [.l (lL s1 0), .l l8, .i (IntKind.wrap .i64 ((lI s1 2) + 1))])) (
 some (.inr (0, [.l (lL s1 1)])))) [.l a, .l (List.replicate ((a.length : Int).toNat) (.agg [.str [], .str [], .bool false, .int .i64 0, .str []])), .i 0] fun (r9 : Nat × List Leaf) =>
 k (lL r9.2 0)
def F60 : T60 := P60 F103 
def X60 : Exits := fun i => lookN i [] [(3, [(.exit 0, xk 23 [(3, .own 1000000 5 .flat [])] [])])]
abbrev s60 : List (Bool × List CK) := [(false, [.sl 5 true])]
def G60 (F : T60) (β : Type) (e : (List V × Unit) × Unit) (k : V → Option β) : Option β := F β e.1.1 (fun y1 => k (.own 0 5 .flat y1))
abbrev W60 (F : T60) : WT := wrap s60 (G60 F)
theorem k60 (F103 : T103) (β : Type) (e : argsT s60) (k : V → Option β) : fnK cfg (tabL [(103, W103 F103)]) X60 60 Tryd.f60 β (argsEnc s60 e) k = G60 (P60 F103 ) β e k := by kernel_rfl
theorem ok60 : FnOk D 60 (W60 F60) := fn_okW [(103, W103 F103)] X60 (fun _ => rfl) Tryd.func60 rfl (tabL_cons ok103 tabL_nil) (k60 F103 )

/-- laws.toAddrS -/
abbrev T61 : Type 1 := (β : Type) → List V → (List V → Option β) → Option β
def P61 (F54 : T54) : T61 := fun β a k =>
 chk (0 ≤ (a.length : Int) ∧ (a.length : Int) ≤ (a.length : Int) ∧ (a.length : Int) * 32 ≤ 140737488355328 ∧ (a.length : Int) ≤ 140737488355328) <|
 whileK (fun s1 =>
 br (decide ((lI s1 2) < ((lL s1 0).length : Int))) (
 chk (0 ≤ (lI s1 2)) <|
 idx true [.str, .str] (lL s1 0) ((lI s1 2).toNat) fun (e2 : List UInt8 × List UInt8 × Unit) =>
 F54 _ e2.1 e2.2.1 fun t3 t4 =>
 chk (0 ≤ (lI s1 2) ∧ (lI s1 2).toNat < (lL s1 1).length) <|
 storeO (lL s1 1) ((lI s1 2).toNat) 0 [.str t3, .str t4] fun l5 =>
 some (.inl [.l (lL s1 0), .l l5, .i (IntKind.wrap .i64 ((lI s1 2) + 1))])) (
 some (.inr (0, [.l (lL s1 1)])))) [.l a, .l (List.replicate ((a.length : Int).toNat) (.agg [.str [], .str []])), .i 0] fun (r6 : Nat × List Leaf) =>
 k (lL r6.2 0)
def F61 : T61 := P61 F54 
def X61 : Exits := fun i => lookN i [] [(3, [(.exit 0, xk 23 [(3, .own 1000000 2 .flat [])] [])])]
abbrev s61 : List (Bool × List CK) := [(false, [.sl 2 true])]
def G61 (F : T61) (β : Type) (e : (List V × Unit) × Unit) (k : V → Option β) : Option β := F β e.1.1 (fun y1 => k (.own 0 2 .flat y1))
abbrev W61 (F : T61) : WT := wrap s61 (G61 F)
theorem k61 (F54 : T54) (β : Type) (e : argsT s61) (k : V → Option β) : fnK cfg (tabL [(54, W54 F54)]) X61 61 Tryd.f61 β (argsEnc s61 e) k = G61 (P61 F54 ) β e k := by kernel_rfl
theorem ok61 : FnOk D 61 (W61 F61) := fn_okW [(54, W54 F54)] X61 (fun _ => rfl) Tryd.func61 rfl (tabL_cons ok54 tabL_nil) (k61 F54 )

/-- laws.toPage -/
abbrev T23 : Type 1 := (β : Type) → List UInt8 → List UInt8 → Bool → List V → List V → List V → List UInt8 → List UInt8 → List V → Bool → List V → List V → List V → List V → List V → Int → Int → Int → Int → List V → List V → Bool → (List UInt8 → List UInt8 → Bool → List V → List V → List V → List UInt8 → List UInt8 → List V → Bool → List V → List V → List V → List V → List V → Int → Int → Int → Int → List V → List V → Bool → Option β) → Option β
def P23 (F54 : T54) (F55 : T55) (F56 : T56) (F57 : T57) (F58 : T58) (F59 : T59) (F60 : T60) (F61 : T61) (F62 : T62) : T23 := fun β a_Addr_Host a_Addr_Path a_Policy_Set a_Policy_Scripts a_Policy_Styles a_Policy_Images a_Policy_Nonce a_Tok_Rest a_Queue a_Ended a_Builder_Nodes a_Builder_Open a_Slots a_Mods a_Entries a_Block a_Inline a_Deferred a_Entered a_Ran a_Log a_Loaded k =>
 F54 _ a_Addr_Host a_Addr_Path fun t1 t2 =>
 F55 _ a_Policy_Set a_Policy_Scripts a_Policy_Styles a_Policy_Images a_Policy_Nonce fun b3 l4 l5 l6 t7 =>
 F56 _ a_Tok_Rest fun t8 =>
 F57 _ a_Queue fun l9 =>
 F58 _ a_Builder_Nodes a_Builder_Open fun l10 l11 =>
 F59 _ a_Slots fun l12 =>
 F60 _ a_Mods fun l13 =>
 F61 _ a_Entries fun l14 =>
 F61 _ a_Ran fun l15 =>
 F62 _ a_Log fun l16 =>
 k t1 t2 b3 l4 l5 l6 t7 t8 l9 a_Ended l10 l11 l12 l13 l14 a_Block a_Inline a_Deferred a_Entered l15 l16 a_Loaded
def F23 : T23 := P23 F54 F55 F56 F57 F58 F59 F60 F61 F62 
abbrev s23 : List (Bool × List CK) := [(true, [.str, .str, .bool, .sl 1 true, .sl 1 true, .sl 1 true, .str, .str, .sl 4 false, .bool, .sl 4 false, .sl 1 true, .sl 8 true, .sl 5 true, .sl 2 true, .int .i64, .int .i64, .int .i64, .int .i64, .sl 2 true, .sl 1 true, .bool])]
def G23 (F : T23) (β : Type) (e : (List UInt8 × List UInt8 × Bool × List V × List V × List V × List UInt8 × List UInt8 × List V × Bool × List V × List V × List V × List V × List V × Int × Int × Int × Int × List V × List V × Bool × Unit) × Unit) (k : V → Option β) : Option β := let a0_0 := e.1; let a0_1 := a0_0.2; let a0_2 := a0_1.2; let a0_3 := a0_2.2; let a0_4 := a0_3.2; let a0_5 := a0_4.2; let a0_6 := a0_5.2; let a0_7 := a0_6.2; let a0_8 := a0_7.2; let a0_9 := a0_8.2; let a0_10 := a0_9.2; let a0_11 := a0_10.2; let a0_12 := a0_11.2; let a0_13 := a0_12.2; let a0_14 := a0_13.2; let a0_15 := a0_14.2; let a0_16 := a0_15.2; let a0_17 := a0_16.2; let a0_18 := a0_17.2; let a0_19 := a0_18.2; let a0_20 := a0_19.2; let a0_21 := a0_20.2; F β a0_0.1 a0_1.1 a0_2.1 a0_3.1 a0_4.1 a0_5.1 a0_6.1 a0_7.1 a0_8.1 a0_9.1 a0_10.1 a0_11.1 a0_12.1 a0_13.1 a0_14.1 a0_15.1 a0_16.1 a0_17.1 a0_18.1 a0_19.1 a0_20.1 a0_21.1 (fun y1 y2 y3 y4 y5 y6 y7 y8 y9 y10 y11 y12 y13 y14 y15 y16 y17 y18 y19 y20 y21 y22 => k (.agg [.str y1, .str y2, .bool y3, .own 3 1 .flat y4, .own 4 1 .flat y5, .own 5 1 .flat y6, .str y7, .str y8, .own 8 4 .clean y9, .bool y10, .own 10 4 .clean y11, .own 11 1 .flat y12, .own 12 8 .flat y13, .own 13 5 .flat y14, .own 14 2 .flat y15, .int .i64 y16, .int .i64 y17, .int .i64 y18, .int .i64 y19, .own 19 2 .flat y20, .own 20 1 .flat y21, .bool y22]))
abbrev W23 (F : T23) : WT := wrap s23 (G23 F)
theorem k23 (F54 : T54) (F55 : T55) (F56 : T56) (F57 : T57) (F58 : T58) (F59 : T59) (F60 : T60) (F61 : T61) (F62 : T62) (β : Type) (e : argsT s23) (k : V → Option β) : fnK cfg (tabL [(54, W54 F54), (55, W55 F55), (56, W56 F56), (57, W57 F57), (58, W58 F58), (59, W59 F59), (60, W60 F60), (61, W61 F61), (62, W62 F62)]) noX 23 Tryd.f23 β (argsEnc s23 e) k = G23 (P23 F54 F55 F56 F57 F58 F59 F60 F61 F62 ) β e k := by kernel_rfl
theorem ok23 : FnOk D 23 (W23 F23) := fn_okW [(54, W54 F54), (55, W55 F55), (56, W56 F56), (57, W57 F57), (58, W58 F58), (59, W59 F59), (60, W60 F60), (61, W61 F61), (62, W62 F62)] noX (fun _ => rfl) Tryd.func23 rfl (tabL_cons ok54 (tabL_cons ok55 (tabL_cons ok56 (tabL_cons ok57 (tabL_cons ok58 (tabL_cons ok59 (tabL_cons ok60 (tabL_cons ok61 (tabL_cons ok62 tabL_nil))))))))) (k23 F54 F55 F56 F57 F58 F59 F60 F61 F62 )

/-- spec.IsName -/
abbrev T82 : Type 1 := (β : Type) → List UInt8 → (Bool → Option β) → Option β
def P82 (F74 : T74) : T82 := fun β s k =>
 whileK (fun s1 =>
 br (decide ((lI s1 1) < ((lS s1 0).length : Int))) (
 idxS (lS s1 0) (lI s1 1) fun b2 =>
 br (decide (b2 < 97)) (
 some (.inr (0, [.s (lS s1 0), .b false]))) (
 idxS (lS s1 0) (lI s1 1) fun b3 =>
 br (decide (b3 > 122)) (
 some (.inr (0, [.s (lS s1 0), .b false]))) (
 some (.inl [.s (lS s1 0), .i (IntKind.wrap .i64 ((lI s1 1) + 1))])))) (
 some (.inr (1, [.s (lS s1 0)])))) [.s s, .i 0] fun (r4 : Nat × List Leaf) =>
 if r4.1 = 0 then
 k (lB r4.2 1)
 else
 F74 _ ((lS r4.2 0).length : Int) 1 8 fun b5 =>
 k b5
def F82 : T82 := P82 F74 
def X82 : Exits := fun i => lookN i [] [(2, [(.ret, xk 23 [(0, .str []), (2, .bool false)] []), (.exit 0, xk 23 [(0, .str [])] [])])]
abbrev s82 : List (Bool × List CK) := [(false, [.str])]
def G82 (F : T82) (β : Type) (e : (List UInt8 × Unit) × Unit) (k : V → Option β) : Option β := F β e.1.1 (fun y1 => k (.bool y1))
abbrev W82 (F : T82) : WT := wrap s82 (G82 F)
theorem k82 (F74 : T74) (β : Type) (e : argsT s82) (k : V → Option β) : fnK cfg (tabL [(74, W74 F74)]) X82 82 Tryd.f82 β (argsEnc s82 e) k = G82 (P82 F74 ) β e k := by kernel_rfl
theorem ok82 : FnOk D 82 (W82 F82) := fn_okW [(74, W74 F74)] X82 (fun _ => rfl) Tryd.func82 rfl (tabL_cons ok74 tabL_nil) (k82 F74 )

/-- spec.IsAddr -/
abbrev T83 : Type 1 := (β : Type) → List UInt8 → List UInt8 → (Bool → Option β) → Option β
def P83 (F82 : T82) : T83 := fun β a_Host a_Path k =>
 F82 _ a_Host fun b1 =>
 br b1 (
 F82 _ a_Path fun b2 =>
 k b2) (
 k false)
def F83 : T83 := P83 F82 
abbrev s83 : List (Bool × List CK) := [(true, [.str, .str])]
def G83 (F : T83) (β : Type) (e : (List UInt8 × List UInt8 × Unit) × Unit) (k : V → Option β) : Option β := F β e.1.1 e.1.2.1 (fun y1 => k (.bool y1))
abbrev W83 (F : T83) : WT := wrap s83 (G83 F)
theorem k83 (F82 : T82) (β : Type) (e : argsT s83) (k : V → Option β) : fnK cfg (tabL [(82, W82 F82)]) noX 83 Tryd.f83 β (argsEnc s83 e) k = G83 (P83 F82 ) β e k := by kernel_rfl
theorem ok83 : FnOk D 83 (W83 F83) := fn_okW [(82, W82 F82)] noX (fun _ => rfl) Tryd.func83 rfl (tabL_cons ok82 tabL_nil) (k83 F82 )

/-- spec.FormatAddr -/
abbrev T52 : Type 1 := (β : Type) → List UInt8 → List UInt8 → (List UInt8 → Option β) → Option β
def P52 (F83 : T83) : T52 := fun β a_Host a_Path k =>
 F83 _ a_Host a_Path fun b1 =>
 br (!b1) (
 k []) (
 chk (a_Host.length + ([47] : List UInt8).length ≤ 9223372036854775807) <|
 chk ((a_Host ++ [47]).length + a_Path.length ≤ 9223372036854775807) <|
 k ((a_Host ++ [47]) ++ a_Path))
def F52 : T52 := P52 F83 
abbrev s52 : List (Bool × List CK) := [(true, [.str, .str])]
def G52 (F : T52) (β : Type) (e : (List UInt8 × List UInt8 × Unit) × Unit) (k : V → Option β) : Option β := F β e.1.1 e.1.2.1 (fun y1 => k (.str y1))
abbrev W52 (F : T52) : WT := wrap s52 (G52 F)
theorem k52 (F83 : T83) (β : Type) (e : argsT s52) (k : V → Option β) : fnK cfg (tabL [(83, W83 F83)]) noX 52 Tryd.f52 β (argsEnc s52 e) k = G52 (P52 F83 ) β e k := by kernel_rfl
theorem ok52 : FnOk D 52 (W52 F52) := fn_okW [(83, W83 F83)] noX (fun _ => rfl) Tryd.func52 rfl (tabL_cons ok83 tabL_nil) (k52 F83 )

/-- spec.IsComplete -/
abbrev T53 : Type 1 := (β : Type) → List UInt8 → List UInt8 → Bool → List V → List V → List V → List UInt8 → List UInt8 → List V → Bool → List V → List V → List V → List V → List V → Int → Int → Int → Int → List V → List V → Bool → (Bool → Option β) → Option β
def P53 : T53 := fun β p_Addr_Host p_Addr_Path p_Policy_Set p_Policy_Scripts p_Policy_Styles p_Policy_Images p_Policy_Nonce p_Tok_Rest p_Queue p_Ended p_Builder_Nodes p_Builder_Open p_Slots p_Mods p_Entries p_Block p_Inline p_Deferred p_Entered p_Ran p_Log p_Loaded k =>
 k p_Loaded
def F53 : T53 := P53 
abbrev s53 : List (Bool × List CK) := [(true, [.str, .str, .bool, .sl 1 true, .sl 1 true, .sl 1 true, .str, .str, .sl 4 false, .bool, .sl 4 false, .sl 1 true, .sl 8 true, .sl 5 true, .sl 2 true, .int .i64, .int .i64, .int .i64, .int .i64, .sl 2 true, .sl 1 true, .bool])]
def G53 (F : T53) (β : Type) (e : (List UInt8 × List UInt8 × Bool × List V × List V × List V × List UInt8 × List UInt8 × List V × Bool × List V × List V × List V × List V × List V × Int × Int × Int × Int × List V × List V × Bool × Unit) × Unit) (k : V → Option β) : Option β := let a0_0 := e.1; let a0_1 := a0_0.2; let a0_2 := a0_1.2; let a0_3 := a0_2.2; let a0_4 := a0_3.2; let a0_5 := a0_4.2; let a0_6 := a0_5.2; let a0_7 := a0_6.2; let a0_8 := a0_7.2; let a0_9 := a0_8.2; let a0_10 := a0_9.2; let a0_11 := a0_10.2; let a0_12 := a0_11.2; let a0_13 := a0_12.2; let a0_14 := a0_13.2; let a0_15 := a0_14.2; let a0_16 := a0_15.2; let a0_17 := a0_16.2; let a0_18 := a0_17.2; let a0_19 := a0_18.2; let a0_20 := a0_19.2; let a0_21 := a0_20.2; F β a0_0.1 a0_1.1 a0_2.1 a0_3.1 a0_4.1 a0_5.1 a0_6.1 a0_7.1 a0_8.1 a0_9.1 a0_10.1 a0_11.1 a0_12.1 a0_13.1 a0_14.1 a0_15.1 a0_16.1 a0_17.1 a0_18.1 a0_19.1 a0_20.1 a0_21.1 (fun y1 => k (.bool y1))
abbrev W53 (F : T53) : WT := wrap s53 (G53 F)
theorem k53 (β : Type) (e : argsT s53) (k : V → Option β) : fnK cfg (tabL []) noX 53 Tryd.f53 β (argsEnc s53 e) k = G53 (P53 ) β e k := by kernel_rfl
theorem ok53 : FnOk D 53 (W53 F53) := fn_okW [] noX (fun _ => rfl) Tryd.func53 rfl (tabL_nil) (k53 )

/-- spec.FormatPage -/
abbrev T22 : Type 1 := (β : Type) → List UInt8 → List UInt8 → Bool → List V → List V → List V → List UInt8 → List UInt8 → List V → Bool → List V → List V → List V → List V → List V → Int → Int → Int → Int → List V → List V → Bool → (List UInt8 → Option β) → Option β
def P22 (F52 : T52) (F27 : T27) (F53 : T53) : T22 := fun β p_Addr_Host p_Addr_Path p_Policy_Set p_Policy_Scripts p_Policy_Styles p_Policy_Images p_Policy_Nonce p_Tok_Rest p_Queue p_Ended p_Builder_Nodes p_Builder_Open p_Slots p_Mods p_Entries p_Block p_Inline p_Deferred p_Entered p_Ran p_Log p_Loaded k =>
 F52 _ p_Addr_Host p_Addr_Path fun t1 =>
 chk (t1.length + ([32] : List UInt8).length ≤ 9223372036854775807) <|
 F27 _ (p_Builder_Nodes.length : Int) fun t2 =>
 chk ((t1 ++ [32]).length + t2.length ≤ 9223372036854775807) <|
 chk (((t1 ++ [32]) ++ t2).length + ([47] : List UInt8).length ≤ 9223372036854775807) <|
 F27 _ (p_Slots.length : Int) fun t3 =>
 chk ((((t1 ++ [32]) ++ t2) ++ [47]).length + t3.length ≤ 9223372036854775807) <|
 chk (((((t1 ++ [32]) ++ t2) ++ [47]) ++ t3).length + ([47] : List UInt8).length ≤ 9223372036854775807) <|
 F27 _ (p_Mods.length : Int) fun t4 =>
 chk ((((((t1 ++ [32]) ++ t2) ++ [47]) ++ t3) ++ [47]).length + t4.length ≤ 9223372036854775807) <|
 F53 _ p_Addr_Host p_Addr_Path p_Policy_Set p_Policy_Scripts p_Policy_Styles p_Policy_Images p_Policy_Nonce p_Tok_Rest p_Queue p_Ended p_Builder_Nodes p_Builder_Open p_Slots p_Mods p_Entries p_Block p_Inline p_Deferred p_Entered p_Ran p_Log p_Loaded fun b5 =>
 br b5 (
 chk (((((((t1 ++ [32]) ++ t2) ++ [47]) ++ t3) ++ [47]) ++ t4).length + ([32, 108, 111, 97, 100, 101, 100] : List UInt8).length ≤ 9223372036854775807) <|
 k (((((((t1 ++ [32]) ++ t2) ++ [47]) ++ t3) ++ [47]) ++ t4) ++ [32, 108, 111, 97, 100, 101, 100])) (
 k ((((((t1 ++ [32]) ++ t2) ++ [47]) ++ t3) ++ [47]) ++ t4))
def F22 : T22 := P22 F52 F27 F53 
abbrev s22 : List (Bool × List CK) := [(true, [.str, .str, .bool, .sl 1 true, .sl 1 true, .sl 1 true, .str, .str, .sl 4 false, .bool, .sl 4 false, .sl 1 true, .sl 8 true, .sl 5 true, .sl 2 true, .int .i64, .int .i64, .int .i64, .int .i64, .sl 2 true, .sl 1 true, .bool])]
def G22 (F : T22) (β : Type) (e : (List UInt8 × List UInt8 × Bool × List V × List V × List V × List UInt8 × List UInt8 × List V × Bool × List V × List V × List V × List V × List V × Int × Int × Int × Int × List V × List V × Bool × Unit) × Unit) (k : V → Option β) : Option β := let a0_0 := e.1; let a0_1 := a0_0.2; let a0_2 := a0_1.2; let a0_3 := a0_2.2; let a0_4 := a0_3.2; let a0_5 := a0_4.2; let a0_6 := a0_5.2; let a0_7 := a0_6.2; let a0_8 := a0_7.2; let a0_9 := a0_8.2; let a0_10 := a0_9.2; let a0_11 := a0_10.2; let a0_12 := a0_11.2; let a0_13 := a0_12.2; let a0_14 := a0_13.2; let a0_15 := a0_14.2; let a0_16 := a0_15.2; let a0_17 := a0_16.2; let a0_18 := a0_17.2; let a0_19 := a0_18.2; let a0_20 := a0_19.2; let a0_21 := a0_20.2; F β a0_0.1 a0_1.1 a0_2.1 a0_3.1 a0_4.1 a0_5.1 a0_6.1 a0_7.1 a0_8.1 a0_9.1 a0_10.1 a0_11.1 a0_12.1 a0_13.1 a0_14.1 a0_15.1 a0_16.1 a0_17.1 a0_18.1 a0_19.1 a0_20.1 a0_21.1 (fun y1 => k (.str y1))
abbrev W22 (F : T22) : WT := wrap s22 (G22 F)
theorem k22 (F52 : T52) (F27 : T27) (F53 : T53) (β : Type) (e : argsT s22) (k : V → Option β) : fnK cfg (tabL [(52, W52 F52), (27, W27 F27), (53, W53 F53)]) noX 22 Tryd.f22 β (argsEnc s22 e) k = G22 (P22 F52 F27 F53 ) β e k := by kernel_rfl
theorem ok22 : FnOk D 22 (W22 F22) := fn_okW [(52, W52 F52), (27, W27 F27), (53, W53 F53)] noX (fun _ => rfl) Tryd.func22 rfl (tabL_cons ok52 (tabL_cons ok27 (tabL_cons ok53 tabL_nil))) (k22 F52 F27 F53 )

/-- impl.IsName -/
abbrev T88 : Type 1 := (β : Type) → List UInt8 → (Bool → Option β) → Option β
def P88 (F75 : T75) : T88 := fun β s k =>
 whileK (fun s1 =>
 br (decide ((lI s1 1) < ((lS s1 0).length : Int))) (
 idxS (lS s1 0) (lI s1 1) fun b2 =>
 br (decide (b2 < 97)) (
 some (.inr (0, [.s (lS s1 0), .b false]))) (
 idxS (lS s1 0) (lI s1 1) fun b3 =>
 br (decide (b3 > 122)) (
 some (.inr (0, [.s (lS s1 0), .b false]))) (
 some (.inl [.s (lS s1 0), .i (IntKind.wrap .i64 ((lI s1 1) + 1))])))) (
 some (.inr (1, [.s (lS s1 0)])))) [.s s, .i 0] fun (r4 : Nat × List Leaf) =>
 if r4.1 = 0 then
 k (lB r4.2 1)
 else
 F75 _ ((lS r4.2 0).length : Int) 1 8 fun b5 =>
 k b5
def F88 : T88 := P88 F75 
def X88 : Exits := fun i => lookN i [] [(2, [(.ret, xk 23 [(0, .str []), (2, .bool false)] []), (.exit 0, xk 23 [(0, .str [])] [])])]
abbrev s88 : List (Bool × List CK) := [(false, [.str])]
def G88 (F : T88) (β : Type) (e : (List UInt8 × Unit) × Unit) (k : V → Option β) : Option β := F β e.1.1 (fun y1 => k (.bool y1))
abbrev W88 (F : T88) : WT := wrap s88 (G88 F)
theorem k88 (F75 : T75) (β : Type) (e : argsT s88) (k : V → Option β) : fnK cfg (tabL [(75, W75 F75)]) X88 88 Tryd.f88 β (argsEnc s88 e) k = G88 (P88 F75 ) β e k := by kernel_rfl
theorem ok88 : FnOk D 88 (W88 F88) := fn_okW [(75, W75 F75)] X88 (fun _ => rfl) Tryd.func88 rfl (tabL_cons ok75 tabL_nil) (k88 F75 )

/-- impl.IsAddr -/
abbrev T89 : Type 1 := (β : Type) → List UInt8 → List UInt8 → (Bool → Option β) → Option β
def P89 (F88 : T88) : T89 := fun β a_Host a_Path k =>
 F88 _ a_Host fun b1 =>
 br b1 (
 F88 _ a_Path fun b2 =>
 k b2) (
 k false)
def F89 : T89 := P89 F88 
abbrev s89 : List (Bool × List CK) := [(true, [.str, .str])]
def G89 (F : T89) (β : Type) (e : (List UInt8 × List UInt8 × Unit) × Unit) (k : V → Option β) : Option β := F β e.1.1 e.1.2.1 (fun y1 => k (.bool y1))
abbrev W89 (F : T89) : WT := wrap s89 (G89 F)
theorem k89 (F88 : T88) (β : Type) (e : argsT s89) (k : V → Option β) : fnK cfg (tabL [(88, W88 F88)]) noX 89 Tryd.f89 β (argsEnc s89 e) k = G89 (P89 F88 ) β e k := by kernel_rfl
theorem ok89 : FnOk D 89 (W89 F89) := fn_okW [(88, W88 F88)] noX (fun _ => rfl) Tryd.func89 rfl (tabL_cons ok88 tabL_nil) (k89 F88 )

/-- impl.FormatAddr -/
abbrev T63 : Type 1 := (β : Type) → List UInt8 → List UInt8 → (List UInt8 → Option β) → Option β
def P63 (F89 : T89) : T63 := fun β a_Host a_Path k =>
 F89 _ a_Host a_Path fun b1 =>
 br (!b1) (
 k []) (
 chk (a_Host.length + ([47] : List UInt8).length ≤ 9223372036854775807) <|
 chk ((a_Host ++ [47]).length + a_Path.length ≤ 9223372036854775807) <|
 k ((a_Host ++ [47]) ++ a_Path))
def F63 : T63 := P63 F89 
abbrev s63 : List (Bool × List CK) := [(true, [.str, .str])]
def G63 (F : T63) (β : Type) (e : (List UInt8 × List UInt8 × Unit) × Unit) (k : V → Option β) : Option β := F β e.1.1 e.1.2.1 (fun y1 => k (.str y1))
abbrev W63 (F : T63) : WT := wrap s63 (G63 F)
theorem k63 (F89 : T89) (β : Type) (e : argsT s63) (k : V → Option β) : fnK cfg (tabL [(89, W89 F89)]) noX 63 Tryd.f63 β (argsEnc s63 e) k = G63 (P63 F89 ) β e k := by kernel_rfl
theorem ok63 : FnOk D 63 (W63 F63) := fn_okW [(89, W89 F89)] noX (fun _ => rfl) Tryd.func63 rfl (tabL_cons ok89 tabL_nil) (k63 F89 )

/-- impl.IsComplete -/
abbrev T64 : Type 1 := (β : Type) → List UInt8 → List UInt8 → Bool → List V → List V → List V → List UInt8 → List UInt8 → List V → Bool → List V → List V → List V → List V → List V → Int → Int → Int → Int → List V → List V → Bool → (Bool → Option β) → Option β
def P64 : T64 := fun β p_Addr_Host p_Addr_Path p_Policy_Set p_Policy_Scripts p_Policy_Styles p_Policy_Images p_Policy_Nonce p_Tok_Rest p_Queue p_Ended p_Builder_Nodes p_Builder_Open p_Slots p_Mods p_Entries p_Block p_Inline p_Deferred p_Entered p_Ran p_Log p_Loaded k =>
 k p_Loaded
def F64 : T64 := P64 
abbrev s64 : List (Bool × List CK) := [(true, [.str, .str, .bool, .sl 1 true, .sl 1 true, .sl 1 true, .str, .str, .sl 4 false, .bool, .sl 4 false, .sl 1 true, .sl 8 true, .sl 5 true, .sl 2 true, .int .i64, .int .i64, .int .i64, .int .i64, .sl 2 true, .sl 1 true, .bool])]
def G64 (F : T64) (β : Type) (e : (List UInt8 × List UInt8 × Bool × List V × List V × List V × List UInt8 × List UInt8 × List V × Bool × List V × List V × List V × List V × List V × Int × Int × Int × Int × List V × List V × Bool × Unit) × Unit) (k : V → Option β) : Option β := let a0_0 := e.1; let a0_1 := a0_0.2; let a0_2 := a0_1.2; let a0_3 := a0_2.2; let a0_4 := a0_3.2; let a0_5 := a0_4.2; let a0_6 := a0_5.2; let a0_7 := a0_6.2; let a0_8 := a0_7.2; let a0_9 := a0_8.2; let a0_10 := a0_9.2; let a0_11 := a0_10.2; let a0_12 := a0_11.2; let a0_13 := a0_12.2; let a0_14 := a0_13.2; let a0_15 := a0_14.2; let a0_16 := a0_15.2; let a0_17 := a0_16.2; let a0_18 := a0_17.2; let a0_19 := a0_18.2; let a0_20 := a0_19.2; let a0_21 := a0_20.2; F β a0_0.1 a0_1.1 a0_2.1 a0_3.1 a0_4.1 a0_5.1 a0_6.1 a0_7.1 a0_8.1 a0_9.1 a0_10.1 a0_11.1 a0_12.1 a0_13.1 a0_14.1 a0_15.1 a0_16.1 a0_17.1 a0_18.1 a0_19.1 a0_20.1 a0_21.1 (fun y1 => k (.bool y1))
abbrev W64 (F : T64) : WT := wrap s64 (G64 F)
theorem k64 (β : Type) (e : argsT s64) (k : V → Option β) : fnK cfg (tabL []) noX 64 Tryd.f64 β (argsEnc s64 e) k = G64 (P64 ) β e k := by kernel_rfl
theorem ok64 : FnOk D 64 (W64 F64) := fn_okW [] noX (fun _ => rfl) Tryd.func64 rfl (tabL_nil) (k64 )

/-- impl.FormatPage -/
abbrev T24 : Type 1 := (β : Type) → List UInt8 → List UInt8 → Bool → List V → List V → List V → List UInt8 → List UInt8 → List V → Bool → List V → List V → List V → List V → List V → Int → Int → Int → Int → List V → List V → Bool → (List UInt8 → Option β) → Option β
def P24 (F63 : T63) (F29 : T29) (F64 : T64) : T24 := fun β p_Addr_Host p_Addr_Path p_Policy_Set p_Policy_Scripts p_Policy_Styles p_Policy_Images p_Policy_Nonce p_Tok_Rest p_Queue p_Ended p_Builder_Nodes p_Builder_Open p_Slots p_Mods p_Entries p_Block p_Inline p_Deferred p_Entered p_Ran p_Log p_Loaded k =>
 F63 _ p_Addr_Host p_Addr_Path fun t1 =>
 chk (t1.length + ([32] : List UInt8).length ≤ 9223372036854775807) <|
 F29 _ (p_Builder_Nodes.length : Int) fun t2 =>
 chk ((t1 ++ [32]).length + t2.length ≤ 9223372036854775807) <|
 chk (((t1 ++ [32]) ++ t2).length + ([47] : List UInt8).length ≤ 9223372036854775807) <|
 F29 _ (p_Slots.length : Int) fun t3 =>
 chk ((((t1 ++ [32]) ++ t2) ++ [47]).length + t3.length ≤ 9223372036854775807) <|
 chk (((((t1 ++ [32]) ++ t2) ++ [47]) ++ t3).length + ([47] : List UInt8).length ≤ 9223372036854775807) <|
 F29 _ (p_Mods.length : Int) fun t4 =>
 chk ((((((t1 ++ [32]) ++ t2) ++ [47]) ++ t3) ++ [47]).length + t4.length ≤ 9223372036854775807) <|
 F64 _ p_Addr_Host p_Addr_Path p_Policy_Set p_Policy_Scripts p_Policy_Styles p_Policy_Images p_Policy_Nonce p_Tok_Rest p_Queue p_Ended p_Builder_Nodes p_Builder_Open p_Slots p_Mods p_Entries p_Block p_Inline p_Deferred p_Entered p_Ran p_Log p_Loaded fun b5 =>
 br b5 (
 chk (((((((t1 ++ [32]) ++ t2) ++ [47]) ++ t3) ++ [47]) ++ t4).length + ([32, 108, 111, 97, 100, 101, 100] : List UInt8).length ≤ 9223372036854775807) <|
 k (((((((t1 ++ [32]) ++ t2) ++ [47]) ++ t3) ++ [47]) ++ t4) ++ [32, 108, 111, 97, 100, 101, 100])) (
 k ((((((t1 ++ [32]) ++ t2) ++ [47]) ++ t3) ++ [47]) ++ t4))
def F24 : T24 := P24 F63 F29 F64 
abbrev s24 : List (Bool × List CK) := [(true, [.str, .str, .bool, .sl 1 true, .sl 1 true, .sl 1 true, .str, .str, .sl 4 false, .bool, .sl 4 false, .sl 1 true, .sl 8 true, .sl 5 true, .sl 2 true, .int .i64, .int .i64, .int .i64, .int .i64, .sl 2 true, .sl 1 true, .bool])]
def G24 (F : T24) (β : Type) (e : (List UInt8 × List UInt8 × Bool × List V × List V × List V × List UInt8 × List UInt8 × List V × Bool × List V × List V × List V × List V × List V × Int × Int × Int × Int × List V × List V × Bool × Unit) × Unit) (k : V → Option β) : Option β := let a0_0 := e.1; let a0_1 := a0_0.2; let a0_2 := a0_1.2; let a0_3 := a0_2.2; let a0_4 := a0_3.2; let a0_5 := a0_4.2; let a0_6 := a0_5.2; let a0_7 := a0_6.2; let a0_8 := a0_7.2; let a0_9 := a0_8.2; let a0_10 := a0_9.2; let a0_11 := a0_10.2; let a0_12 := a0_11.2; let a0_13 := a0_12.2; let a0_14 := a0_13.2; let a0_15 := a0_14.2; let a0_16 := a0_15.2; let a0_17 := a0_16.2; let a0_18 := a0_17.2; let a0_19 := a0_18.2; let a0_20 := a0_19.2; let a0_21 := a0_20.2; F β a0_0.1 a0_1.1 a0_2.1 a0_3.1 a0_4.1 a0_5.1 a0_6.1 a0_7.1 a0_8.1 a0_9.1 a0_10.1 a0_11.1 a0_12.1 a0_13.1 a0_14.1 a0_15.1 a0_16.1 a0_17.1 a0_18.1 a0_19.1 a0_20.1 a0_21.1 (fun y1 => k (.str y1))
abbrev W24 (F : T24) : WT := wrap s24 (G24 F)
theorem k24 (F63 : T63) (F29 : T29) (F64 : T64) (β : Type) (e : argsT s24) (k : V → Option β) : fnK cfg (tabL [(63, W63 F63), (29, W29 F29), (64, W64 F64)]) noX 24 Tryd.f24 β (argsEnc s24 e) k = G24 (P24 F63 F29 F64 ) β e k := by kernel_rfl
theorem ok24 : FnOk D 24 (W24 F24) := fn_okW [(63, W63 F63), (29, W29 F29), (64, W64 F64)] noX (fun _ => rfl) Tryd.func24 rfl (tabL_cons ok63 (tabL_cons ok29 (tabL_cons ok64 tabL_nil))) (k24 F63 F29 F64 )

/-- laws.eqStringS -/
abbrev T73 : Type 1 := (β : Type) → List V → List V → (Bool → Option β) → Option β
def P73 : T73 := fun β a b k =>
 br ((a.length : Int) != (b.length : Int)) (
 k false) (
 whileK (fun s1 =>
 br (decide ((lI s1 2) < ((lL s1 0).length : Int))) (
 chk (0 ≤ (lI s1 2)) <|
 idx false [.str] (lL s1 0) ((lI s1 2).toNat) fun (e2 : List UInt8 × Unit) =>
 chk (0 ≤ (lI s1 2)) <|
 idx false [.str] (lL s1 1) ((lI s1 2).toNat) fun (e3 : List UInt8 × Unit) =>
 br (!(e2.1 == e3.1)) (
 some (.inr (0, [.b false]))) (
 some (.inl [.l (lL s1 0), .l (lL s1 1), .i (IntKind.wrap .i64 ((lI s1 2) + 1))]))) (
 some (.inr (1, [])))) [.l a, .l b, .i 0] fun (r4 : Nat × List Leaf) =>
 if r4.1 = 0 then
 k (lB r4.2 0)
 else
 k true)
def F73 : T73 := P73 
def X73 : Exits := fun i => lookN i [] [(4, [(.ret, xk 26 [(4, .bool false)] []), (.exit 0, xk 26 [] [])])]
abbrev s73 : List (Bool × List CK) := [(false, [.sl 1 true]), (false, [.sl 1 true])]
def G73 (F : T73) (β : Type) (e : (List V × Unit) × (List V × Unit) × Unit) (k : V → Option β) : Option β := F β e.1.1 e.2.1.1 (fun y1 => k (.bool y1))
abbrev W73 (F : T73) : WT := wrap s73 (G73 F)
theorem k73 (β : Type) (e : argsT s73) (k : V → Option β) : fnK cfg (tabL []) X73 73 Tryd.f73 β (argsEnc s73 e) k = G73 (P73 ) β e k := by kernel_rfl
theorem ok73 : FnOk D 73 (W73 F73) := fn_okW [] X73 (fun _ => rfl) Tryd.func73 rfl (tabL_nil) (k73 )

/-- laws.eqPolicy -/
abbrev T66 : Type 1 := (β : Type) → Bool → List V → List V → List V → List UInt8 → Bool → List V → List V → List V → List UInt8 → (Bool → Option β) → Option β
def P66 (F73 : T73) : T66 := fun β a_Set a_Scripts a_Styles a_Images a_Nonce b_Set b_Scripts b_Styles b_Images b_Nonce k =>
 br (!(a_Set == b_Set)) (
 k false) (
 F73 _ a_Scripts b_Scripts fun b1 =>
 br (!b1) (
 k false) (
 F73 _ a_Styles b_Styles fun b2 =>
 br (!b2) (
 k false) (
 F73 _ a_Images b_Images fun b3 =>
 br (!b3) (
 k false) (
 br (!(a_Nonce == b_Nonce)) (
 k false) (
 k true)))))
def F66 : T66 := P66 F73 
abbrev s66 : List (Bool × List CK) := [(true, [.bool, .sl 1 true, .sl 1 true, .sl 1 true, .str]), (true, [.bool, .sl 1 true, .sl 1 true, .sl 1 true, .str])]
def G66 (F : T66) (β : Type) (e : (Bool × List V × List V × List V × List UInt8 × Unit) × (Bool × List V × List V × List V × List UInt8 × Unit) × Unit) (k : V → Option β) : Option β := let a0_0 := e.1; let a0_1 := a0_0.2; let a0_2 := a0_1.2; let a0_3 := a0_2.2; let a0_4 := a0_3.2; let a1_0 := e.2.1; let a1_1 := a1_0.2; let a1_2 := a1_1.2; let a1_3 := a1_2.2; let a1_4 := a1_3.2; F β a0_0.1 a0_1.1 a0_2.1 a0_3.1 a0_4.1 a1_0.1 a1_1.1 a1_2.1 a1_3.1 a1_4.1 (fun y1 => k (.bool y1))
abbrev W66 (F : T66) : WT := wrap s66 (G66 F)
theorem k66 (F73 : T73) (β : Type) (e : argsT s66) (k : V → Option β) : fnK cfg (tabL [(73, W73 F73)]) noX 66 Tryd.f66 β (argsEnc s66 e) k = G66 (P66 F73 ) β e k := by kernel_rfl
theorem ok66 : FnOk D 66 (W66 F66) := fn_okW [(73, W73 F73)] noX (fun _ => rfl) Tryd.func66 rfl (tabL_cons ok73 tabL_nil) (k66 F73 )

/-- laws.eqTokenizer -/
abbrev T67 : Type 1 := (β : Type) → List UInt8 → List UInt8 → (Bool → Option β) → Option β
def P67 : T67 := fun β a_Rest b_Rest k =>
 br (!(a_Rest == b_Rest)) (
 k false) (
 k true)
def F67 : T67 := P67 
abbrev s67 : List (Bool × List CK) := [(true, [.str]), (true, [.str])]
def G67 (F : T67) (β : Type) (e : (List UInt8 × Unit) × (List UInt8 × Unit) × Unit) (k : V → Option β) : Option β := F β e.1.1 e.2.1.1 (fun y1 => k (.bool y1))
abbrev W67 (F : T67) : WT := wrap s67 (G67 F)
theorem k67 (β : Type) (e : argsT s67) (k : V → Option β) : fnK cfg (tabL []) noX 67 Tryd.f67 β (argsEnc s67 e) k = G67 (P67 ) β e k := by kernel_rfl
theorem ok67 : FnOk D 67 (W67 F67) := fn_okW [] noX (fun _ => rfl) Tryd.func67 rfl (tabL_nil) (k67 )

/-- laws.eqAttr -/
abbrev T136 : Type 1 := (β : Type) → List UInt8 → List UInt8 → List UInt8 → List UInt8 → (Bool → Option β) → Option β
def P136 : T136 := fun β a_Name a_Value b_Name b_Value k =>
 br (!(a_Name == b_Name)) (
 k false) (
 br (!(a_Value == b_Value)) (
 k false) (
 k true))
def F136 : T136 := P136 
abbrev s136 : List (Bool × List CK) := [(true, [.str, .str]), (true, [.str, .str])]
def G136 (F : T136) (β : Type) (e : (List UInt8 × List UInt8 × Unit) × (List UInt8 × List UInt8 × Unit) × Unit) (k : V → Option β) : Option β := F β e.1.1 e.1.2.1 e.2.1.1 e.2.1.2.1 (fun y1 => k (.bool y1))
abbrev W136 (F : T136) : WT := wrap s136 (G136 F)
theorem k136 (β : Type) (e : argsT s136) (k : V → Option β) : fnK cfg (tabL []) noX 136 Tryd.f136 β (argsEnc s136 e) k = G136 (P136 ) β e k := by kernel_rfl
theorem ok136 : FnOk D 136 (W136 F136) := fn_okW [] noX (fun _ => rfl) Tryd.func136 rfl (tabL_nil) (k136 )

/-- laws.eqAttrS -/
abbrev T122 : Type 1 := (β : Type) → List V → List V → (Bool → Option β) → Option β
def P122 (F136 : T136) : T122 := fun β a b k =>
 br ((a.length : Int) != (b.length : Int)) (
 k false) (
 whileK (fun s1 =>
 br (decide ((lI s1 2) < ((lL s1 0).length : Int))) (
 chk (0 ≤ (lI s1 2)) <|
 idx true [.str, .str] (lL s1 0) ((lI s1 2).toNat) fun (e2 : List UInt8 × List UInt8 × Unit) =>
 chk (0 ≤ (lI s1 2)) <|
 idx true [.str, .str] (lL s1 1) ((lI s1 2).toNat) fun (e3 : List UInt8 × List UInt8 × Unit) =>
 F136 _ e2.1 e2.2.1 e3.1 e3.2.1 fun b4 =>
 br (!b4) (
 some (.inr (0, [.b false]))) (
 some (.inl [.l (lL s1 0), .l (lL s1 1), .i (IntKind.wrap .i64 ((lI s1 2) + 1))]))) (
 some (.inr (1, [])))) [.l a, .l b, .i 0] fun (r5 : Nat × List Leaf) =>
 if r5.1 = 0 then
 k (lB r5.2 0)
 else
 k true)
def F122 : T122 := P122 F136 
def X122 : Exits := fun i => lookN i [] [(4, [(.ret, xk 27 [(4, .bool false)] []), (.exit 0, xk 27 [] [])])]
abbrev s122 : List (Bool × List CK) := [(false, [.sl 2 true]), (false, [.sl 2 true])]
def G122 (F : T122) (β : Type) (e : (List V × Unit) × (List V × Unit) × Unit) (k : V → Option β) : Option β := F β e.1.1 e.2.1.1 (fun y1 => k (.bool y1))
abbrev W122 (F : T122) : WT := wrap s122 (G122 F)
theorem k122 (F136 : T136) (β : Type) (e : argsT s122) (k : V → Option β) : fnK cfg (tabL [(136, W136 F136)]) X122 122 Tryd.f122 β (argsEnc s122 e) k = G122 (P122 F136 ) β e k := by kernel_rfl
theorem ok122 : FnOk D 122 (W122 F122) := fn_okW [(136, W136 F136)] X122 (fun _ => rfl) Tryd.func122 rfl (tabL_cons ok136 tabL_nil) (k122 F136 )

/-- laws.eqToken -/
abbrev T104 : Type 1 := (β : Type) → Int → List UInt8 → List V → List UInt8 → Int → List UInt8 → List V → List UInt8 → (Bool → Option β) → Option β
def P104 (F122 : T122) : T104 := fun β a_Kind a_Name a_Attrs a_Text b_Kind b_Name b_Attrs b_Text k =>
 br (a_Kind != b_Kind) (
 k false) (
 br (!(a_Name == b_Name)) (
 k false) (
 F122 _ a_Attrs b_Attrs fun b1 =>
 br (!b1) (
 k false) (
 br (!(a_Text == b_Text)) (
 k false) (
 k true))))
def F104 : T104 := P104 F122 
abbrev s104 : List (Bool × List CK) := [(true, [.int .i64, .str, .sl 2 true, .str]), (true, [.int .i64, .str, .sl 2 true, .str])]
def G104 (F : T104) (β : Type) (e : (Int × List UInt8 × List V × List UInt8 × Unit) × (Int × List UInt8 × List V × List UInt8 × Unit) × Unit) (k : V → Option β) : Option β := F β e.1.1 e.1.2.1 e.1.2.2.1 e.1.2.2.2.1 e.2.1.1 e.2.1.2.1 e.2.1.2.2.1 e.2.1.2.2.2.1 (fun y1 => k (.bool y1))
abbrev W104 (F : T104) : WT := wrap s104 (G104 F)
theorem k104 (F122 : T122) (β : Type) (e : argsT s104) (k : V → Option β) : fnK cfg (tabL [(122, W122 F122)]) noX 104 Tryd.f104 β (argsEnc s104 e) k = G104 (P104 F122 ) β e k := by kernel_rfl
theorem ok104 : FnOk D 104 (W104 F104) := fn_okW [(122, W122 F122)] noX (fun _ => rfl) Tryd.func104 rfl (tabL_cons ok122 tabL_nil) (k104 F122 )

/-- laws.eqTokenS -/
abbrev T68 : Type 1 := (β : Type) → List V → List V → (Bool → Option β) → Option β
def P68 (F104 : T104) : T68 := fun β a b k =>
 br ((a.length : Int) != (b.length : Int)) (
 k false) (
 whileK (fun s1 =>
 br (decide ((lI s1 2) < ((lL s1 0).length : Int))) (
 chk (0 ≤ (lI s1 2)) <|
 idx true [.int .i64, .str, .sl 2 true, .str] (lL s1 0) ((lI s1 2).toNat) fun (e2 : Int × List UInt8 × List V × List UInt8 × Unit) =>
 chk (0 ≤ (lI s1 2)) <|
 idx true [.int .i64, .str, .sl 2 true, .str] (lL s1 1) ((lI s1 2).toNat) fun (e3 : Int × List UInt8 × List V × List UInt8 × Unit) =>
 F104 _ e2.1 e2.2.1 e2.2.2.1 e2.2.2.2.1 e3.1 e3.2.1 e3.2.2.1 e3.2.2.2.1 fun b4 =>
 br (!b4) (
 some (.inr (0, [.b false]))) (
 some (.inl [.l (lL s1 0), .l (lL s1 1), .i (IntKind.wrap .i64 ((lI s1 2) + 1))]))) (
 some (.inr (1, [])))) [.l a, .l b, .i 0] fun (r5 : Nat × List Leaf) =>
 if r5.1 = 0 then
 k (lB r5.2 0)
 else
 k true)
def F68 : T68 := P68 F104 
def X68 : Exits := fun i => lookN i [] [(4, [(.ret, xk 27 [(4, .bool false)] []), (.exit 0, xk 27 [] [])])]
abbrev s68 : List (Bool × List CK) := [(false, [.sl 4 false]), (false, [.sl 4 false])]
def G68 (F : T68) (β : Type) (e : (List V × Unit) × (List V × Unit) × Unit) (k : V → Option β) : Option β := F β e.1.1 e.2.1.1 (fun y1 => k (.bool y1))
abbrev W68 (F : T68) : WT := wrap s68 (G68 F)
theorem k68 (F104 : T104) (β : Type) (e : argsT s68) (k : V → Option β) : fnK cfg (tabL [(104, W104 F104)]) X68 68 Tryd.f68 β (argsEnc s68 e) k = G68 (P68 F104 ) β e k := by kernel_rfl
theorem ok68 : FnOk D 68 (W68 F68) := fn_okW [(104, W104 F104)] X68 (fun _ => rfl) Tryd.func68 rfl (tabL_cons ok104 tabL_nil) (k68 F104 )

/-- laws.eqNode -/
abbrev T123 : Type 1 := (β : Type) → List UInt8 → List UInt8 → Int → List V → List UInt8 → List UInt8 → Int → List V → (Bool → Option β) → Option β
def P123 (F122 : T122) : T123 := fun β a_Name a_Text a_Parent a_Attrs b_Name b_Text b_Parent b_Attrs k =>
 br (!(a_Name == b_Name)) (
 k false) (
 br (!(a_Text == b_Text)) (
 k false) (
 br (a_Parent != b_Parent) (
 k false) (
 F122 _ a_Attrs b_Attrs fun b1 =>
 br (!b1) (
 k false) (
 k true))))
def F123 : T123 := P123 F122 
abbrev s123 : List (Bool × List CK) := [(true, [.str, .str, .int .i64, .sl 2 true]), (true, [.str, .str, .int .i64, .sl 2 true])]
def G123 (F : T123) (β : Type) (e : (List UInt8 × List UInt8 × Int × List V × Unit) × (List UInt8 × List UInt8 × Int × List V × Unit) × Unit) (k : V → Option β) : Option β := F β e.1.1 e.1.2.1 e.1.2.2.1 e.1.2.2.2.1 e.2.1.1 e.2.1.2.1 e.2.1.2.2.1 e.2.1.2.2.2.1 (fun y1 => k (.bool y1))
abbrev W123 (F : T123) : WT := wrap s123 (G123 F)
theorem k123 (F122 : T122) (β : Type) (e : argsT s123) (k : V → Option β) : fnK cfg (tabL [(122, W122 F122)]) noX 123 Tryd.f123 β (argsEnc s123 e) k = G123 (P123 F122 ) β e k := by kernel_rfl
theorem ok123 : FnOk D 123 (W123 F123) := fn_okW [(122, W122 F122)] noX (fun _ => rfl) Tryd.func123 rfl (tabL_cons ok122 tabL_nil) (k123 F122 )

/-- laws.eqNodeS -/
abbrev T105 : Type 1 := (β : Type) → List V → List V → (Bool → Option β) → Option β
def P105 (F123 : T123) : T105 := fun β a b k =>
 br ((a.length : Int) != (b.length : Int)) (
 k false) (
 whileK (fun s1 =>
 br (decide ((lI s1 2) < ((lL s1 0).length : Int))) (
 chk (0 ≤ (lI s1 2)) <|
 idx true [.str, .str, .int .i64, .sl 2 true] (lL s1 0) ((lI s1 2).toNat) fun (e2 : List UInt8 × List UInt8 × Int × List V × Unit) =>
 chk (0 ≤ (lI s1 2)) <|
 idx true [.str, .str, .int .i64, .sl 2 true] (lL s1 1) ((lI s1 2).toNat) fun (e3 : List UInt8 × List UInt8 × Int × List V × Unit) =>
 F123 _ e2.1 e2.2.1 e2.2.2.1 e2.2.2.2.1 e3.1 e3.2.1 e3.2.2.1 e3.2.2.2.1 fun b4 =>
 br (!b4) (
 some (.inr (0, [.b false]))) (
 some (.inl [.l (lL s1 0), .l (lL s1 1), .i (IntKind.wrap .i64 ((lI s1 2) + 1))]))) (
 some (.inr (1, [])))) [.l a, .l b, .i 0] fun (r5 : Nat × List Leaf) =>
 if r5.1 = 0 then
 k (lB r5.2 0)
 else
 k true)
def F105 : T105 := P105 F123 
def X105 : Exits := fun i => lookN i [] [(4, [(.ret, xk 27 [(4, .bool false)] []), (.exit 0, xk 27 [] [])])]
abbrev s105 : List (Bool × List CK) := [(false, [.sl 4 false]), (false, [.sl 4 false])]
def G105 (F : T105) (β : Type) (e : (List V × Unit) × (List V × Unit) × Unit) (k : V → Option β) : Option β := F β e.1.1 e.2.1.1 (fun y1 => k (.bool y1))
abbrev W105 (F : T105) : WT := wrap s105 (G105 F)
theorem k105 (F123 : T123) (β : Type) (e : argsT s105) (k : V → Option β) : fnK cfg (tabL [(123, W123 F123)]) X105 105 Tryd.f105 β (argsEnc s105 e) k = G105 (P105 F123 ) β e k := by kernel_rfl
theorem ok105 : FnOk D 105 (W105 F105) := fn_okW [(123, W123 F123)] X105 (fun _ => rfl) Tryd.func105 rfl (tabL_cons ok123 tabL_nil) (k105 F123 )

/-- laws.eqIntS -/
abbrev T106 : Type 1 := (β : Type) → List V → List V → (Bool → Option β) → Option β
def P106 : T106 := fun β a b k =>
 br ((a.length : Int) != (b.length : Int)) (
 k false) (
 whileK (fun s1 =>
 br (decide ((lI s1 2) < ((lL s1 0).length : Int))) (
 chk (0 ≤ (lI s1 2)) <|
 idx false [.int .i64] (lL s1 0) ((lI s1 2).toNat) fun (e2 : Int × Unit) =>
 chk (0 ≤ (lI s1 2)) <|
 idx false [.int .i64] (lL s1 1) ((lI s1 2).toNat) fun (e3 : Int × Unit) =>
 br (e2.1 != e3.1) (
 some (.inr (0, [.b false]))) (
 some (.inl [.l (lL s1 0), .l (lL s1 1), .i (IntKind.wrap .i64 ((lI s1 2) + 1))]))) (
 some (.inr (1, [])))) [.l a, .l b, .i 0] fun (r4 : Nat × List Leaf) =>
 if r4.1 = 0 then
 k (lB r4.2 0)
 else
 k true)
def F106 : T106 := P106 
def X106 : Exits := fun i => lookN i [] [(4, [(.ret, xk 26 [(4, .bool false)] []), (.exit 0, xk 26 [] [])])]
abbrev s106 : List (Bool × List CK) := [(false, [.sl 1 true]), (false, [.sl 1 true])]
def G106 (F : T106) (β : Type) (e : (List V × Unit) × (List V × Unit) × Unit) (k : V → Option β) : Option β := F β e.1.1 e.2.1.1 (fun y1 => k (.bool y1))
abbrev W106 (F : T106) : WT := wrap s106 (G106 F)
theorem k106 (β : Type) (e : argsT s106) (k : V → Option β) : fnK cfg (tabL []) X106 106 Tryd.f106 β (argsEnc s106 e) k = G106 (P106 ) β e k := by kernel_rfl
theorem ok106 : FnOk D 106 (W106 F106) := fn_okW [] X106 (fun _ => rfl) Tryd.func106 rfl (tabL_nil) (k106 )

/-- laws.eqBuilder -/
abbrev T69 : Type 1 := (β : Type) → List V → List V → List V → List V → (Bool → Option β) → Option β
def P69 (F105 : T105) (F106 : T106) : T69 := fun β a_Nodes a_Open b_Nodes b_Open k =>
 F105 _ a_Nodes b_Nodes fun b1 =>
 br (!b1) (
 k false) (
 F106 _ a_Open b_Open fun b2 =>
 br (!b2) (
 k false) (
 k true))
def F69 : T69 := P69 F105 F106 
abbrev s69 : List (Bool × List CK) := [(true, [.sl 4 false, .sl 1 true]), (true, [.sl 4 false, .sl 1 true])]
def G69 (F : T69) (β : Type) (e : (List V × List V × Unit) × (List V × List V × Unit) × Unit) (k : V → Option β) : Option β := F β e.1.1 e.1.2.1 e.2.1.1 e.2.1.2.1 (fun y1 => k (.bool y1))
abbrev W69 (F : T69) : WT := wrap s69 (G69 F)
theorem k69 (F105 : T105) (F106 : T106) (β : Type) (e : argsT s69) (k : V → Option β) : fnK cfg (tabL [(105, W105 F105), (106, W106 F106)]) noX 69 Tryd.f69 β (argsEnc s69 e) k = G69 (P69 F105 F106 ) β e k := by kernel_rfl
theorem ok69 : FnOk D 69 (W69 F69) := fn_okW [(105, W105 F105), (106, W106 F106)] noX (fun _ => rfl) Tryd.func69 rfl (tabL_cons ok105 (tabL_cons ok106 tabL_nil)) (k69 F105 F106 )

/-- laws.eqSlot -/
abbrev T107 : Type 1 := (β : Type) → Int → List UInt8 → List UInt8 → List UInt8 → Int → Bool → Int → List UInt8 → Int → List UInt8 → List UInt8 → List UInt8 → Int → Bool → Int → List UInt8 → (Bool → Option β) → Option β
def P107 (F65 : T65) : T107 := fun β a_Mode a_To_Host a_To_Path a_Digest a_Node a_Done a_Code a_Body b_Mode b_To_Host b_To_Path b_Digest b_Node b_Done b_Code b_Body k =>
 br (a_Mode != b_Mode) (
 k false) (
 F65 _ a_To_Host a_To_Path b_To_Host b_To_Path fun b1 =>
 br (!b1) (
 k false) (
 br (!(a_Digest == b_Digest)) (
 k false) (
 br (a_Node != b_Node) (
 k false) (
 br (!(a_Done == b_Done)) (
 k false) (
 br (a_Code != b_Code) (
 k false) (
 br (!(a_Body == b_Body)) (
 k false) (
 k true)))))))
def F107 : T107 := P107 F65 
abbrev s107 : List (Bool × List CK) := [(true, [.int .i64, .str, .str, .str, .int .i64, .bool, .int .i64, .str]), (true, [.int .i64, .str, .str, .str, .int .i64, .bool, .int .i64, .str])]
def G107 (F : T107) (β : Type) (e : (Int × List UInt8 × List UInt8 × List UInt8 × Int × Bool × Int × List UInt8 × Unit) × (Int × List UInt8 × List UInt8 × List UInt8 × Int × Bool × Int × List UInt8 × Unit) × Unit) (k : V → Option β) : Option β := let a0_0 := e.1; let a0_1 := a0_0.2; let a0_2 := a0_1.2; let a0_3 := a0_2.2; let a0_4 := a0_3.2; let a0_5 := a0_4.2; let a0_6 := a0_5.2; let a0_7 := a0_6.2; let a1_0 := e.2.1; let a1_1 := a1_0.2; let a1_2 := a1_1.2; let a1_3 := a1_2.2; let a1_4 := a1_3.2; let a1_5 := a1_4.2; let a1_6 := a1_5.2; let a1_7 := a1_6.2; F β a0_0.1 a0_1.1 a0_2.1 a0_3.1 a0_4.1 a0_5.1 a0_6.1 a0_7.1 a1_0.1 a1_1.1 a1_2.1 a1_3.1 a1_4.1 a1_5.1 a1_6.1 a1_7.1 (fun y1 => k (.bool y1))
abbrev W107 (F : T107) : WT := wrap s107 (G107 F)
theorem k107 (F65 : T65) (β : Type) (e : argsT s107) (k : V → Option β) : fnK cfg (tabL [(65, W65 F65)]) noX 107 Tryd.f107 β (argsEnc s107 e) k = G107 (P107 F65 ) β e k := by kernel_rfl
theorem ok107 : FnOk D 107 (W107 F107) := fn_okW [(65, W65 F65)] noX (fun _ => rfl) Tryd.func107 rfl (tabL_cons ok65 tabL_nil) (k107 F65 )

/-- laws.eqSlotS -/
abbrev T70 : Type 1 := (β : Type) → List V → List V → (Bool → Option β) → Option β
def P70 (F107 : T107) : T70 := fun β a b k =>
 br ((a.length : Int) != (b.length : Int)) (
 k false) (
 whileK (fun s1 =>
 br (decide ((lI s1 2) < ((lL s1 0).length : Int))) (
 chk (0 ≤ (lI s1 2)) <|
 idx true [.int .i64, .str, .str, .str, .int .i64, .bool, .int .i64, .str] (lL s1 0) ((lI s1 2).toNat) fun (e2 : Int × List UInt8 × List UInt8 × List UInt8 × Int × Bool × Int × List UInt8 × Unit) =>
 chk (0 ≤ (lI s1 2)) <|
 idx true [.int .i64, .str, .str, .str, .int .i64, .bool, .int .i64, .str] (lL s1 1) ((lI s1 2).toNat) fun (e3 : Int × List UInt8 × List UInt8 × List UInt8 × Int × Bool × Int × List UInt8 × Unit) =>
 F107 _ e2.1 e2.2.1 e2.2.2.1 e2.2.2.2.1 e2.2.2.2.2.1 e2.2.2.2.2.2.1 e2.2.2.2.2.2.2.1 e2.2.2.2.2.2.2.2.1 e3.1 e3.2.1 e3.2.2.1 e3.2.2.2.1 e3.2.2.2.2.1 e3.2.2.2.2.2.1 e3.2.2.2.2.2.2.1 e3.2.2.2.2.2.2.2.1 fun b4 =>
 br (!b4) (
 some (.inr (0, [.b false]))) (
 some (.inl [.l (lL s1 0), .l (lL s1 1), .i (IntKind.wrap .i64 ((lI s1 2) + 1))]))) (
 some (.inr (1, [])))) [.l a, .l b, .i 0] fun (r5 : Nat × List Leaf) =>
 if r5.1 = 0 then
 k (lB r5.2 0)
 else
 k true)
def F70 : T70 := P70 F107 
def X70 : Exits := fun i => lookN i [] [(4, [(.ret, xk 27 [(4, .bool false)] []), (.exit 0, xk 27 [] [])])]
abbrev s70 : List (Bool × List CK) := [(false, [.sl 8 true]), (false, [.sl 8 true])]
def G70 (F : T70) (β : Type) (e : (List V × Unit) × (List V × Unit) × Unit) (k : V → Option β) : Option β := F β e.1.1 e.2.1.1 (fun y1 => k (.bool y1))
abbrev W70 (F : T70) : WT := wrap s70 (G70 F)
theorem k70 (F107 : T107) (β : Type) (e : argsT s70) (k : V → Option β) : fnK cfg (tabL [(107, W107 F107)]) X70 70 Tryd.f70 β (argsEnc s70 e) k = G70 (P70 F107 ) β e k := by kernel_rfl
theorem ok70 : FnOk D 70 (W70 F70) := fn_okW [(107, W107 F107)] X70 (fun _ => rfl) Tryd.func70 rfl (tabL_cons ok107 tabL_nil) (k70 F107 )

/-- laws.eqModule -/
abbrev T108 : Type 1 := (β : Type) → List UInt8 → List UInt8 → Bool → Int → List UInt8 → List UInt8 → List UInt8 → Bool → Int → List UInt8 → (Bool → Option β) → Option β
def P108 (F65 : T65) : T108 := fun β a_To_Host a_To_Path a_Done a_Code a_Body b_To_Host b_To_Path b_Done b_Code b_Body k =>
 F65 _ a_To_Host a_To_Path b_To_Host b_To_Path fun b1 =>
 br (!b1) (
 k false) (
 br (!(a_Done == b_Done)) (
 k false) (
 br (a_Code != b_Code) (
 k false) (
 br (!(a_Body == b_Body)) (
 k false) (
 k true))))
def F108 : T108 := P108 F65 
abbrev s108 : List (Bool × List CK) := [(true, [.str, .str, .bool, .int .i64, .str]), (true, [.str, .str, .bool, .int .i64, .str])]
def G108 (F : T108) (β : Type) (e : (List UInt8 × List UInt8 × Bool × Int × List UInt8 × Unit) × (List UInt8 × List UInt8 × Bool × Int × List UInt8 × Unit) × Unit) (k : V → Option β) : Option β := let a0_0 := e.1; let a0_1 := a0_0.2; let a0_2 := a0_1.2; let a0_3 := a0_2.2; let a0_4 := a0_3.2; let a1_0 := e.2.1; let a1_1 := a1_0.2; let a1_2 := a1_1.2; let a1_3 := a1_2.2; let a1_4 := a1_3.2; F β a0_0.1 a0_1.1 a0_2.1 a0_3.1 a0_4.1 a1_0.1 a1_1.1 a1_2.1 a1_3.1 a1_4.1 (fun y1 => k (.bool y1))
abbrev W108 (F : T108) : WT := wrap s108 (G108 F)
theorem k108 (F65 : T65) (β : Type) (e : argsT s108) (k : V → Option β) : fnK cfg (tabL [(65, W65 F65)]) noX 108 Tryd.f108 β (argsEnc s108 e) k = G108 (P108 F65 ) β e k := by kernel_rfl
theorem ok108 : FnOk D 108 (W108 F108) := fn_okW [(65, W65 F65)] noX (fun _ => rfl) Tryd.func108 rfl (tabL_cons ok65 tabL_nil) (k108 F65 )

/-- laws.eqModuleS -/
abbrev T71 : Type 1 := (β : Type) → List V → List V → (Bool → Option β) → Option β
def P71 (F108 : T108) : T71 := fun β a b k =>
 br ((a.length : Int) != (b.length : Int)) (
 k false) (
 whileK (fun s1 =>
 br (decide ((lI s1 2) < ((lL s1 0).length : Int))) (
 chk (0 ≤ (lI s1 2)) <|
 idx true [.str, .str, .bool, .int .i64, .str] (lL s1 0) ((lI s1 2).toNat) fun (e2 : List UInt8 × List UInt8 × Bool × Int × List UInt8 × Unit) =>
 chk (0 ≤ (lI s1 2)) <|
 idx true [.str, .str, .bool, .int .i64, .str] (lL s1 1) ((lI s1 2).toNat) fun (e3 : List UInt8 × List UInt8 × Bool × Int × List UInt8 × Unit) =>
 F108 _ e2.1 e2.2.1 e2.2.2.1 e2.2.2.2.1 e2.2.2.2.2.1 e3.1 e3.2.1 e3.2.2.1 e3.2.2.2.1 e3.2.2.2.2.1 fun b4 =>
 br (!b4) (
 some (.inr (0, [.b false]))) (
 some (.inl [.l (lL s1 0), .l (lL s1 1), .i (IntKind.wrap .i64 ((lI s1 2) + 1))]))) (
 some (.inr (1, [])))) [.l a, .l b, .i 0] fun (r5 : Nat × List Leaf) =>
 if r5.1 = 0 then
 k (lB r5.2 0)
 else
 k true)
def F71 : T71 := P71 F108 
def X71 : Exits := fun i => lookN i [] [(4, [(.ret, xk 27 [(4, .bool false)] []), (.exit 0, xk 27 [] [])])]
abbrev s71 : List (Bool × List CK) := [(false, [.sl 5 true]), (false, [.sl 5 true])]
def G71 (F : T71) (β : Type) (e : (List V × Unit) × (List V × Unit) × Unit) (k : V → Option β) : Option β := F β e.1.1 e.2.1.1 (fun y1 => k (.bool y1))
abbrev W71 (F : T71) : WT := wrap s71 (G71 F)
theorem k71 (F108 : T108) (β : Type) (e : argsT s71) (k : V → Option β) : fnK cfg (tabL [(108, W108 F108)]) X71 71 Tryd.f71 β (argsEnc s71 e) k = G71 (P71 F108 ) β e k := by kernel_rfl
theorem ok71 : FnOk D 71 (W71 F71) := fn_okW [(108, W108 F108)] X71 (fun _ => rfl) Tryd.func71 rfl (tabL_cons ok108 tabL_nil) (k71 F108 )

/-- laws.eqAddrS -/
abbrev T72 : Type 1 := (β : Type) → List V → List V → (Bool → Option β) → Option β
def P72 (F65 : T65) : T72 := fun β a b k =>
 br ((a.length : Int) != (b.length : Int)) (
 k false) (
 whileK (fun s1 =>
 br (decide ((lI s1 2) < ((lL s1 0).length : Int))) (
 chk (0 ≤ (lI s1 2)) <|
 idx true [.str, .str] (lL s1 0) ((lI s1 2).toNat) fun (e2 : List UInt8 × List UInt8 × Unit) =>
 chk (0 ≤ (lI s1 2)) <|
 idx true [.str, .str] (lL s1 1) ((lI s1 2).toNat) fun (e3 : List UInt8 × List UInt8 × Unit) =>
 F65 _ e2.1 e2.2.1 e3.1 e3.2.1 fun b4 =>
 br (!b4) (
 some (.inr (0, [.b false]))) (
 some (.inl [.l (lL s1 0), .l (lL s1 1), .i (IntKind.wrap .i64 ((lI s1 2) + 1))]))) (
 some (.inr (1, [])))) [.l a, .l b, .i 0] fun (r5 : Nat × List Leaf) =>
 if r5.1 = 0 then
 k (lB r5.2 0)
 else
 k true)
def F72 : T72 := P72 F65 
def X72 : Exits := fun i => lookN i [] [(4, [(.ret, xk 27 [(4, .bool false)] []), (.exit 0, xk 27 [] [])])]
abbrev s72 : List (Bool × List CK) := [(false, [.sl 2 true]), (false, [.sl 2 true])]
def G72 (F : T72) (β : Type) (e : (List V × Unit) × (List V × Unit) × Unit) (k : V → Option β) : Option β := F β e.1.1 e.2.1.1 (fun y1 => k (.bool y1))
abbrev W72 (F : T72) : WT := wrap s72 (G72 F)
theorem k72 (F65 : T65) (β : Type) (e : argsT s72) (k : V → Option β) : fnK cfg (tabL [(65, W65 F65)]) X72 72 Tryd.f72 β (argsEnc s72 e) k = G72 (P72 F65 ) β e k := by kernel_rfl
theorem ok72 : FnOk D 72 (W72 F72) := fn_okW [(65, W65 F65)] X72 (fun _ => rfl) Tryd.func72 rfl (tabL_cons ok65 tabL_nil) (k72 F65 )

/-- laws.eqPage -/
abbrev T25 : Type 1 := (β : Type) → List UInt8 → List UInt8 → Bool → List V → List V → List V → List UInt8 → List UInt8 → List V → Bool → List V → List V → List V → List V → List V → Int → Int → Int → Int → List V → List V → Bool → List UInt8 → List UInt8 → Bool → List V → List V → List V → List UInt8 → List UInt8 → List V → Bool → List V → List V → List V → List V → List V → Int → Int → Int → Int → List V → List V → Bool → (Bool → Option β) → Option β
def P25 (F65 : T65) (F66 : T66) (F67 : T67) (F68 : T68) (F69 : T69) (F70 : T70) (F71 : T71) (F72 : T72) (F73 : T73) : T25 := fun β a_Addr_Host a_Addr_Path a_Policy_Set a_Policy_Scripts a_Policy_Styles a_Policy_Images a_Policy_Nonce a_Tok_Rest a_Queue a_Ended a_Builder_Nodes a_Builder_Open a_Slots a_Mods a_Entries a_Block a_Inline a_Deferred a_Entered a_Ran a_Log a_Loaded b_Addr_Host b_Addr_Path b_Policy_Set b_Policy_Scripts b_Policy_Styles b_Policy_Images b_Policy_Nonce b_Tok_Rest b_Queue b_Ended b_Builder_Nodes b_Builder_Open b_Slots b_Mods b_Entries b_Block b_Inline b_Deferred b_Entered b_Ran b_Log b_Loaded k =>
 F65 _ a_Addr_Host a_Addr_Path b_Addr_Host b_Addr_Path fun b1 =>
 br (!b1) (
 k false) (
 F66 _ a_Policy_Set a_Policy_Scripts a_Policy_Styles a_Policy_Images a_Policy_Nonce b_Policy_Set b_Policy_Scripts b_Policy_Styles b_Policy_Images b_Policy_Nonce fun b2 =>
 br (!b2) (
 k false) (
 F67 _ a_Tok_Rest b_Tok_Rest fun b3 =>
 br (!b3) (
 k false) (
 F68 _ a_Queue b_Queue fun b4 =>
 br (!b4) (
 k false) (
 br (!(a_Ended == b_Ended)) (
 k false) (
 F69 _ a_Builder_Nodes a_Builder_Open b_Builder_Nodes b_Builder_Open fun b5 =>
 br (!b5) (
 k false) (
 F70 _ a_Slots b_Slots fun b6 =>
 br (!b6) (
 k false) (
 F71 _ a_Mods b_Mods fun b7 =>
 br (!b7) (
 k false) (
 F72 _ a_Entries b_Entries fun b8 =>
 br (!b8) (
 k false) (
 br (a_Block != b_Block) (
 k false) (
 br (a_Inline != b_Inline) (
 k false) (
 br (a_Deferred != b_Deferred) (
 k false) (
 br (a_Entered != b_Entered) (
 k false) (
 F72 _ a_Ran b_Ran fun b9 =>
 br (!b9) (
 k false) (
 F73 _ a_Log b_Log fun b10 =>
 br (!b10) (
 k false) (
 br (!(a_Loaded == b_Loaded)) (
 k false) (
 k true))))))))))))))))
def F25 : T25 := P25 F65 F66 F67 F68 F69 F70 F71 F72 F73 
abbrev s25 : List (Bool × List CK) := [(true, [.str, .str, .bool, .sl 1 true, .sl 1 true, .sl 1 true, .str, .str, .sl 4 false, .bool, .sl 4 false, .sl 1 true, .sl 8 true, .sl 5 true, .sl 2 true, .int .i64, .int .i64, .int .i64, .int .i64, .sl 2 true, .sl 1 true, .bool]), (true, [.str, .str, .bool, .sl 1 true, .sl 1 true, .sl 1 true, .str, .str, .sl 4 false, .bool, .sl 4 false, .sl 1 true, .sl 8 true, .sl 5 true, .sl 2 true, .int .i64, .int .i64, .int .i64, .int .i64, .sl 2 true, .sl 1 true, .bool])]
def G25 (F : T25) (β : Type) (e : (List UInt8 × List UInt8 × Bool × List V × List V × List V × List UInt8 × List UInt8 × List V × Bool × List V × List V × List V × List V × List V × Int × Int × Int × Int × List V × List V × Bool × Unit) × (List UInt8 × List UInt8 × Bool × List V × List V × List V × List UInt8 × List UInt8 × List V × Bool × List V × List V × List V × List V × List V × Int × Int × Int × Int × List V × List V × Bool × Unit) × Unit) (k : V → Option β) : Option β := let a0_0 := e.1; let a0_1 := a0_0.2; let a0_2 := a0_1.2; let a0_3 := a0_2.2; let a0_4 := a0_3.2; let a0_5 := a0_4.2; let a0_6 := a0_5.2; let a0_7 := a0_6.2; let a0_8 := a0_7.2; let a0_9 := a0_8.2; let a0_10 := a0_9.2; let a0_11 := a0_10.2; let a0_12 := a0_11.2; let a0_13 := a0_12.2; let a0_14 := a0_13.2; let a0_15 := a0_14.2; let a0_16 := a0_15.2; let a0_17 := a0_16.2; let a0_18 := a0_17.2; let a0_19 := a0_18.2; let a0_20 := a0_19.2; let a0_21 := a0_20.2; let a1_0 := e.2.1; let a1_1 := a1_0.2; let a1_2 := a1_1.2; let a1_3 := a1_2.2; let a1_4 := a1_3.2; let a1_5 := a1_4.2; let a1_6 := a1_5.2; let a1_7 := a1_6.2; let a1_8 := a1_7.2; let a1_9 := a1_8.2; let a1_10 := a1_9.2; let a1_11 := a1_10.2; let a1_12 := a1_11.2; let a1_13 := a1_12.2; let a1_14 := a1_13.2; let a1_15 := a1_14.2; let a1_16 := a1_15.2; let a1_17 := a1_16.2; let a1_18 := a1_17.2; let a1_19 := a1_18.2; let a1_20 := a1_19.2; let a1_21 := a1_20.2; F β a0_0.1 a0_1.1 a0_2.1 a0_3.1 a0_4.1 a0_5.1 a0_6.1 a0_7.1 a0_8.1 a0_9.1 a0_10.1 a0_11.1 a0_12.1 a0_13.1 a0_14.1 a0_15.1 a0_16.1 a0_17.1 a0_18.1 a0_19.1 a0_20.1 a0_21.1 a1_0.1 a1_1.1 a1_2.1 a1_3.1 a1_4.1 a1_5.1 a1_6.1 a1_7.1 a1_8.1 a1_9.1 a1_10.1 a1_11.1 a1_12.1 a1_13.1 a1_14.1 a1_15.1 a1_16.1 a1_17.1 a1_18.1 a1_19.1 a1_20.1 a1_21.1 (fun y1 => k (.bool y1))
abbrev W25 (F : T25) : WT := wrap s25 (G25 F)
theorem k25 (F65 : T65) (F66 : T66) (F67 : T67) (F68 : T68) (F69 : T69) (F70 : T70) (F71 : T71) (F72 : T72) (F73 : T73) (β : Type) (e : argsT s25) (k : V → Option β) : fnK cfg (tabL [(65, W65 F65), (66, W66 F66), (67, W67 F67), (68, W68 F68), (69, W69 F69), (70, W70 F70), (71, W71 F71), (72, W72 F72), (73, W73 F73)]) noX 25 Tryd.f25 β (argsEnc s25 e) k = G25 (P25 F65 F66 F67 F68 F69 F70 F71 F72 F73 ) β e k := by kernel_rfl
theorem ok25 : FnOk D 25 (W25 F25) := fn_okW [(65, W65 F65), (66, W66 F66), (67, W67 F67), (68, W68 F68), (69, W69 F69), (70, W70 F70), (71, W71 F71), (72, W72 F72), (73, W73 F73)] noX (fun _ => rfl) Tryd.func25 rfl (tabL_cons ok65 (tabL_cons ok66 (tabL_cons ok67 (tabL_cons ok68 (tabL_cons ok69 (tabL_cons ok70 (tabL_cons ok71 (tabL_cons ok72 (tabL_cons ok73 tabL_nil))))))))) (k25 F65 F66 F67 F68 F69 F70 F71 F72 F73 )

/-- laws.FnExactFormatPage -/
abbrev T6 : Type 1 := (β : Type) → List UInt8 → List UInt8 → Bool → List V → List V → List V → List UInt8 → List UInt8 → List V → Bool → List V → List V → List V → List V → List V → Int → Int → Int → Int → List V → List V → Bool → (Bool → Option β) → Option β
def P6 (F21 : T21) (F23 : T23) (F22 : T22) (F24 : T24) (F25 : T25) : T6 := fun β aP_Addr_Host aP_Addr_Path aP_Policy_Set aP_Policy_Scripts aP_Policy_Styles aP_Policy_Images aP_Policy_Nonce aP_Tok_Rest aP_Queue aP_Ended aP_Builder_Nodes aP_Builder_Open aP_Slots aP_Mods aP_Entries aP_Block aP_Inline aP_Deferred aP_Entered aP_Ran aP_Log aP_Loaded k =>
 F21 _ aP_Addr_Host aP_Addr_Path aP_Policy_Set aP_Policy_Scripts aP_Policy_Styles aP_Policy_Images aP_Policy_Nonce aP_Tok_Rest aP_Queue aP_Ended aP_Builder_Nodes aP_Builder_Open aP_Slots aP_Mods aP_Entries aP_Block aP_Inline aP_Deferred aP_Entered aP_Ran aP_Log aP_Loaded 1048576 fun n1 =>
 br (decide (n1 < 0)) (
 k true) (
 F23 _ aP_Addr_Host aP_Addr_Path aP_Policy_Set aP_Policy_Scripts aP_Policy_Styles aP_Policy_Images aP_Policy_Nonce aP_Tok_Rest aP_Queue aP_Ended aP_Builder_Nodes aP_Builder_Open aP_Slots aP_Mods aP_Entries aP_Block aP_Inline aP_Deferred aP_Entered aP_Ran aP_Log aP_Loaded fun t2 t3 b4 l5 l6 l7 t8 t9 l10 b11 l12 l13 l14 l15 l16 n17 n18 n19 n20 l21 l22 b23 =>
 F22 _ t2 t3 b4 l5 l6 l7 t8 t9 l10 b11 l12 l13 l14 l15 l16 n17 n18 n19 n20 l21 l22 b23 fun t24 =>
 F23 _ aP_Addr_Host aP_Addr_Path aP_Policy_Set aP_Policy_Scripts aP_Policy_Styles aP_Policy_Images aP_Policy_Nonce aP_Tok_Rest aP_Queue aP_Ended aP_Builder_Nodes aP_Builder_Open aP_Slots aP_Mods aP_Entries aP_Block aP_Inline aP_Deferred aP_Entered aP_Ran aP_Log aP_Loaded fun t25 t26 b27 l28 l29 l30 t31 t32 l33 b34 l35 l36 l37 l38 l39 n40 n41 n42 n43 l44 l45 b46 =>
 F24 _ t25 t26 b27 l28 l29 l30 t31 t32 l33 b34 l35 l36 l37 l38 l39 n40 n41 n42 n43 l44 l45 b46 fun t47 =>
 br (!(t47 == t24)) (
 k false) (
 F23 _ aP_Addr_Host aP_Addr_Path aP_Policy_Set aP_Policy_Scripts aP_Policy_Styles aP_Policy_Images aP_Policy_Nonce aP_Tok_Rest aP_Queue aP_Ended aP_Builder_Nodes aP_Builder_Open aP_Slots aP_Mods aP_Entries aP_Block aP_Inline aP_Deferred aP_Entered aP_Ran aP_Log aP_Loaded fun t48 t49 b50 l51 l52 l53 t54 t55 l56 b57 l58 l59 l60 l61 l62 n63 n64 n65 n66 l67 l68 b69 =>
 F25 _ t25 t26 b27 l28 l29 l30 t31 t32 l33 b34 l35 l36 l37 l38 l39 n40 n41 n42 n43 l44 l45 b46 t48 t49 b50 l51 l52 l53 t54 t55 l56 b57 l58 l59 l60 l61 l62 n63 n64 n65 n66 l67 l68 b69 fun b70 =>
 br (!b70) (
 k false) (
 k true)))
def F6 : T6 := P6 F21 F23 F22 F24 F25 
abbrev s6 : List (Bool × List CK) := [(true, [.str, .str, .bool, .sl 1 true, .sl 1 true, .sl 1 true, .str, .str, .sl 4 false, .bool, .sl 4 false, .sl 1 true, .sl 8 true, .sl 5 true, .sl 2 true, .int .i64, .int .i64, .int .i64, .int .i64, .sl 2 true, .sl 1 true, .bool])]
def G6 (F : T6) (β : Type) (e : (List UInt8 × List UInt8 × Bool × List V × List V × List V × List UInt8 × List UInt8 × List V × Bool × List V × List V × List V × List V × List V × Int × Int × Int × Int × List V × List V × Bool × Unit) × Unit) (k : V → Option β) : Option β := let a0_0 := e.1; let a0_1 := a0_0.2; let a0_2 := a0_1.2; let a0_3 := a0_2.2; let a0_4 := a0_3.2; let a0_5 := a0_4.2; let a0_6 := a0_5.2; let a0_7 := a0_6.2; let a0_8 := a0_7.2; let a0_9 := a0_8.2; let a0_10 := a0_9.2; let a0_11 := a0_10.2; let a0_12 := a0_11.2; let a0_13 := a0_12.2; let a0_14 := a0_13.2; let a0_15 := a0_14.2; let a0_16 := a0_15.2; let a0_17 := a0_16.2; let a0_18 := a0_17.2; let a0_19 := a0_18.2; let a0_20 := a0_19.2; let a0_21 := a0_20.2; F β a0_0.1 a0_1.1 a0_2.1 a0_3.1 a0_4.1 a0_5.1 a0_6.1 a0_7.1 a0_8.1 a0_9.1 a0_10.1 a0_11.1 a0_12.1 a0_13.1 a0_14.1 a0_15.1 a0_16.1 a0_17.1 a0_18.1 a0_19.1 a0_20.1 a0_21.1 (fun y1 => k (.bool y1))
abbrev W6 (F : T6) : WT := wrap s6 (G6 F)
theorem k6 (F21 : T21) (F23 : T23) (F22 : T22) (F24 : T24) (F25 : T25) (β : Type) (e : argsT s6) (k : V → Option β) : fnK cfg (tabL [(21, W21 F21), (23, W23 F23), (22, W22 F22), (24, W24 F24), (25, W25 F25)]) noX 6 Tryd.f6 β (argsEnc s6 e) k = G6 (P6 F21 F23 F22 F24 F25 ) β e k := by kernel_rfl
theorem ok6 : FnOk D 6 (W6 F6) := fn_okW [(21, W21 F21), (23, W23 F23), (22, W22 F22), (24, W24 F24), (25, W25 F25)] noX (fun _ => rfl) Tryd.func6 rfl (tabL_cons ok21 (tabL_cons ok23 (tabL_cons ok22 (tabL_cons ok24 (tabL_cons ok25 tabL_nil))))) (k6 F21 F23 F22 F24 F25 )

end
end Go.Am

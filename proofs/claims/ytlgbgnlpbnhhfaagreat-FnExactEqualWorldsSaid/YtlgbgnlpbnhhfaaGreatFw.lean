/-
  Functions of the program, extracted by program (sym.py) out of their code: what each computes, and, by the kernel's reckoning, that the machine's looking form computes just that; so what the machine answers.
-/
import Derived.Test.YtlgbgnlpbnhhfaaGreatAmCfg
import Derived.Test.YtlgbgnlpbnhhfaaGreatAmEvOk2
import Derived.KernelRfl
import Derived.Test.YtlgbgnlpbnhhfaaGreatFwp0
set_option maxRecDepth 10000
set_option linter.unusedVariables false
namespace Go.Am
open Go Go.Proofs
noncomputable section
/-- impl.EqualTabs -/
abbrev T97 : Type 1 := (β : Type) → List V → Int → List V → Int → (Bool → Option β) → Option β
def P97 (F158c159 : T158c159) : T97 := fun β a_Visits a_At b_Visits b_At k =>
 br (a_At == b_At) (
 F158c159 _ a_Visits b_Visits fun b1 =>
 k b1) (
 k false)
def F97 : T97 := P97 F158c159 
abbrev s97 : List (Bool × List CK) := [(true, [.sl 25 false, .int .i64]), (true, [.sl 25 false, .int .i64])]
def G97 (F : T97) (β : Type) (e : (List V × Int × Unit) × (List V × Int × Unit) × Unit) (k : V → Option β) : Option β := F β e.1.1 e.1.2.1 e.2.1.1 e.2.1.2.1 (fun y1 => k (.bool y1))
abbrev W97 (F : T97) : WT := wrap s97 (G97 F)
theorem k97 (F158c159 : T158c159) (β : Type) (e : argsT s97) (k : V → Option β) : fnK cfg (tabL [(158, W158c159 F158c159)]) noX 97 Tryz.f97 β (argsEnc s97 e) k = G97 (P97 F158c159 ) β e k := by kernel_rfl
theorem ok97 : FnOk D 97 (W97 F97) := fn_okW [(158, W158c159 F158c159)] noX (fun _ => rfl) Tryz.func97 rfl (tabL_cons ok158c159 tabL_nil) (k97 F158c159 )

/-- slices.Equal[[]impl.Kept,impl.Kept] -/
abbrev T40 : Type 1 := (β : Type) → List V → List V → (Bool → Option β) → Option β
def P40 : T40 := fun β s1 s2 k =>
 br ((s1.length : Int) != (s2.length : Int)) (
 k false) (
 whileK (fun s3 =>
 br (decide ((lI s3 3) < (lI s3 2))) (
 chk (0 ≤ (lI s3 3)) <|
 idx true [.str, .str, .int .i64, .int .i64, .str, .int .i64, .bool, .str] (lL s3 0) ((lI s3 3).toNat) fun (e4 : List UInt8 × List UInt8 × Int × Int × List UInt8 × Int × Bool × List UInt8 × Unit) =>
 chk (0 ≤ (lI s3 3)) <|
 idx true [.str, .str, .int .i64, .int .i64, .str, .int .i64, .bool, .str] (lL s3 1) ((lI s3 3).toNat) fun (e5 : List UInt8 × List UInt8 × Int × Int × List UInt8 × Int × Bool × List UInt8 × Unit) =>
 br (!((e4.1 == e5.1) && ((e4.2.1 == e5.2.1) && ((e4.2.2.1 == e5.2.2.1) && ((e4.2.2.2.1 == e5.2.2.2.1) && ((e4.2.2.2.2.1 == e5.2.2.2.2.1) && ((e4.2.2.2.2.2.1 == e5.2.2.2.2.2.1) && ((e4.2.2.2.2.2.2.1 == e5.2.2.2.2.2.2.1) && ((e4.2.2.2.2.2.2.2.1 == e5.2.2.2.2.2.2.2.1) && true))))))))) (
 some (.inr (0, [.b false]))) (
 some (.inl [.l (lL s3 0), .l (lL s3 1), .i (lI s3 2), .i (IntKind.wrap .i64 ((lI s3 3) + 1))]))) (
 some (.inr (1, [])))) [.l s1, .l s2, .i (s1.length : Int), .i 0] fun (r6 : Nat × List Leaf) =>
 if r6.1 = 0 then
 k (lB r6.2 0)
 else
 k true)
def F40 : T40 := P40 
def X40 : Exits := fun i => lookN i [] [(4, [(.ret, xk 26 [(4, .bool false)] []), (.exit 0, xk 26 [] [])])]
abbrev s40 : List (Bool × List CK) := [(false, [.sl 8 true]), (false, [.sl 8 true])]
def G40 (F : T40) (β : Type) (e : (List V × Unit) × (List V × Unit) × Unit) (k : V → Option β) : Option β := F β e.1.1 e.2.1.1 (fun y1 => k (.bool y1))
abbrev W40 (F : T40) : WT := wrap s40 (G40 F)
theorem k40 (β : Type) (e : argsT s40) (k : V → Option β) : fnK cfg (tabL []) X40 40 Tryz.f40 β (argsEnc s40 e) k = G40 (P40 ) β e k := by kernel_rfl
theorem ok40 : FnOk D 40 (W40 F40) := fn_okW [] X40 (fun _ => rfl) Tryz.func40 rfl (tabL_nil) (k40 )

/-- impl.EqualHidden -/
abbrev T11 : Type 1 := (β : Type) → Bool → List UInt8 → List UInt8 → Bool → List V → List V → List V → List UInt8 → List UInt8 → List V → Bool → List V → List V → List V → List V → List V → Int → Int → Int → Int → List V → List V → Bool → List V → List V → Int → Bool → List UInt8 → List UInt8 → Bool → List V → List V → List V → List UInt8 → List UInt8 → List V → Bool → List V → List V → List V → List V → List V → Int → Int → Int → Int → List V → List V → Bool → List V → List V → Int → (Bool → Option β) → Option β
def P11 (F39 : T39) (F40 : T40) (F41 : T41) : T11 := fun β a_Ready a_Page_Addr_Host a_Page_Addr_Path a_Page_Policy_Set a_Page_Policy_Scripts a_Page_Policy_Styles a_Page_Policy_Images a_Page_Policy_Nonce a_Page_Tok_Rest a_Page_Queue a_Page_Ended a_Page_Builder_Nodes a_Page_Builder_Open a_Page_Slots a_Page_Mods a_Page_Entries a_Page_Block a_Page_Inline a_Page_Deferred a_Page_Entered a_Page_Ran a_Page_Log a_Page_Loaded a_Taken a_Servers a_Now b_Ready b_Page_Addr_Host b_Page_Addr_Path b_Page_Policy_Set b_Page_Policy_Scripts b_Page_Policy_Styles b_Page_Policy_Images b_Page_Policy_Nonce b_Page_Tok_Rest b_Page_Queue b_Page_Ended b_Page_Builder_Nodes b_Page_Builder_Open b_Page_Slots b_Page_Mods b_Page_Entries b_Page_Block b_Page_Inline b_Page_Deferred b_Page_Entered b_Page_Ran b_Page_Log b_Page_Loaded b_Taken b_Servers b_Now k =>
 br (a_Ready == b_Ready) (
 F39 _ a_Page_Addr_Host a_Page_Addr_Path a_Page_Policy_Set a_Page_Policy_Scripts a_Page_Policy_Styles a_Page_Policy_Images a_Page_Policy_Nonce a_Page_Tok_Rest a_Page_Queue a_Page_Ended a_Page_Builder_Nodes a_Page_Builder_Open a_Page_Slots a_Page_Mods a_Page_Entries a_Page_Block a_Page_Inline a_Page_Deferred a_Page_Entered a_Page_Ran a_Page_Log a_Page_Loaded b_Page_Addr_Host b_Page_Addr_Path b_Page_Policy_Set b_Page_Policy_Scripts b_Page_Policy_Styles b_Page_Policy_Images b_Page_Policy_Nonce b_Page_Tok_Rest b_Page_Queue b_Page_Ended b_Page_Builder_Nodes b_Page_Builder_Open b_Page_Slots b_Page_Mods b_Page_Entries b_Page_Block b_Page_Inline b_Page_Deferred b_Page_Entered b_Page_Ran b_Page_Log b_Page_Loaded fun b1 =>
 br b1 (
 F40 _ a_Taken b_Taken fun b2 =>
 br b2 (
 F41 _ a_Servers b_Servers fun b3 =>
 br b3 (
 k (a_Now == b_Now)) (
 k false)) (
 k false)) (
 k false)) (
 k false)
def F11 : T11 := P11 F39 F40 F41 
abbrev s11 : List (Bool × List CK) := [(true, [.bool, .str, .str, .bool, .sl 1 true, .sl 1 true, .sl 1 true, .str, .str, .sl 4 false, .bool, .sl 4 false, .sl 1 true, .sl 8 true, .sl 5 true, .sl 2 true, .int .i64, .int .i64, .int .i64, .int .i64, .sl 2 true, .sl 1 true, .bool, .sl 8 true, .sl 2 false, .int .i64]), (true, [.bool, .str, .str, .bool, .sl 1 true, .sl 1 true, .sl 1 true, .str, .str, .sl 4 false, .bool, .sl 4 false, .sl 1 true, .sl 8 true, .sl 5 true, .sl 2 true, .int .i64, .int .i64, .int .i64, .int .i64, .sl 2 true, .sl 1 true, .bool, .sl 8 true, .sl 2 false, .int .i64])]
def G11 (F : T11) (β : Type) (e : (Bool × List UInt8 × List UInt8 × Bool × List V × List V × List V × List UInt8 × List UInt8 × List V × Bool × List V × List V × List V × List V × List V × Int × Int × Int × Int × List V × List V × Bool × List V × List V × Int × Unit) × (Bool × List UInt8 × List UInt8 × Bool × List V × List V × List V × List UInt8 × List UInt8 × List V × Bool × List V × List V × List V × List V × List V × Int × Int × Int × Int × List V × List V × Bool × List V × List V × Int × Unit) × Unit) (k : V → Option β) : Option β := let a0_0 := e.1; let a0_1 := a0_0.2; let a0_2 := a0_1.2; let a0_3 := a0_2.2; let a0_4 := a0_3.2; let a0_5 := a0_4.2; let a0_6 := a0_5.2; let a0_7 := a0_6.2; let a0_8 := a0_7.2; let a0_9 := a0_8.2; let a0_10 := a0_9.2; let a0_11 := a0_10.2; let a0_12 := a0_11.2; let a0_13 := a0_12.2; let a0_14 := a0_13.2; let a0_15 := a0_14.2; let a0_16 := a0_15.2; let a0_17 := a0_16.2; let a0_18 := a0_17.2; let a0_19 := a0_18.2; let a0_20 := a0_19.2; let a0_21 := a0_20.2; let a0_22 := a0_21.2; let a0_23 := a0_22.2; let a0_24 := a0_23.2; let a0_25 := a0_24.2; let a1_0 := e.2.1; let a1_1 := a1_0.2; let a1_2 := a1_1.2; let a1_3 := a1_2.2; let a1_4 := a1_3.2; let a1_5 := a1_4.2; let a1_6 := a1_5.2; let a1_7 := a1_6.2; let a1_8 := a1_7.2; let a1_9 := a1_8.2; let a1_10 := a1_9.2; let a1_11 := a1_10.2; let a1_12 := a1_11.2; let a1_13 := a1_12.2; let a1_14 := a1_13.2; let a1_15 := a1_14.2; let a1_16 := a1_15.2; let a1_17 := a1_16.2; let a1_18 := a1_17.2; let a1_19 := a1_18.2; let a1_20 := a1_19.2; let a1_21 := a1_20.2; let a1_22 := a1_21.2; let a1_23 := a1_22.2; let a1_24 := a1_23.2; let a1_25 := a1_24.2; F β a0_0.1 a0_1.1 a0_2.1 a0_3.1 a0_4.1 a0_5.1 a0_6.1 a0_7.1 a0_8.1 a0_9.1 a0_10.1 a0_11.1 a0_12.1 a0_13.1 a0_14.1 a0_15.1 a0_16.1 a0_17.1 a0_18.1 a0_19.1 a0_20.1 a0_21.1 a0_22.1 a0_23.1 a0_24.1 a0_25.1 a1_0.1 a1_1.1 a1_2.1 a1_3.1 a1_4.1 a1_5.1 a1_6.1 a1_7.1 a1_8.1 a1_9.1 a1_10.1 a1_11.1 a1_12.1 a1_13.1 a1_14.1 a1_15.1 a1_16.1 a1_17.1 a1_18.1 a1_19.1 a1_20.1 a1_21.1 a1_22.1 a1_23.1 a1_24.1 a1_25.1 (fun y1 => k (.bool y1))
abbrev W11 (F : T11) : WT := wrap s11 (G11 F)
theorem k11 (F39 : T39) (F40 : T40) (F41 : T41) (β : Type) (e : argsT s11) (k : V → Option β) : fnK cfg (tabL [(39, W39 F39), (40, W40 F40), (41, W41 F41)]) noX 11 Tryz.f11 β (argsEnc s11 e) k = G11 (P11 F39 F40 F41 ) β e k := by kernel_rfl
theorem ok11 : FnOk D 11 (W11 F11) := fn_okW [(39, W39 F39), (40, W40 F40), (41, W41 F41)] noX (fun _ => rfl) Tryz.func11 rfl (tabL_cons ok39 (tabL_cons ok40 (tabL_cons ok41 tabL_nil))) (k11 F39 F40 F41 )

/-- impl.EqualWorlds -/
abbrev T31 : Type 1 := (β : Type) → List V → List V → List V → Int → List V → Int → Bool → List UInt8 → List UInt8 → Bool → List V → List V → List V → List UInt8 → List UInt8 → List V → Bool → List V → List V → List V → List V → List V → Int → Int → Int → Int → List V → List V → Bool → List V → List V → Int → Bool → List V → List V → List V → Int → List V → Int → Bool → List UInt8 → List UInt8 → Bool → List V → List V → List V → List UInt8 → List UInt8 → List V → Bool → List V → List V → List V → List V → List V → Int → Int → Int → Int → List V → List V → Bool → List V → List V → Int → Bool → (Bool → Option β) → Option β
def P31 (F96 : T96) (F97 : T97) (F11 : T11) : T31 := fun β a_Net_Servers a_Net_Cache_Entries a_Net_Log a_Net_Now a_Tab_Visits a_Tab_At a_Hidden_Ready a_Hidden_Page_Addr_Host a_Hidden_Page_Addr_Path a_Hidden_Page_Policy_Set a_Hidden_Page_Policy_Scripts a_Hidden_Page_Policy_Styles a_Hidden_Page_Policy_Images a_Hidden_Page_Policy_Nonce a_Hidden_Page_Tok_Rest a_Hidden_Page_Queue a_Hidden_Page_Ended a_Hidden_Page_Builder_Nodes a_Hidden_Page_Builder_Open a_Hidden_Page_Slots a_Hidden_Page_Mods a_Hidden_Page_Entries a_Hidden_Page_Block a_Hidden_Page_Inline a_Hidden_Page_Deferred a_Hidden_Page_Entered a_Hidden_Page_Ran a_Hidden_Page_Log a_Hidden_Page_Loaded a_Hidden_Taken a_Hidden_Servers a_Hidden_Now a_Fast b_Net_Servers b_Net_Cache_Entries b_Net_Log b_Net_Now b_Tab_Visits b_Tab_At b_Hidden_Ready b_Hidden_Page_Addr_Host b_Hidden_Page_Addr_Path b_Hidden_Page_Policy_Set b_Hidden_Page_Policy_Scripts b_Hidden_Page_Policy_Styles b_Hidden_Page_Policy_Images b_Hidden_Page_Policy_Nonce b_Hidden_Page_Tok_Rest b_Hidden_Page_Queue b_Hidden_Page_Ended b_Hidden_Page_Builder_Nodes b_Hidden_Page_Builder_Open b_Hidden_Page_Slots b_Hidden_Page_Mods b_Hidden_Page_Entries b_Hidden_Page_Block b_Hidden_Page_Inline b_Hidden_Page_Deferred b_Hidden_Page_Entered b_Hidden_Page_Ran b_Hidden_Page_Log b_Hidden_Page_Loaded b_Hidden_Taken b_Hidden_Servers b_Hidden_Now b_Fast k =>
 F96 _ a_Net_Servers a_Net_Cache_Entries a_Net_Log a_Net_Now b_Net_Servers b_Net_Cache_Entries b_Net_Log b_Net_Now fun b1 =>
 br b1 (
 F97 _ a_Tab_Visits a_Tab_At b_Tab_Visits b_Tab_At fun b2 =>
 br b2 (
 F11 _ a_Hidden_Ready a_Hidden_Page_Addr_Host a_Hidden_Page_Addr_Path a_Hidden_Page_Policy_Set a_Hidden_Page_Policy_Scripts a_Hidden_Page_Policy_Styles a_Hidden_Page_Policy_Images a_Hidden_Page_Policy_Nonce a_Hidden_Page_Tok_Rest a_Hidden_Page_Queue a_Hidden_Page_Ended a_Hidden_Page_Builder_Nodes a_Hidden_Page_Builder_Open a_Hidden_Page_Slots a_Hidden_Page_Mods a_Hidden_Page_Entries a_Hidden_Page_Block a_Hidden_Page_Inline a_Hidden_Page_Deferred a_Hidden_Page_Entered a_Hidden_Page_Ran a_Hidden_Page_Log a_Hidden_Page_Loaded a_Hidden_Taken a_Hidden_Servers a_Hidden_Now b_Hidden_Ready b_Hidden_Page_Addr_Host b_Hidden_Page_Addr_Path b_Hidden_Page_Policy_Set b_Hidden_Page_Policy_Scripts b_Hidden_Page_Policy_Styles b_Hidden_Page_Policy_Images b_Hidden_Page_Policy_Nonce b_Hidden_Page_Tok_Rest b_Hidden_Page_Queue b_Hidden_Page_Ended b_Hidden_Page_Builder_Nodes b_Hidden_Page_Builder_Open b_Hidden_Page_Slots b_Hidden_Page_Mods b_Hidden_Page_Entries b_Hidden_Page_Block b_Hidden_Page_Inline b_Hidden_Page_Deferred b_Hidden_Page_Entered b_Hidden_Page_Ran b_Hidden_Page_Log b_Hidden_Page_Loaded b_Hidden_Taken b_Hidden_Servers b_Hidden_Now fun b3 =>
 br b3 (
 k (a_Fast == b_Fast)) (
 k false)) (
 k false)) (
 k false)
def F31 : T31 := P31 F96 F97 F11 
abbrev s31 : List (Bool × List CK) := [(true, [.sl 2 false, .sl 10 true, .sl 4 true, .int .i64, .sl 25 false, .int .i64, .bool, .str, .str, .bool, .sl 1 true, .sl 1 true, .sl 1 true, .str, .str, .sl 4 false, .bool, .sl 4 false, .sl 1 true, .sl 8 true, .sl 5 true, .sl 2 true, .int .i64, .int .i64, .int .i64, .int .i64, .sl 2 true, .sl 1 true, .bool, .sl 8 true, .sl 2 false, .int .i64, .bool]), (true, [.sl 2 false, .sl 10 true, .sl 4 true, .int .i64, .sl 25 false, .int .i64, .bool, .str, .str, .bool, .sl 1 true, .sl 1 true, .sl 1 true, .str, .str, .sl 4 false, .bool, .sl 4 false, .sl 1 true, .sl 8 true, .sl 5 true, .sl 2 true, .int .i64, .int .i64, .int .i64, .int .i64, .sl 2 true, .sl 1 true, .bool, .sl 8 true, .sl 2 false, .int .i64, .bool])]
def G31 (F : T31) (β : Type) (e : (List V × List V × List V × Int × List V × Int × Bool × List UInt8 × List UInt8 × Bool × List V × List V × List V × List UInt8 × List UInt8 × List V × Bool × List V × List V × List V × List V × List V × Int × Int × Int × Int × List V × List V × Bool × List V × List V × Int × Bool × Unit) × (List V × List V × List V × Int × List V × Int × Bool × List UInt8 × List UInt8 × Bool × List V × List V × List V × List UInt8 × List UInt8 × List V × Bool × List V × List V × List V × List V × List V × Int × Int × Int × Int × List V × List V × Bool × List V × List V × Int × Bool × Unit) × Unit) (k : V → Option β) : Option β := let a0_0 := e.1; let a0_1 := a0_0.2; let a0_2 := a0_1.2; let a0_3 := a0_2.2; let a0_4 := a0_3.2; let a0_5 := a0_4.2; let a0_6 := a0_5.2; let a0_7 := a0_6.2; let a0_8 := a0_7.2; let a0_9 := a0_8.2; let a0_10 := a0_9.2; let a0_11 := a0_10.2; let a0_12 := a0_11.2; let a0_13 := a0_12.2; let a0_14 := a0_13.2; let a0_15 := a0_14.2; let a0_16 := a0_15.2; let a0_17 := a0_16.2; let a0_18 := a0_17.2; let a0_19 := a0_18.2; let a0_20 := a0_19.2; let a0_21 := a0_20.2; let a0_22 := a0_21.2; let a0_23 := a0_22.2; let a0_24 := a0_23.2; let a0_25 := a0_24.2; let a0_26 := a0_25.2; let a0_27 := a0_26.2; let a0_28 := a0_27.2; let a0_29 := a0_28.2; let a0_30 := a0_29.2; let a0_31 := a0_30.2; let a0_32 := a0_31.2; let a1_0 := e.2.1; let a1_1 := a1_0.2; let a1_2 := a1_1.2; let a1_3 := a1_2.2; let a1_4 := a1_3.2; let a1_5 := a1_4.2; let a1_6 := a1_5.2; let a1_7 := a1_6.2; let a1_8 := a1_7.2; let a1_9 := a1_8.2; let a1_10 := a1_9.2; let a1_11 := a1_10.2; let a1_12 := a1_11.2; let a1_13 := a1_12.2; let a1_14 := a1_13.2; let a1_15 := a1_14.2; let a1_16 := a1_15.2; let a1_17 := a1_16.2; let a1_18 := a1_17.2; let a1_19 := a1_18.2; let a1_20 := a1_19.2; let a1_21 := a1_20.2; let a1_22 := a1_21.2; let a1_23 := a1_22.2; let a1_24 := a1_23.2; let a1_25 := a1_24.2; let a1_26 := a1_25.2; let a1_27 := a1_26.2; let a1_28 := a1_27.2; let a1_29 := a1_28.2; let a1_30 := a1_29.2; let a1_31 := a1_30.2; let a1_32 := a1_31.2; F β a0_0.1 a0_1.1 a0_2.1 a0_3.1 a0_4.1 a0_5.1 a0_6.1 a0_7.1 a0_8.1 a0_9.1 a0_10.1 a0_11.1 a0_12.1 a0_13.1 a0_14.1 a0_15.1 a0_16.1 a0_17.1 a0_18.1 a0_19.1 a0_20.1 a0_21.1 a0_22.1 a0_23.1 a0_24.1 a0_25.1 a0_26.1 a0_27.1 a0_28.1 a0_29.1 a0_30.1 a0_31.1 a0_32.1 a1_0.1 a1_1.1 a1_2.1 a1_3.1 a1_4.1 a1_5.1 a1_6.1 a1_7.1 a1_8.1 a1_9.1 a1_10.1 a1_11.1 a1_12.1 a1_13.1 a1_14.1 a1_15.1 a1_16.1 a1_17.1 a1_18.1 a1_19.1 a1_20.1 a1_21.1 a1_22.1 a1_23.1 a1_24.1 a1_25.1 a1_26.1 a1_27.1 a1_28.1 a1_29.1 a1_30.1 a1_31.1 a1_32.1 (fun y1 => k (.bool y1))
abbrev W31 (F : T31) : WT := wrap s31 (G31 F)
theorem k31 (F96 : T96) (F97 : T97) (F11 : T11) (β : Type) (e : argsT s31) (k : V → Option β) : fnK cfg (tabL [(96, W96 F96), (97, W97 F97), (11, W11 F11)]) noX 31 Tryz.f31 β (argsEnc s31 e) k = G31 (P31 F96 F97 F11 ) β e k := by kernel_rfl
theorem ok31 : FnOk D 31 (W31 F31) := fn_okW [(96, W96 F96), (97, W97 F97), (11, W11 F11)] noX (fun _ => rfl) Tryz.func31 rfl (tabL_cons ok96 (tabL_cons ok97 (tabL_cons ok11 tabL_nil))) (k31 F96 F97 F11 )

/-- laws.eqResponse -/
abbrev T172 : Type 1 := (β : Type) → Int → Int → List UInt8 → Int → Bool → List UInt8 → Int → Int → List UInt8 → Int → Bool → List UInt8 → (Bool → Option β) → Option β
def P172 : T172 := fun β a_Status a_Kind a_Body a_Age a_Shares a_Policy b_Status b_Kind b_Body b_Age b_Shares b_Policy k =>
 br (a_Status != b_Status) (
 k false) (
 br (a_Kind != b_Kind) (
 k false) (
 br (!(a_Body == b_Body)) (
 k false) (
 br (a_Age != b_Age) (
 k false) (
 br (!(a_Shares == b_Shares)) (
 k false) (
 br (!(a_Policy == b_Policy)) (
 k false) (
 k true))))))
def F172 : T172 := P172 
abbrev s172 : List (Bool × List CK) := [(true, [.int .i64, .int .i64, .str, .int .i64, .bool, .str]), (true, [.int .i64, .int .i64, .str, .int .i64, .bool, .str])]
def G172 (F : T172) (β : Type) (e : (Int × Int × List UInt8 × Int × Bool × List UInt8 × Unit) × (Int × Int × List UInt8 × Int × Bool × List UInt8 × Unit) × Unit) (k : V → Option β) : Option β := let a0_0 := e.1; let a0_1 := a0_0.2; let a0_2 := a0_1.2; let a0_3 := a0_2.2; let a0_4 := a0_3.2; let a0_5 := a0_4.2; let a1_0 := e.2.1; let a1_1 := a1_0.2; let a1_2 := a1_1.2; let a1_3 := a1_2.2; let a1_4 := a1_3.2; let a1_5 := a1_4.2; F β a0_0.1 a0_1.1 a0_2.1 a0_3.1 a0_4.1 a0_5.1 a1_0.1 a1_1.1 a1_2.1 a1_3.1 a1_4.1 a1_5.1 (fun y1 => k (.bool y1))
abbrev W172 (F : T172) : WT := wrap s172 (G172 F)
theorem k172 (β : Type) (e : argsT s172) (k : V → Option β) : fnK cfg (tabL []) noX 172 Tryz.f172 β (argsEnc s172 e) k = G172 (P172 ) β e k := by kernel_rfl
theorem ok172 : FnOk D 172 (W172 F172) := fn_okW [] noX (fun _ => rfl) Tryz.func172 rfl (tabL_nil) (k172 )

/-- laws.eqFile -/
abbrev T191 : Type 1 := (β : Type) → List UInt8 → Int → Int → List UInt8 → Int → Bool → List UInt8 → List UInt8 → Int → Int → List UInt8 → Int → Bool → List UInt8 → (Bool → Option β) → Option β
def P191 (F172 : T172) : T191 := fun β a_Path a_Response_Status a_Response_Kind a_Response_Body a_Response_Age a_Response_Shares a_Response_Policy b_Path b_Response_Status b_Response_Kind b_Response_Body b_Response_Age b_Response_Shares b_Response_Policy k =>
 br (!(a_Path == b_Path)) (
 k false) (
 F172 _ a_Response_Status a_Response_Kind a_Response_Body a_Response_Age a_Response_Shares a_Response_Policy b_Response_Status b_Response_Kind b_Response_Body b_Response_Age b_Response_Shares b_Response_Policy fun b1 =>
 br (!b1) (
 k false) (
 k true))
def F191 : T191 := P191 F172 
abbrev s191 : List (Bool × List CK) := [(true, [.str, .int .i64, .int .i64, .str, .int .i64, .bool, .str]), (true, [.str, .int .i64, .int .i64, .str, .int .i64, .bool, .str])]
def G191 (F : T191) (β : Type) (e : (List UInt8 × Int × Int × List UInt8 × Int × Bool × List UInt8 × Unit) × (List UInt8 × Int × Int × List UInt8 × Int × Bool × List UInt8 × Unit) × Unit) (k : V → Option β) : Option β := let a0_0 := e.1; let a0_1 := a0_0.2; let a0_2 := a0_1.2; let a0_3 := a0_2.2; let a0_4 := a0_3.2; let a0_5 := a0_4.2; let a0_6 := a0_5.2; let a1_0 := e.2.1; let a1_1 := a1_0.2; let a1_2 := a1_1.2; let a1_3 := a1_2.2; let a1_4 := a1_3.2; let a1_5 := a1_4.2; let a1_6 := a1_5.2; F β a0_0.1 a0_1.1 a0_2.1 a0_3.1 a0_4.1 a0_5.1 a0_6.1 a1_0.1 a1_1.1 a1_2.1 a1_3.1 a1_4.1 a1_5.1 a1_6.1 (fun y1 => k (.bool y1))
abbrev W191 (F : T191) : WT := wrap s191 (G191 F)
theorem k191 (F172 : T172) (β : Type) (e : argsT s191) (k : V → Option β) : fnK cfg (tabL [(172, W172 F172)]) noX 191 Tryz.f191 β (argsEnc s191 e) k = G191 (P191 F172 ) β e k := by kernel_rfl
theorem ok191 : FnOk D 191 (W191 F191) := fn_okW [(172, W172 F172)] noX (fun _ => rfl) Tryz.func191 rfl (tabL_cons ok172 tabL_nil) (k191 F172 )

/-- laws.eqFileS -/
abbrev T173 : Type 1 := (β : Type) → List V → List V → (Bool → Option β) → Option β
def P173 (F191 : T191) : T173 := fun β a b k =>
 br ((a.length : Int) != (b.length : Int)) (
 k false) (
 whileK (fun s1 =>
 br (decide ((lI s1 2) < ((lL s1 0).length : Int))) (
 chk (0 ≤ (lI s1 2)) <|
 idx true [.str, .int .i64, .int .i64, .str, .int .i64, .bool, .str] (lL s1 0) ((lI s1 2).toNat) fun (e2 : List UInt8 × Int × Int × List UInt8 × Int × Bool × List UInt8 × Unit) =>
 chk (0 ≤ (lI s1 2)) <|
 idx true [.str, .int .i64, .int .i64, .str, .int .i64, .bool, .str] (lL s1 1) ((lI s1 2).toNat) fun (e3 : List UInt8 × Int × Int × List UInt8 × Int × Bool × List UInt8 × Unit) =>
 F191 _ e2.1 e2.2.1 e2.2.2.1 e2.2.2.2.1 e2.2.2.2.2.1 e2.2.2.2.2.2.1 e2.2.2.2.2.2.2.1 e3.1 e3.2.1 e3.2.2.1 e3.2.2.2.1 e3.2.2.2.2.1 e3.2.2.2.2.2.1 e3.2.2.2.2.2.2.1 fun b4 =>
 br (!b4) (
 some (.inr (0, [.b false]))) (
 some (.inl [.l (lL s1 0), .l (lL s1 1), .i (IntKind.wrap .i64 ((lI s1 2) + 1))]))) (
 some (.inr (1, [])))) [.l a, .l b, .i 0] fun (r5 : Nat × List Leaf) =>
 if r5.1 = 0 then
 k (lB r5.2 0)
 else
 k true)
def F173 : T173 := P173 F191 
def X173 : Exits := fun i => lookN i [] [(4, [(.ret, xk 27 [(4, .bool false)] []), (.exit 0, xk 27 [] [])])]
abbrev s173 : List (Bool × List CK) := [(false, [.sl 7 true]), (false, [.sl 7 true])]
def G173 (F : T173) (β : Type) (e : (List V × Unit) × (List V × Unit) × Unit) (k : V → Option β) : Option β := F β e.1.1 e.2.1.1 (fun y1 => k (.bool y1))
abbrev W173 (F : T173) : WT := wrap s173 (G173 F)
theorem k173 (F191 : T191) (β : Type) (e : argsT s173) (k : V → Option β) : fnK cfg (tabL [(191, W191 F191)]) X173 173 Tryz.f173 β (argsEnc s173 e) k = G173 (P173 F191 ) β e k := by kernel_rfl
theorem ok173 : FnOk D 173 (W173 F173) := fn_okW [(191, W191 F191)] X173 (fun _ => rfl) Tryz.func173 rfl (tabL_cons ok191 tabL_nil) (k173 F191 )

/-- laws.eqServer -/
abbrev T120 : Type 1 := (β : Type) → List UInt8 → List V → List UInt8 → List V → (Bool → Option β) → Option β
def P120 (F173 : T173) : T120 := fun β a_Host a_Files b_Host b_Files k =>
 br (!(a_Host == b_Host)) (
 k false) (
 F173 _ a_Files b_Files fun b1 =>
 br (!b1) (
 k false) (
 k true))
def F120 : T120 := P120 F173 
abbrev s120 : List (Bool × List CK) := [(true, [.str, .sl 7 true]), (true, [.str, .sl 7 true])]
def G120 (F : T120) (β : Type) (e : (List UInt8 × List V × Unit) × (List UInt8 × List V × Unit) × Unit) (k : V → Option β) : Option β := F β e.1.1 e.1.2.1 e.2.1.1 e.2.1.2.1 (fun y1 => k (.bool y1))
abbrev W120 (F : T120) : WT := wrap s120 (G120 F)
theorem k120 (F173 : T173) (β : Type) (e : argsT s120) (k : V → Option β) : fnK cfg (tabL [(173, W173 F173)]) noX 120 Tryz.f120 β (argsEnc s120 e) k = G120 (P120 F173 ) β e k := by kernel_rfl
theorem ok120 : FnOk D 120 (W120 F120) := fn_okW [(173, W173 F173)] noX (fun _ => rfl) Tryz.func120 rfl (tabL_cons ok173 tabL_nil) (k120 F173 )

/-- laws.eqServerS -/
abbrev T43 : Type 1 := (β : Type) → List V → List V → (Bool → Option β) → Option β
def P43 (F120 : T120) : T43 := fun β a b k =>
 br ((a.length : Int) != (b.length : Int)) (
 k false) (
 whileK (fun s1 =>
 br (decide ((lI s1 2) < ((lL s1 0).length : Int))) (
 chk (0 ≤ (lI s1 2)) <|
 idx true [.str, .sl 7 true] (lL s1 0) ((lI s1 2).toNat) fun (e2 : List UInt8 × List V × Unit) =>
 chk (0 ≤ (lI s1 2)) <|
 idx true [.str, .sl 7 true] (lL s1 1) ((lI s1 2).toNat) fun (e3 : List UInt8 × List V × Unit) =>
 F120 _ e2.1 e2.2.1 e3.1 e3.2.1 fun b4 =>
 br (!b4) (
 some (.inr (0, [.b false]))) (
 some (.inl [.l (lL s1 0), .l (lL s1 1), .i (IntKind.wrap .i64 ((lI s1 2) + 1))]))) (
 some (.inr (1, [])))) [.l a, .l b, .i 0] fun (r5 : Nat × List Leaf) =>
 if r5.1 = 0 then
 k (lB r5.2 0)
 else
 k true)
def F43 : T43 := P43 F120 
def X43 : Exits := fun i => lookN i [] [(4, [(.ret, xk 27 [(4, .bool false)] []), (.exit 0, xk 27 [] [])])]
abbrev s43 : List (Bool × List CK) := [(false, [.sl 2 false]), (false, [.sl 2 false])]
def G43 (F : T43) (β : Type) (e : (List V × Unit) × (List V × Unit) × Unit) (k : V → Option β) : Option β := F β e.1.1 e.2.1.1 (fun y1 => k (.bool y1))
abbrev W43 (F : T43) : WT := wrap s43 (G43 F)
theorem k43 (F120 : T120) (β : Type) (e : argsT s43) (k : V → Option β) : fnK cfg (tabL [(120, W120 F120)]) X43 43 Tryz.f43 β (argsEnc s43 e) k = G43 (P43 F120 ) β e k := by kernel_rfl
theorem ok43 : FnOk D 43 (W43 F43) := fn_okW [(120, W120 F120)] X43 (fun _ => rfl) Tryz.func43 rfl (tabL_cons ok120 tabL_nil) (k43 F120 )

/-- laws.eqAddr -/
abbrev T80 : Type 1 := (β : Type) → List UInt8 → List UInt8 → List UInt8 → List UInt8 → (Bool → Option β) → Option β
def P80 : T80 := fun β a_Host a_Path b_Host b_Path k =>
 br (!(a_Host == b_Host)) (
 k false) (
 br (!(a_Path == b_Path)) (
 k false) (
 k true))
def F80 : T80 := P80 
abbrev s80 : List (Bool × List CK) := [(true, [.str, .str]), (true, [.str, .str])]
def G80 (F : T80) (β : Type) (e : (List UInt8 × List UInt8 × Unit) × (List UInt8 × List UInt8 × Unit) × Unit) (k : V → Option β) : Option β := F β e.1.1 e.1.2.1 e.2.1.1 e.2.1.2.1 (fun y1 => k (.bool y1))
abbrev W80 (F : T80) : WT := wrap s80 (G80 F)
theorem k80 (β : Type) (e : argsT s80) (k : V → Option β) : fnK cfg (tabL []) noX 80 Tryz.f80 β (argsEnc s80 e) k = G80 (P80 ) β e k := by kernel_rfl
theorem ok80 : FnOk D 80 (W80 F80) := fn_okW [] noX (fun _ => rfl) Tryz.func80 rfl (tabL_nil) (k80 )

/-- laws.eqEntry -/
abbrev T176 : Type 1 := (β : Type) → List UInt8 → List UInt8 → List UInt8 → Int → Int → List UInt8 → Int → Bool → List UInt8 → Int → List UInt8 → List UInt8 → List UInt8 → Int → Int → List UInt8 → Int → Bool → List UInt8 → Int → (Bool → Option β) → Option β
def P176 (F80 : T80) (F172 : T172) : T176 := fun β a_Top a_To_Host a_To_Path a_Response_Status a_Response_Kind a_Response_Body a_Response_Age a_Response_Shares a_Response_Policy a_Until b_Top b_To_Host b_To_Path b_Response_Status b_Response_Kind b_Response_Body b_Response_Age b_Response_Shares b_Response_Policy b_Until k =>
 br (!(a_Top == b_Top)) (
 k false) (
 F80 _ a_To_Host a_To_Path b_To_Host b_To_Path fun b1 =>
 br (!b1) (
 k false) (
 F172 _ a_Response_Status a_Response_Kind a_Response_Body a_Response_Age a_Response_Shares a_Response_Policy b_Response_Status b_Response_Kind b_Response_Body b_Response_Age b_Response_Shares b_Response_Policy fun b2 =>
 br (!b2) (
 k false) (
 br (a_Until != b_Until) (
 k false) (
 k true))))
def F176 : T176 := P176 F80 F172 
abbrev s176 : List (Bool × List CK) := [(true, [.str, .str, .str, .int .i64, .int .i64, .str, .int .i64, .bool, .str, .int .i64]), (true, [.str, .str, .str, .int .i64, .int .i64, .str, .int .i64, .bool, .str, .int .i64])]
def G176 (F : T176) (β : Type) (e : (List UInt8 × List UInt8 × List UInt8 × Int × Int × List UInt8 × Int × Bool × List UInt8 × Int × Unit) × (List UInt8 × List UInt8 × List UInt8 × Int × Int × List UInt8 × Int × Bool × List UInt8 × Int × Unit) × Unit) (k : V → Option β) : Option β := let a0_0 := e.1; let a0_1 := a0_0.2; let a0_2 := a0_1.2; let a0_3 := a0_2.2; let a0_4 := a0_3.2; let a0_5 := a0_4.2; let a0_6 := a0_5.2; let a0_7 := a0_6.2; let a0_8 := a0_7.2; let a0_9 := a0_8.2; let a1_0 := e.2.1; let a1_1 := a1_0.2; let a1_2 := a1_1.2; let a1_3 := a1_2.2; let a1_4 := a1_3.2; let a1_5 := a1_4.2; let a1_6 := a1_5.2; let a1_7 := a1_6.2; let a1_8 := a1_7.2; let a1_9 := a1_8.2; F β a0_0.1 a0_1.1 a0_2.1 a0_3.1 a0_4.1 a0_5.1 a0_6.1 a0_7.1 a0_8.1 a0_9.1 a1_0.1 a1_1.1 a1_2.1 a1_3.1 a1_4.1 a1_5.1 a1_6.1 a1_7.1 a1_8.1 a1_9.1 (fun y1 => k (.bool y1))
abbrev W176 (F : T176) : WT := wrap s176 (G176 F)
theorem k176 (F80 : T80) (F172 : T172) (β : Type) (e : argsT s176) (k : V → Option β) : fnK cfg (tabL [(80, W80 F80), (172, W172 F172)]) noX 176 Tryz.f176 β (argsEnc s176 e) k = G176 (P176 F80 F172 ) β e k := by kernel_rfl
theorem ok176 : FnOk D 176 (W176 F176) := fn_okW [(80, W80 F80), (172, W172 F172)] noX (fun _ => rfl) Tryz.func176 rfl (tabL_cons ok80 (tabL_cons ok172 tabL_nil)) (k176 F80 F172 )

/-- laws.eqEntryS -/
abbrev T125 : Type 1 := (β : Type) → List V → List V → (Bool → Option β) → Option β
def P125 (F176 : T176) : T125 := fun β a b k =>
 br ((a.length : Int) != (b.length : Int)) (
 k false) (
 whileK (fun s1 =>
 br (decide ((lI s1 2) < ((lL s1 0).length : Int))) (
 chk (0 ≤ (lI s1 2)) <|
 idx true [.str, .str, .str, .int .i64, .int .i64, .str, .int .i64, .bool, .str, .int .i64] (lL s1 0) ((lI s1 2).toNat) fun (e2 : List UInt8 × List UInt8 × List UInt8 × Int × Int × List UInt8 × Int × Bool × List UInt8 × Int × Unit) =>
 chk (0 ≤ (lI s1 2)) <|
 idx true [.str, .str, .str, .int .i64, .int .i64, .str, .int .i64, .bool, .str, .int .i64] (lL s1 1) ((lI s1 2).toNat) fun (e3 : List UInt8 × List UInt8 × List UInt8 × Int × Int × List UInt8 × Int × Bool × List UInt8 × Int × Unit) =>
 F176 _ e2.1 e2.2.1 e2.2.2.1 e2.2.2.2.1 e2.2.2.2.2.1 e2.2.2.2.2.2.1 e2.2.2.2.2.2.2.1 e2.2.2.2.2.2.2.2.1 e2.2.2.2.2.2.2.2.2.1 e2.2.2.2.2.2.2.2.2.2.1 e3.1 e3.2.1 e3.2.2.1 e3.2.2.2.1 e3.2.2.2.2.1 e3.2.2.2.2.2.1 e3.2.2.2.2.2.2.1 e3.2.2.2.2.2.2.2.1 e3.2.2.2.2.2.2.2.2.1 e3.2.2.2.2.2.2.2.2.2.1 fun b4 =>
 br (!b4) (
 some (.inr (0, [.b false]))) (
 some (.inl [.l (lL s1 0), .l (lL s1 1), .i (IntKind.wrap .i64 ((lI s1 2) + 1))]))) (
 some (.inr (1, [])))) [.l a, .l b, .i 0] fun (r5 : Nat × List Leaf) =>
 if r5.1 = 0 then
 k (lB r5.2 0)
 else
 k true)
def F125 : T125 := P125 F176 
def X125 : Exits := fun i => lookN i [] [(4, [(.ret, xk 27 [(4, .bool false)] []), (.exit 0, xk 27 [] [])])]
abbrev s125 : List (Bool × List CK) := [(false, [.sl 10 true]), (false, [.sl 10 true])]
def G125 (F : T125) (β : Type) (e : (List V × Unit) × (List V × Unit) × Unit) (k : V → Option β) : Option β := F β e.1.1 e.2.1.1 (fun y1 => k (.bool y1))
abbrev W125 (F : T125) : WT := wrap s125 (G125 F)
theorem k125 (F176 : T176) (β : Type) (e : argsT s125) (k : V → Option β) : fnK cfg (tabL [(176, W176 F176)]) X125 125 Tryz.f125 β (argsEnc s125 e) k = G125 (P125 F176 ) β e k := by kernel_rfl
theorem ok125 : FnOk D 125 (W125 F125) := fn_okW [(176, W176 F176)] X125 (fun _ => rfl) Tryz.func125 rfl (tabL_cons ok176 tabL_nil) (k125 F176 )

/-- laws.eqCache -/
abbrev T48 : Type 1 := (β : Type) → List V → List V → (Bool → Option β) → Option β
def P48 (F125 : T125) : T48 := fun β a_Entries b_Entries k =>
 F125 _ a_Entries b_Entries fun b1 =>
 br (!b1) (
 k false) (
 k true)
def F48 : T48 := P48 F125 
abbrev s48 : List (Bool × List CK) := [(true, [.sl 10 true]), (true, [.sl 10 true])]
def G48 (F : T48) (β : Type) (e : (List V × Unit) × (List V × Unit) × Unit) (k : V → Option β) : Option β := F β e.1.1 e.2.1.1 (fun y1 => k (.bool y1))
abbrev W48 (F : T48) : WT := wrap s48 (G48 F)
theorem k48 (F125 : T125) (β : Type) (e : argsT s48) (k : V → Option β) : fnK cfg (tabL [(125, W125 F125)]) noX 48 Tryz.f48 β (argsEnc s48 e) k = G48 (P48 F125 ) β e k := by kernel_rfl
theorem ok48 : FnOk D 48 (W48 F48) := fn_okW [(125, W125 F125)] noX (fun _ => rfl) Tryz.func48 rfl (tabL_cons ok125 tabL_nil) (k48 F125 )

/-- laws.eqSent -/
abbrev T126 : Type 1 := (β : Type) → List UInt8 → List UInt8 → List UInt8 → Bool → List UInt8 → List UInt8 → List UInt8 → Bool → (Bool → Option β) → Option β
def P126 (F80 : T80) : T126 := fun β a_Top a_To_Host a_To_Path a_Guess b_Top b_To_Host b_To_Path b_Guess k =>
 br (!(a_Top == b_Top)) (
 k false) (
 F80 _ a_To_Host a_To_Path b_To_Host b_To_Path fun b1 =>
 br (!b1) (
 k false) (
 br (!(a_Guess == b_Guess)) (
 k false) (
 k true)))
def F126 : T126 := P126 F80 
abbrev s126 : List (Bool × List CK) := [(true, [.str, .str, .str, .bool]), (true, [.str, .str, .str, .bool])]
def G126 (F : T126) (β : Type) (e : (List UInt8 × List UInt8 × List UInt8 × Bool × Unit) × (List UInt8 × List UInt8 × List UInt8 × Bool × Unit) × Unit) (k : V → Option β) : Option β := F β e.1.1 e.1.2.1 e.1.2.2.1 e.1.2.2.2.1 e.2.1.1 e.2.1.2.1 e.2.1.2.2.1 e.2.1.2.2.2.1 (fun y1 => k (.bool y1))
abbrev W126 (F : T126) : WT := wrap s126 (G126 F)
theorem k126 (F80 : T80) (β : Type) (e : argsT s126) (k : V → Option β) : fnK cfg (tabL [(80, W80 F80)]) noX 126 Tryz.f126 β (argsEnc s126 e) k = G126 (P126 F80 ) β e k := by kernel_rfl
theorem ok126 : FnOk D 126 (W126 F126) := fn_okW [(80, W80 F80)] noX (fun _ => rfl) Tryz.func126 rfl (tabL_cons ok80 tabL_nil) (k126 F80 )

/-- laws.eqSentS -/
abbrev T49 : Type 1 := (β : Type) → List V → List V → (Bool → Option β) → Option β
def P49 (F126 : T126) : T49 := fun β a b k =>
 br ((a.length : Int) != (b.length : Int)) (
 k false) (
 whileK (fun s1 =>
 br (decide ((lI s1 2) < ((lL s1 0).length : Int))) (
 chk (0 ≤ (lI s1 2)) <|
 idx true [.str, .str, .str, .bool] (lL s1 0) ((lI s1 2).toNat) fun (e2 : List UInt8 × List UInt8 × List UInt8 × Bool × Unit) =>
 chk (0 ≤ (lI s1 2)) <|
 idx true [.str, .str, .str, .bool] (lL s1 1) ((lI s1 2).toNat) fun (e3 : List UInt8 × List UInt8 × List UInt8 × Bool × Unit) =>
 F126 _ e2.1 e2.2.1 e2.2.2.1 e2.2.2.2.1 e3.1 e3.2.1 e3.2.2.1 e3.2.2.2.1 fun b4 =>
 br (!b4) (
 some (.inr (0, [.b false]))) (
 some (.inl [.l (lL s1 0), .l (lL s1 1), .i (IntKind.wrap .i64 ((lI s1 2) + 1))]))) (
 some (.inr (1, [])))) [.l a, .l b, .i 0] fun (r5 : Nat × List Leaf) =>
 if r5.1 = 0 then
 k (lB r5.2 0)
 else
 k true)
def F49 : T49 := P49 F126 
def X49 : Exits := fun i => lookN i [] [(4, [(.ret, xk 27 [(4, .bool false)] []), (.exit 0, xk 27 [] [])])]
abbrev s49 : List (Bool × List CK) := [(false, [.sl 4 true]), (false, [.sl 4 true])]
def G49 (F : T49) (β : Type) (e : (List V × Unit) × (List V × Unit) × Unit) (k : V → Option β) : Option β := F β e.1.1 e.2.1.1 (fun y1 => k (.bool y1))
abbrev W49 (F : T49) : WT := wrap s49 (G49 F)
theorem k49 (F126 : T126) (β : Type) (e : argsT s49) (k : V → Option β) : fnK cfg (tabL [(126, W126 F126)]) X49 49 Tryz.f49 β (argsEnc s49 e) k = G49 (P49 F126 ) β e k := by kernel_rfl
theorem ok49 : FnOk D 49 (W49 F49) := fn_okW [(126, W126 F126)] X49 (fun _ => rfl) Tryz.func49 rfl (tabL_cons ok126 tabL_nil) (k49 F126 )

/-- laws.eqNet -/
abbrev T17 : Type 1 := (β : Type) → List V → List V → List V → Int → List V → List V → List V → Int → (Bool → Option β) → Option β
def P17 (F43 : T43) (F48 : T48) (F49 : T49) : T17 := fun β a_Servers a_Cache_Entries a_Log a_Now b_Servers b_Cache_Entries b_Log b_Now k =>
 F43 _ a_Servers b_Servers fun b1 =>
 br (!b1) (
 k false) (
 F48 _ a_Cache_Entries b_Cache_Entries fun b2 =>
 br (!b2) (
 k false) (
 F49 _ a_Log b_Log fun b3 =>
 br (!b3) (
 k false) (
 br (a_Now != b_Now) (
 k false) (
 k true))))
def F17 : T17 := P17 F43 F48 F49 
abbrev s17 : List (Bool × List CK) := [(true, [.sl 2 false, .sl 10 true, .sl 4 true, .int .i64]), (true, [.sl 2 false, .sl 10 true, .sl 4 true, .int .i64])]
def G17 (F : T17) (β : Type) (e : (List V × List V × List V × Int × Unit) × (List V × List V × List V × Int × Unit) × Unit) (k : V → Option β) : Option β := F β e.1.1 e.1.2.1 e.1.2.2.1 e.1.2.2.2.1 e.2.1.1 e.2.1.2.1 e.2.1.2.2.1 e.2.1.2.2.2.1 (fun y1 => k (.bool y1))
abbrev W17 (F : T17) : WT := wrap s17 (G17 F)
theorem k17 (F43 : T43) (F48 : T48) (F49 : T49) (β : Type) (e : argsT s17) (k : V → Option β) : fnK cfg (tabL [(43, W43 F43), (48, W48 F48), (49, W49 F49)]) noX 17 Tryz.f17 β (argsEnc s17 e) k = G17 (P17 F43 F48 F49 ) β e k := by kernel_rfl
theorem ok17 : FnOk D 17 (W17 F17) := fn_okW [(43, W43 F43), (48, W48 F48), (49, W49 F49)] noX (fun _ => rfl) Tryz.func17 rfl (tabL_cons ok43 (tabL_cons ok48 (tabL_cons ok49 tabL_nil))) (k17 F43 F48 F49 )

/-- laws.eqStringS -/
abbrev T88 : Type 1 := (β : Type) → List V → List V → (Bool → Option β) → Option β
def P88 : T88 := fun β a b k =>
 br ((a.length : Int) != (b.length : Int)) (
 k false) (
 whileK (fun s1 =>
 br (decide ((lI s1 2) < ((lL s1 0).length : Int))) (
 chk (0 ≤ (lI s1 2)) <|
 idx false [.str] (lL s1 0) ((lI s1 2).toNat) fun (e2 : List UInt8 × Unit) =>
 chk (0 ≤ (lI s1 2)) <|
 idx false [.str] (lL s1 1) ((lI s1 2).toNat) fun (e3 : List UInt8 × Unit) =>
 br (!(e2.1 == e3.1)) (
 some (.inr (0, [.b false]))) (
 some (.inl [.l (lL s1 0), .l (lL s1 1), .i (IntKind.wrap .i64 ((lI s1 2) + 1))]))) (
 some (.inr (1, [])))) [.l a, .l b, .i 0] fun (r4 : Nat × List Leaf) =>
 if r4.1 = 0 then
 k (lB r4.2 0)
 else
 k true)
def F88 : T88 := P88 
def X88 : Exits := fun i => lookN i [] [(4, [(.ret, xk 26 [(4, .bool false)] []), (.exit 0, xk 26 [] [])])]
abbrev s88 : List (Bool × List CK) := [(false, [.sl 1 true]), (false, [.sl 1 true])]
def G88 (F : T88) (β : Type) (e : (List V × Unit) × (List V × Unit) × Unit) (k : V → Option β) : Option β := F β e.1.1 e.2.1.1 (fun y1 => k (.bool y1))
abbrev W88 (F : T88) : WT := wrap s88 (G88 F)
theorem k88 (β : Type) (e : argsT s88) (k : V → Option β) : fnK cfg (tabL []) X88 88 Tryz.f88 β (argsEnc s88 e) k = G88 (P88 ) β e k := by kernel_rfl
theorem ok88 : FnOk D 88 (W88 F88) := fn_okW [] X88 (fun _ => rfl) Tryz.func88 rfl (tabL_nil) (k88 )

/-- laws.eqPolicy -/
abbrev T81 : Type 1 := (β : Type) → Bool → List V → List V → List V → List UInt8 → Bool → List V → List V → List V → List UInt8 → (Bool → Option β) → Option β
def P81 (F88 : T88) : T81 := fun β a_Set a_Scripts a_Styles a_Images a_Nonce b_Set b_Scripts b_Styles b_Images b_Nonce k =>
 br (!(a_Set == b_Set)) (
 k false) (
 F88 _ a_Scripts b_Scripts fun b1 =>
 br (!b1) (
 k false) (
 F88 _ a_Styles b_Styles fun b2 =>
 br (!b2) (
 k false) (
 F88 _ a_Images b_Images fun b3 =>
 br (!b3) (
 k false) (
 br (!(a_Nonce == b_Nonce)) (
 k false) (
 k true)))))
def F81 : T81 := P81 F88 
abbrev s81 : List (Bool × List CK) := [(true, [.bool, .sl 1 true, .sl 1 true, .sl 1 true, .str]), (true, [.bool, .sl 1 true, .sl 1 true, .sl 1 true, .str])]
def G81 (F : T81) (β : Type) (e : (Bool × List V × List V × List V × List UInt8 × Unit) × (Bool × List V × List V × List V × List UInt8 × Unit) × Unit) (k : V → Option β) : Option β := let a0_0 := e.1; let a0_1 := a0_0.2; let a0_2 := a0_1.2; let a0_3 := a0_2.2; let a0_4 := a0_3.2; let a1_0 := e.2.1; let a1_1 := a1_0.2; let a1_2 := a1_1.2; let a1_3 := a1_2.2; let a1_4 := a1_3.2; F β a0_0.1 a0_1.1 a0_2.1 a0_3.1 a0_4.1 a1_0.1 a1_1.1 a1_2.1 a1_3.1 a1_4.1 (fun y1 => k (.bool y1))
abbrev W81 (F : T81) : WT := wrap s81 (G81 F)
theorem k81 (F88 : T88) (β : Type) (e : argsT s81) (k : V → Option β) : fnK cfg (tabL [(88, W88 F88)]) noX 81 Tryz.f81 β (argsEnc s81 e) k = G81 (P81 F88 ) β e k := by kernel_rfl
theorem ok81 : FnOk D 81 (W81 F81) := fn_okW [(88, W88 F88)] noX (fun _ => rfl) Tryz.func81 rfl (tabL_cons ok88 tabL_nil) (k81 F88 )

/-- laws.eqTokenizer -/
abbrev T82 : Type 1 := (β : Type) → List UInt8 → List UInt8 → (Bool → Option β) → Option β
def P82 : T82 := fun β a_Rest b_Rest k =>
 br (!(a_Rest == b_Rest)) (
 k false) (
 k true)
def F82 : T82 := P82 
abbrev s82 : List (Bool × List CK) := [(true, [.str]), (true, [.str])]
def G82 (F : T82) (β : Type) (e : (List UInt8 × Unit) × (List UInt8 × Unit) × Unit) (k : V → Option β) : Option β := F β e.1.1 e.2.1.1 (fun y1 => k (.bool y1))
abbrev W82 (F : T82) : WT := wrap s82 (G82 F)
theorem k82 (β : Type) (e : argsT s82) (k : V → Option β) : fnK cfg (tabL []) noX 82 Tryz.f82 β (argsEnc s82 e) k = G82 (P82 ) β e k := by kernel_rfl
theorem ok82 : FnOk D 82 (W82 F82) := fn_okW [] noX (fun _ => rfl) Tryz.func82 rfl (tabL_nil) (k82 )

/-- laws.eqAttr -/
abbrev T197 : Type 1 := (β : Type) → List UInt8 → List UInt8 → List UInt8 → List UInt8 → (Bool → Option β) → Option β
def P197 : T197 := fun β a_Name a_Value b_Name b_Value k =>
 br (!(a_Name == b_Name)) (
 k false) (
 br (!(a_Value == b_Value)) (
 k false) (
 k true))
def F197 : T197 := P197 
abbrev s197 : List (Bool × List CK) := [(true, [.str, .str]), (true, [.str, .str])]
def G197 (F : T197) (β : Type) (e : (List UInt8 × List UInt8 × Unit) × (List UInt8 × List UInt8 × Unit) × Unit) (k : V → Option β) : Option β := F β e.1.1 e.1.2.1 e.2.1.1 e.2.1.2.1 (fun y1 => k (.bool y1))
abbrev W197 (F : T197) : WT := wrap s197 (G197 F)
theorem k197 (β : Type) (e : argsT s197) (k : V → Option β) : fnK cfg (tabL []) noX 197 Tryz.f197 β (argsEnc s197 e) k = G197 (P197 ) β e k := by kernel_rfl
theorem ok197 : FnOk D 197 (W197 F197) := fn_okW [] noX (fun _ => rfl) Tryz.func197 rfl (tabL_nil) (k197 )

/-- laws.eqAttrS -/
abbrev T186 : Type 1 := (β : Type) → List V → List V → (Bool → Option β) → Option β
def P186 (F197 : T197) : T186 := fun β a b k =>
 br ((a.length : Int) != (b.length : Int)) (
 k false) (
 whileK (fun s1 =>
 br (decide ((lI s1 2) < ((lL s1 0).length : Int))) (
 chk (0 ≤ (lI s1 2)) <|
 idx true [.str, .str] (lL s1 0) ((lI s1 2).toNat) fun (e2 : List UInt8 × List UInt8 × Unit) =>
 chk (0 ≤ (lI s1 2)) <|
 idx true [.str, .str] (lL s1 1) ((lI s1 2).toNat) fun (e3 : List UInt8 × List UInt8 × Unit) =>
 F197 _ e2.1 e2.2.1 e3.1 e3.2.1 fun b4 =>
 br (!b4) (
 some (.inr (0, [.b false]))) (
 some (.inl [.l (lL s1 0), .l (lL s1 1), .i (IntKind.wrap .i64 ((lI s1 2) + 1))]))) (
 some (.inr (1, [])))) [.l a, .l b, .i 0] fun (r5 : Nat × List Leaf) =>
 if r5.1 = 0 then
 k (lB r5.2 0)
 else
 k true)
def F186 : T186 := P186 F197 
def X186 : Exits := fun i => lookN i [] [(4, [(.ret, xk 27 [(4, .bool false)] []), (.exit 0, xk 27 [] [])])]
abbrev s186 : List (Bool × List CK) := [(false, [.sl 2 true]), (false, [.sl 2 true])]
def G186 (F : T186) (β : Type) (e : (List V × Unit) × (List V × Unit) × Unit) (k : V → Option β) : Option β := F β e.1.1 e.2.1.1 (fun y1 => k (.bool y1))
abbrev W186 (F : T186) : WT := wrap s186 (G186 F)
theorem k186 (F197 : T197) (β : Type) (e : argsT s186) (k : V → Option β) : fnK cfg (tabL [(197, W197 F197)]) X186 186 Tryz.f186 β (argsEnc s186 e) k = G186 (P186 F197 ) β e k := by kernel_rfl
theorem ok186 : FnOk D 186 (W186 F186) := fn_okW [(197, W197 F197)] X186 (fun _ => rfl) Tryz.func186 rfl (tabL_cons ok197 tabL_nil) (k186 F197 )

/-- laws.eqToken -/
abbrev T146 : Type 1 := (β : Type) → Int → List UInt8 → List V → List UInt8 → Int → List UInt8 → List V → List UInt8 → (Bool → Option β) → Option β
def P146 (F186 : T186) : T146 := fun β a_Kind a_Name a_Attrs a_Text b_Kind b_Name b_Attrs b_Text k =>
 br (a_Kind != b_Kind) (
 k false) (
 br (!(a_Name == b_Name)) (
 k false) (
 F186 _ a_Attrs b_Attrs fun b1 =>
 br (!b1) (
 k false) (
 br (!(a_Text == b_Text)) (
 k false) (
 k true))))
def F146 : T146 := P146 F186 
abbrev s146 : List (Bool × List CK) := [(true, [.int .i64, .str, .sl 2 true, .str]), (true, [.int .i64, .str, .sl 2 true, .str])]
def G146 (F : T146) (β : Type) (e : (Int × List UInt8 × List V × List UInt8 × Unit) × (Int × List UInt8 × List V × List UInt8 × Unit) × Unit) (k : V → Option β) : Option β := F β e.1.1 e.1.2.1 e.1.2.2.1 e.1.2.2.2.1 e.2.1.1 e.2.1.2.1 e.2.1.2.2.1 e.2.1.2.2.2.1 (fun y1 => k (.bool y1))
abbrev W146 (F : T146) : WT := wrap s146 (G146 F)
theorem k146 (F186 : T186) (β : Type) (e : argsT s146) (k : V → Option β) : fnK cfg (tabL [(186, W186 F186)]) noX 146 Tryz.f146 β (argsEnc s146 e) k = G146 (P146 F186 ) β e k := by kernel_rfl
theorem ok146 : FnOk D 146 (W146 F146) := fn_okW [(186, W186 F186)] noX (fun _ => rfl) Tryz.func146 rfl (tabL_cons ok186 tabL_nil) (k146 F186 )

/-- laws.eqTokenS -/
abbrev T83 : Type 1 := (β : Type) → List V → List V → (Bool → Option β) → Option β
def P83 (F146 : T146) : T83 := fun β a b k =>
 br ((a.length : Int) != (b.length : Int)) (
 k false) (
 whileK (fun s1 =>
 br (decide ((lI s1 2) < ((lL s1 0).length : Int))) (
 chk (0 ≤ (lI s1 2)) <|
 idx true [.int .i64, .str, .sl 2 true, .str] (lL s1 0) ((lI s1 2).toNat) fun (e2 : Int × List UInt8 × List V × List UInt8 × Unit) =>
 chk (0 ≤ (lI s1 2)) <|
 idx true [.int .i64, .str, .sl 2 true, .str] (lL s1 1) ((lI s1 2).toNat) fun (e3 : Int × List UInt8 × List V × List UInt8 × Unit) =>
 F146 _ e2.1 e2.2.1 e2.2.2.1 e2.2.2.2.1 e3.1 e3.2.1 e3.2.2.1 e3.2.2.2.1 fun b4 =>
 br (!b4) (
 some (.inr (0, [.b false]))) (
 some (.inl [.l (lL s1 0), .l (lL s1 1), .i (IntKind.wrap .i64 ((lI s1 2) + 1))]))) (
 some (.inr (1, [])))) [.l a, .l b, .i 0] fun (r5 : Nat × List Leaf) =>
 if r5.1 = 0 then
 k (lB r5.2 0)
 else
 k true)
def F83 : T83 := P83 F146 
def X83 : Exits := fun i => lookN i [] [(4, [(.ret, xk 27 [(4, .bool false)] []), (.exit 0, xk 27 [] [])])]
abbrev s83 : List (Bool × List CK) := [(false, [.sl 4 false]), (false, [.sl 4 false])]
def G83 (F : T83) (β : Type) (e : (List V × Unit) × (List V × Unit) × Unit) (k : V → Option β) : Option β := F β e.1.1 e.2.1.1 (fun y1 => k (.bool y1))
abbrev W83 (F : T83) : WT := wrap s83 (G83 F)
theorem k83 (F146 : T146) (β : Type) (e : argsT s83) (k : V → Option β) : fnK cfg (tabL [(146, W146 F146)]) X83 83 Tryz.f83 β (argsEnc s83 e) k = G83 (P83 F146 ) β e k := by kernel_rfl
theorem ok83 : FnOk D 83 (W83 F83) := fn_okW [(146, W146 F146)] X83 (fun _ => rfl) Tryz.func83 rfl (tabL_cons ok146 tabL_nil) (k83 F146 )

/-- laws.eqNode -/
abbrev T187 : Type 1 := (β : Type) → List UInt8 → List UInt8 → Int → List V → List UInt8 → List UInt8 → Int → List V → (Bool → Option β) → Option β
def P187 (F186 : T186) : T187 := fun β a_Name a_Text a_Parent a_Attrs b_Name b_Text b_Parent b_Attrs k =>
 br (!(a_Name == b_Name)) (
 k false) (
 br (!(a_Text == b_Text)) (
 k false) (
 br (a_Parent != b_Parent) (
 k false) (
 F186 _ a_Attrs b_Attrs fun b1 =>
 br (!b1) (
 k false) (
 k true))))
def F187 : T187 := P187 F186 
abbrev s187 : List (Bool × List CK) := [(true, [.str, .str, .int .i64, .sl 2 true]), (true, [.str, .str, .int .i64, .sl 2 true])]
def G187 (F : T187) (β : Type) (e : (List UInt8 × List UInt8 × Int × List V × Unit) × (List UInt8 × List UInt8 × Int × List V × Unit) × Unit) (k : V → Option β) : Option β := F β e.1.1 e.1.2.1 e.1.2.2.1 e.1.2.2.2.1 e.2.1.1 e.2.1.2.1 e.2.1.2.2.1 e.2.1.2.2.2.1 (fun y1 => k (.bool y1))
abbrev W187 (F : T187) : WT := wrap s187 (G187 F)
theorem k187 (F186 : T186) (β : Type) (e : argsT s187) (k : V → Option β) : fnK cfg (tabL [(186, W186 F186)]) noX 187 Tryz.f187 β (argsEnc s187 e) k = G187 (P187 F186 ) β e k := by kernel_rfl
theorem ok187 : FnOk D 187 (W187 F187) := fn_okW [(186, W186 F186)] noX (fun _ => rfl) Tryz.func187 rfl (tabL_cons ok186 tabL_nil) (k187 F186 )

/-- laws.eqNodeS -/
abbrev T147 : Type 1 := (β : Type) → List V → List V → (Bool → Option β) → Option β
def P147 (F187 : T187) : T147 := fun β a b k =>
 br ((a.length : Int) != (b.length : Int)) (
 k false) (
 whileK (fun s1 =>
 br (decide ((lI s1 2) < ((lL s1 0).length : Int))) (
 chk (0 ≤ (lI s1 2)) <|
 idx true [.str, .str, .int .i64, .sl 2 true] (lL s1 0) ((lI s1 2).toNat) fun (e2 : List UInt8 × List UInt8 × Int × List V × Unit) =>
 chk (0 ≤ (lI s1 2)) <|
 idx true [.str, .str, .int .i64, .sl 2 true] (lL s1 1) ((lI s1 2).toNat) fun (e3 : List UInt8 × List UInt8 × Int × List V × Unit) =>
 F187 _ e2.1 e2.2.1 e2.2.2.1 e2.2.2.2.1 e3.1 e3.2.1 e3.2.2.1 e3.2.2.2.1 fun b4 =>
 br (!b4) (
 some (.inr (0, [.b false]))) (
 some (.inl [.l (lL s1 0), .l (lL s1 1), .i (IntKind.wrap .i64 ((lI s1 2) + 1))]))) (
 some (.inr (1, [])))) [.l a, .l b, .i 0] fun (r5 : Nat × List Leaf) =>
 if r5.1 = 0 then
 k (lB r5.2 0)
 else
 k true)
def F147 : T147 := P147 F187 
def X147 : Exits := fun i => lookN i [] [(4, [(.ret, xk 27 [(4, .bool false)] []), (.exit 0, xk 27 [] [])])]
abbrev s147 : List (Bool × List CK) := [(false, [.sl 4 false]), (false, [.sl 4 false])]
def G147 (F : T147) (β : Type) (e : (List V × Unit) × (List V × Unit) × Unit) (k : V → Option β) : Option β := F β e.1.1 e.2.1.1 (fun y1 => k (.bool y1))
abbrev W147 (F : T147) : WT := wrap s147 (G147 F)
theorem k147 (F187 : T187) (β : Type) (e : argsT s147) (k : V → Option β) : fnK cfg (tabL [(187, W187 F187)]) X147 147 Tryz.f147 β (argsEnc s147 e) k = G147 (P147 F187 ) β e k := by kernel_rfl
theorem ok147 : FnOk D 147 (W147 F147) := fn_okW [(187, W187 F187)] X147 (fun _ => rfl) Tryz.func147 rfl (tabL_cons ok187 tabL_nil) (k147 F187 )

/-- laws.eqIntS -/
abbrev T148 : Type 1 := (β : Type) → List V → List V → (Bool → Option β) → Option β
def P148 : T148 := fun β a b k =>
 br ((a.length : Int) != (b.length : Int)) (
 k false) (
 whileK (fun s1 =>
 br (decide ((lI s1 2) < ((lL s1 0).length : Int))) (
 chk (0 ≤ (lI s1 2)) <|
 idx false [.int .i64] (lL s1 0) ((lI s1 2).toNat) fun (e2 : Int × Unit) =>
 chk (0 ≤ (lI s1 2)) <|
 idx false [.int .i64] (lL s1 1) ((lI s1 2).toNat) fun (e3 : Int × Unit) =>
 br (e2.1 != e3.1) (
 some (.inr (0, [.b false]))) (
 some (.inl [.l (lL s1 0), .l (lL s1 1), .i (IntKind.wrap .i64 ((lI s1 2) + 1))]))) (
 some (.inr (1, [])))) [.l a, .l b, .i 0] fun (r4 : Nat × List Leaf) =>
 if r4.1 = 0 then
 k (lB r4.2 0)
 else
 k true)
def F148 : T148 := P148 
def X148 : Exits := fun i => lookN i [] [(4, [(.ret, xk 26 [(4, .bool false)] []), (.exit 0, xk 26 [] [])])]
abbrev s148 : List (Bool × List CK) := [(false, [.sl 1 true]), (false, [.sl 1 true])]
def G148 (F : T148) (β : Type) (e : (List V × Unit) × (List V × Unit) × Unit) (k : V → Option β) : Option β := F β e.1.1 e.2.1.1 (fun y1 => k (.bool y1))
abbrev W148 (F : T148) : WT := wrap s148 (G148 F)
theorem k148 (β : Type) (e : argsT s148) (k : V → Option β) : fnK cfg (tabL []) X148 148 Tryz.f148 β (argsEnc s148 e) k = G148 (P148 ) β e k := by kernel_rfl
theorem ok148 : FnOk D 148 (W148 F148) := fn_okW [] X148 (fun _ => rfl) Tryz.func148 rfl (tabL_nil) (k148 )

/-- laws.eqBuilder -/
abbrev T84 : Type 1 := (β : Type) → List V → List V → List V → List V → (Bool → Option β) → Option β
def P84 (F147 : T147) (F148 : T148) : T84 := fun β a_Nodes a_Open b_Nodes b_Open k =>
 F147 _ a_Nodes b_Nodes fun b1 =>
 br (!b1) (
 k false) (
 F148 _ a_Open b_Open fun b2 =>
 br (!b2) (
 k false) (
 k true))
def F84 : T84 := P84 F147 F148 
abbrev s84 : List (Bool × List CK) := [(true, [.sl 4 false, .sl 1 true]), (true, [.sl 4 false, .sl 1 true])]
def G84 (F : T84) (β : Type) (e : (List V × List V × Unit) × (List V × List V × Unit) × Unit) (k : V → Option β) : Option β := F β e.1.1 e.1.2.1 e.2.1.1 e.2.1.2.1 (fun y1 => k (.bool y1))
abbrev W84 (F : T84) : WT := wrap s84 (G84 F)
theorem k84 (F147 : T147) (F148 : T148) (β : Type) (e : argsT s84) (k : V → Option β) : fnK cfg (tabL [(147, W147 F147), (148, W148 F148)]) noX 84 Tryz.f84 β (argsEnc s84 e) k = G84 (P84 F147 F148 ) β e k := by kernel_rfl
theorem ok84 : FnOk D 84 (W84 F84) := fn_okW [(147, W147 F147), (148, W148 F148)] noX (fun _ => rfl) Tryz.func84 rfl (tabL_cons ok147 (tabL_cons ok148 tabL_nil)) (k84 F147 F148 )

/-- laws.eqSlot -/
abbrev T149 : Type 1 := (β : Type) → Int → List UInt8 → List UInt8 → List UInt8 → Int → Bool → Int → List UInt8 → Int → List UInt8 → List UInt8 → List UInt8 → Int → Bool → Int → List UInt8 → (Bool → Option β) → Option β
def P149 (F80 : T80) : T149 := fun β a_Mode a_To_Host a_To_Path a_Digest a_Node a_Done a_Code a_Body b_Mode b_To_Host b_To_Path b_Digest b_Node b_Done b_Code b_Body k =>
 br (a_Mode != b_Mode) (
 k false) (
 F80 _ a_To_Host a_To_Path b_To_Host b_To_Path fun b1 =>
 br (!b1) (
 k false) (
 br (!(a_Digest == b_Digest)) (
 k false) (
 br (a_Node != b_Node) (
 k false) (
 br (!(a_Done == b_Done)) (
 k false) (
 br (a_Code != b_Code) (
 k false) (
 br (!(a_Body == b_Body)) (
 k false) (
 k true)))))))
def F149 : T149 := P149 F80 
abbrev s149 : List (Bool × List CK) := [(true, [.int .i64, .str, .str, .str, .int .i64, .bool, .int .i64, .str]), (true, [.int .i64, .str, .str, .str, .int .i64, .bool, .int .i64, .str])]
def G149 (F : T149) (β : Type) (e : (Int × List UInt8 × List UInt8 × List UInt8 × Int × Bool × Int × List UInt8 × Unit) × (Int × List UInt8 × List UInt8 × List UInt8 × Int × Bool × Int × List UInt8 × Unit) × Unit) (k : V → Option β) : Option β := let a0_0 := e.1; let a0_1 := a0_0.2; let a0_2 := a0_1.2; let a0_3 := a0_2.2; let a0_4 := a0_3.2; let a0_5 := a0_4.2; let a0_6 := a0_5.2; let a0_7 := a0_6.2; let a1_0 := e.2.1; let a1_1 := a1_0.2; let a1_2 := a1_1.2; let a1_3 := a1_2.2; let a1_4 := a1_3.2; let a1_5 := a1_4.2; let a1_6 := a1_5.2; let a1_7 := a1_6.2; F β a0_0.1 a0_1.1 a0_2.1 a0_3.1 a0_4.1 a0_5.1 a0_6.1 a0_7.1 a1_0.1 a1_1.1 a1_2.1 a1_3.1 a1_4.1 a1_5.1 a1_6.1 a1_7.1 (fun y1 => k (.bool y1))
abbrev W149 (F : T149) : WT := wrap s149 (G149 F)
theorem k149 (F80 : T80) (β : Type) (e : argsT s149) (k : V → Option β) : fnK cfg (tabL [(80, W80 F80)]) noX 149 Tryz.f149 β (argsEnc s149 e) k = G149 (P149 F80 ) β e k := by kernel_rfl
theorem ok149 : FnOk D 149 (W149 F149) := fn_okW [(80, W80 F80)] noX (fun _ => rfl) Tryz.func149 rfl (tabL_cons ok80 tabL_nil) (k149 F80 )

/-- laws.eqSlotS -/
abbrev T85 : Type 1 := (β : Type) → List V → List V → (Bool → Option β) → Option β
def P85 (F149 : T149) : T85 := fun β a b k =>
 br ((a.length : Int) != (b.length : Int)) (
 k false) (
 whileK (fun s1 =>
 br (decide ((lI s1 2) < ((lL s1 0).length : Int))) (
 chk (0 ≤ (lI s1 2)) <|
 idx true [.int .i64, .str, .str, .str, .int .i64, .bool, .int .i64, .str] (lL s1 0) ((lI s1 2).toNat) fun (e2 : Int × List UInt8 × List UInt8 × List UInt8 × Int × Bool × Int × List UInt8 × Unit) =>
 chk (0 ≤ (lI s1 2)) <|
 idx true [.int .i64, .str, .str, .str, .int .i64, .bool, .int .i64, .str] (lL s1 1) ((lI s1 2).toNat) fun (e3 : Int × List UInt8 × List UInt8 × List UInt8 × Int × Bool × Int × List UInt8 × Unit) =>
 F149 _ e2.1 e2.2.1 e2.2.2.1 e2.2.2.2.1 e2.2.2.2.2.1 e2.2.2.2.2.2.1 e2.2.2.2.2.2.2.1 e2.2.2.2.2.2.2.2.1 e3.1 e3.2.1 e3.2.2.1 e3.2.2.2.1 e3.2.2.2.2.1 e3.2.2.2.2.2.1 e3.2.2.2.2.2.2.1 e3.2.2.2.2.2.2.2.1 fun b4 =>
 br (!b4) (
 some (.inr (0, [.b false]))) (
 some (.inl [.l (lL s1 0), .l (lL s1 1), .i (IntKind.wrap .i64 ((lI s1 2) + 1))]))) (
 some (.inr (1, [])))) [.l a, .l b, .i 0] fun (r5 : Nat × List Leaf) =>
 if r5.1 = 0 then
 k (lB r5.2 0)
 else
 k true)
def F85 : T85 := P85 F149 
def X85 : Exits := fun i => lookN i [] [(4, [(.ret, xk 27 [(4, .bool false)] []), (.exit 0, xk 27 [] [])])]
abbrev s85 : List (Bool × List CK) := [(false, [.sl 8 true]), (false, [.sl 8 true])]
def G85 (F : T85) (β : Type) (e : (List V × Unit) × (List V × Unit) × Unit) (k : V → Option β) : Option β := F β e.1.1 e.2.1.1 (fun y1 => k (.bool y1))
abbrev W85 (F : T85) : WT := wrap s85 (G85 F)
theorem k85 (F149 : T149) (β : Type) (e : argsT s85) (k : V → Option β) : fnK cfg (tabL [(149, W149 F149)]) X85 85 Tryz.f85 β (argsEnc s85 e) k = G85 (P85 F149 ) β e k := by kernel_rfl
theorem ok85 : FnOk D 85 (W85 F85) := fn_okW [(149, W149 F149)] X85 (fun _ => rfl) Tryz.func85 rfl (tabL_cons ok149 tabL_nil) (k85 F149 )

/-- laws.eqModule -/
abbrev T150 : Type 1 := (β : Type) → List UInt8 → List UInt8 → Bool → Int → List UInt8 → List UInt8 → List UInt8 → Bool → Int → List UInt8 → (Bool → Option β) → Option β
def P150 (F80 : T80) : T150 := fun β a_To_Host a_To_Path a_Done a_Code a_Body b_To_Host b_To_Path b_Done b_Code b_Body k =>
 F80 _ a_To_Host a_To_Path b_To_Host b_To_Path fun b1 =>
 br (!b1) (
 k false) (
 br (!(a_Done == b_Done)) (
 k false) (
 br (a_Code != b_Code) (
 k false) (
 br (!(a_Body == b_Body)) (
 k false) (
 k true))))
def F150 : T150 := P150 F80 
abbrev s150 : List (Bool × List CK) := [(true, [.str, .str, .bool, .int .i64, .str]), (true, [.str, .str, .bool, .int .i64, .str])]
def G150 (F : T150) (β : Type) (e : (List UInt8 × List UInt8 × Bool × Int × List UInt8 × Unit) × (List UInt8 × List UInt8 × Bool × Int × List UInt8 × Unit) × Unit) (k : V → Option β) : Option β := let a0_0 := e.1; let a0_1 := a0_0.2; let a0_2 := a0_1.2; let a0_3 := a0_2.2; let a0_4 := a0_3.2; let a1_0 := e.2.1; let a1_1 := a1_0.2; let a1_2 := a1_1.2; let a1_3 := a1_2.2; let a1_4 := a1_3.2; F β a0_0.1 a0_1.1 a0_2.1 a0_3.1 a0_4.1 a1_0.1 a1_1.1 a1_2.1 a1_3.1 a1_4.1 (fun y1 => k (.bool y1))
abbrev W150 (F : T150) : WT := wrap s150 (G150 F)
theorem k150 (F80 : T80) (β : Type) (e : argsT s150) (k : V → Option β) : fnK cfg (tabL [(80, W80 F80)]) noX 150 Tryz.f150 β (argsEnc s150 e) k = G150 (P150 F80 ) β e k := by kernel_rfl
theorem ok150 : FnOk D 150 (W150 F150) := fn_okW [(80, W80 F80)] noX (fun _ => rfl) Tryz.func150 rfl (tabL_cons ok80 tabL_nil) (k150 F80 )

/-- laws.eqModuleS -/
abbrev T86 : Type 1 := (β : Type) → List V → List V → (Bool → Option β) → Option β
def P86 (F150 : T150) : T86 := fun β a b k =>
 br ((a.length : Int) != (b.length : Int)) (
 k false) (
 whileK (fun s1 =>
 br (decide ((lI s1 2) < ((lL s1 0).length : Int))) (
 chk (0 ≤ (lI s1 2)) <|
 idx true [.str, .str, .bool, .int .i64, .str] (lL s1 0) ((lI s1 2).toNat) fun (e2 : List UInt8 × List UInt8 × Bool × Int × List UInt8 × Unit) =>
 chk (0 ≤ (lI s1 2)) <|
 idx true [.str, .str, .bool, .int .i64, .str] (lL s1 1) ((lI s1 2).toNat) fun (e3 : List UInt8 × List UInt8 × Bool × Int × List UInt8 × Unit) =>
 F150 _ e2.1 e2.2.1 e2.2.2.1 e2.2.2.2.1 e2.2.2.2.2.1 e3.1 e3.2.1 e3.2.2.1 e3.2.2.2.1 e3.2.2.2.2.1 fun b4 =>
 br (!b4) (
 some (.inr (0, [.b false]))) (
 some (.inl [.l (lL s1 0), .l (lL s1 1), .i (IntKind.wrap .i64 ((lI s1 2) + 1))]))) (
 some (.inr (1, [])))) [.l a, .l b, .i 0] fun (r5 : Nat × List Leaf) =>
 if r5.1 = 0 then
 k (lB r5.2 0)
 else
 k true)
def F86 : T86 := P86 F150 
def X86 : Exits := fun i => lookN i [] [(4, [(.ret, xk 27 [(4, .bool false)] []), (.exit 0, xk 27 [] [])])]
abbrev s86 : List (Bool × List CK) := [(false, [.sl 5 true]), (false, [.sl 5 true])]
def G86 (F : T86) (β : Type) (e : (List V × Unit) × (List V × Unit) × Unit) (k : V → Option β) : Option β := F β e.1.1 e.2.1.1 (fun y1 => k (.bool y1))
abbrev W86 (F : T86) : WT := wrap s86 (G86 F)
theorem k86 (F150 : T150) (β : Type) (e : argsT s86) (k : V → Option β) : fnK cfg (tabL [(150, W150 F150)]) X86 86 Tryz.f86 β (argsEnc s86 e) k = G86 (P86 F150 ) β e k := by kernel_rfl
theorem ok86 : FnOk D 86 (W86 F86) := fn_okW [(150, W150 F150)] X86 (fun _ => rfl) Tryz.func86 rfl (tabL_cons ok150 tabL_nil) (k86 F150 )

/-- laws.eqAddrS -/
abbrev T87 : Type 1 := (β : Type) → List V → List V → (Bool → Option β) → Option β
def P87 (F80 : T80) : T87 := fun β a b k =>
 br ((a.length : Int) != (b.length : Int)) (
 k false) (
 whileK (fun s1 =>
 br (decide ((lI s1 2) < ((lL s1 0).length : Int))) (
 chk (0 ≤ (lI s1 2)) <|
 idx true [.str, .str] (lL s1 0) ((lI s1 2).toNat) fun (e2 : List UInt8 × List UInt8 × Unit) =>
 chk (0 ≤ (lI s1 2)) <|
 idx true [.str, .str] (lL s1 1) ((lI s1 2).toNat) fun (e3 : List UInt8 × List UInt8 × Unit) =>
 F80 _ e2.1 e2.2.1 e3.1 e3.2.1 fun b4 =>
 br (!b4) (
 some (.inr (0, [.b false]))) (
 some (.inl [.l (lL s1 0), .l (lL s1 1), .i (IntKind.wrap .i64 ((lI s1 2) + 1))]))) (
 some (.inr (1, [])))) [.l a, .l b, .i 0] fun (r5 : Nat × List Leaf) =>
 if r5.1 = 0 then
 k (lB r5.2 0)
 else
 k true)
def F87 : T87 := P87 F80 
def X87 : Exits := fun i => lookN i [] [(4, [(.ret, xk 27 [(4, .bool false)] []), (.exit 0, xk 27 [] [])])]
abbrev s87 : List (Bool × List CK) := [(false, [.sl 2 true]), (false, [.sl 2 true])]
def G87 (F : T87) (β : Type) (e : (List V × Unit) × (List V × Unit) × Unit) (k : V → Option β) : Option β := F β e.1.1 e.2.1.1 (fun y1 => k (.bool y1))
abbrev W87 (F : T87) : WT := wrap s87 (G87 F)
theorem k87 (F80 : T80) (β : Type) (e : argsT s87) (k : V → Option β) : fnK cfg (tabL [(80, W80 F80)]) X87 87 Tryz.f87 β (argsEnc s87 e) k = G87 (P87 F80 ) β e k := by kernel_rfl
theorem ok87 : FnOk D 87 (W87 F87) := fn_okW [(80, W80 F80)] X87 (fun _ => rfl) Tryz.func87 rfl (tabL_cons ok80 tabL_nil) (k87 F80 )

/-- laws.eqPage -/
abbrev T22 : Type 1 := (β : Type) → List UInt8 → List UInt8 → Bool → List V → List V → List V → List UInt8 → List UInt8 → List V → Bool → List V → List V → List V → List V → List V → Int → Int → Int → Int → List V → List V → Bool → List UInt8 → List UInt8 → Bool → List V → List V → List V → List UInt8 → List UInt8 → List V → Bool → List V → List V → List V → List V → List V → Int → Int → Int → Int → List V → List V → Bool → (Bool → Option β) → Option β
def P22 (F80 : T80) (F81 : T81) (F82 : T82) (F83 : T83) (F84 : T84) (F85 : T85) (F86 : T86) (F87 : T87) (F88 : T88) : T22 := fun β a_Addr_Host a_Addr_Path a_Policy_Set a_Policy_Scripts a_Policy_Styles a_Policy_Images a_Policy_Nonce a_Tok_Rest a_Queue a_Ended a_Builder_Nodes a_Builder_Open a_Slots a_Mods a_Entries a_Block a_Inline a_Deferred a_Entered a_Ran a_Log a_Loaded b_Addr_Host b_Addr_Path b_Policy_Set b_Policy_Scripts b_Policy_Styles b_Policy_Images b_Policy_Nonce b_Tok_Rest b_Queue b_Ended b_Builder_Nodes b_Builder_Open b_Slots b_Mods b_Entries b_Block b_Inline b_Deferred b_Entered b_Ran b_Log b_Loaded k =>
 F80 _ a_Addr_Host a_Addr_Path b_Addr_Host b_Addr_Path fun b1 =>
 br (!b1) (
 k false) (
 F81 _ a_Policy_Set a_Policy_Scripts a_Policy_Styles a_Policy_Images a_Policy_Nonce b_Policy_Set b_Policy_Scripts b_Policy_Styles b_Policy_Images b_Policy_Nonce fun b2 =>
 br (!b2) (
 k false) (
 F82 _ a_Tok_Rest b_Tok_Rest fun b3 =>
 br (!b3) (
 k false) (
 F83 _ a_Queue b_Queue fun b4 =>
 br (!b4) (
 k false) (
 br (!(a_Ended == b_Ended)) (
 k false) (
 F84 _ a_Builder_Nodes a_Builder_Open b_Builder_Nodes b_Builder_Open fun b5 =>
 br (!b5) (
 k false) (
 F85 _ a_Slots b_Slots fun b6 =>
 br (!b6) (
 k false) (
 F86 _ a_Mods b_Mods fun b7 =>
 br (!b7) (
 k false) (
 F87 _ a_Entries b_Entries fun b8 =>
 br (!b8) (
 k false) (
 br (a_Block != b_Block) (
 k false) (
 br (a_Inline != b_Inline) (
 k false) (
 br (a_Deferred != b_Deferred) (
 k false) (
 br (a_Entered != b_Entered) (
 k false) (
 F87 _ a_Ran b_Ran fun b9 =>
 br (!b9) (
 k false) (
 F88 _ a_Log b_Log fun b10 =>
 br (!b10) (
 k false) (
 br (!(a_Loaded == b_Loaded)) (
 k false) (
 k true))))))))))))))))
def F22 : T22 := P22 F80 F81 F82 F83 F84 F85 F86 F87 F88 
abbrev s22 : List (Bool × List CK) := [(true, [.str, .str, .bool, .sl 1 true, .sl 1 true, .sl 1 true, .str, .str, .sl 4 false, .bool, .sl 4 false, .sl 1 true, .sl 8 true, .sl 5 true, .sl 2 true, .int .i64, .int .i64, .int .i64, .int .i64, .sl 2 true, .sl 1 true, .bool]), (true, [.str, .str, .bool, .sl 1 true, .sl 1 true, .sl 1 true, .str, .str, .sl 4 false, .bool, .sl 4 false, .sl 1 true, .sl 8 true, .sl 5 true, .sl 2 true, .int .i64, .int .i64, .int .i64, .int .i64, .sl 2 true, .sl 1 true, .bool])]
def G22 (F : T22) (β : Type) (e : (List UInt8 × List UInt8 × Bool × List V × List V × List V × List UInt8 × List UInt8 × List V × Bool × List V × List V × List V × List V × List V × Int × Int × Int × Int × List V × List V × Bool × Unit) × (List UInt8 × List UInt8 × Bool × List V × List V × List V × List UInt8 × List UInt8 × List V × Bool × List V × List V × List V × List V × List V × Int × Int × Int × Int × List V × List V × Bool × Unit) × Unit) (k : V → Option β) : Option β := let a0_0 := e.1; let a0_1 := a0_0.2; let a0_2 := a0_1.2; let a0_3 := a0_2.2; let a0_4 := a0_3.2; let a0_5 := a0_4.2; let a0_6 := a0_5.2; let a0_7 := a0_6.2; let a0_8 := a0_7.2; let a0_9 := a0_8.2; let a0_10 := a0_9.2; let a0_11 := a0_10.2; let a0_12 := a0_11.2; let a0_13 := a0_12.2; let a0_14 := a0_13.2; let a0_15 := a0_14.2; let a0_16 := a0_15.2; let a0_17 := a0_16.2; let a0_18 := a0_17.2; let a0_19 := a0_18.2; let a0_20 := a0_19.2; let a0_21 := a0_20.2; let a1_0 := e.2.1; let a1_1 := a1_0.2; let a1_2 := a1_1.2; let a1_3 := a1_2.2; let a1_4 := a1_3.2; let a1_5 := a1_4.2; let a1_6 := a1_5.2; let a1_7 := a1_6.2; let a1_8 := a1_7.2; let a1_9 := a1_8.2; let a1_10 := a1_9.2; let a1_11 := a1_10.2; let a1_12 := a1_11.2; let a1_13 := a1_12.2; let a1_14 := a1_13.2; let a1_15 := a1_14.2; let a1_16 := a1_15.2; let a1_17 := a1_16.2; let a1_18 := a1_17.2; let a1_19 := a1_18.2; let a1_20 := a1_19.2; let a1_21 := a1_20.2; F β a0_0.1 a0_1.1 a0_2.1 a0_3.1 a0_4.1 a0_5.1 a0_6.1 a0_7.1 a0_8.1 a0_9.1 a0_10.1 a0_11.1 a0_12.1 a0_13.1 a0_14.1 a0_15.1 a0_16.1 a0_17.1 a0_18.1 a0_19.1 a0_20.1 a0_21.1 a1_0.1 a1_1.1 a1_2.1 a1_3.1 a1_4.1 a1_5.1 a1_6.1 a1_7.1 a1_8.1 a1_9.1 a1_10.1 a1_11.1 a1_12.1 a1_13.1 a1_14.1 a1_15.1 a1_16.1 a1_17.1 a1_18.1 a1_19.1 a1_20.1 a1_21.1 (fun y1 => k (.bool y1))
abbrev W22 (F : T22) : WT := wrap s22 (G22 F)
theorem k22 (F80 : T80) (F81 : T81) (F82 : T82) (F83 : T83) (F84 : T84) (F85 : T85) (F86 : T86) (F87 : T87) (F88 : T88) (β : Type) (e : argsT s22) (k : V → Option β) : fnK cfg (tabL [(80, W80 F80), (81, W81 F81), (82, W82 F82), (83, W83 F83), (84, W84 F84), (85, W85 F85), (86, W86 F86), (87, W87 F87), (88, W88 F88)]) noX 22 Tryz.f22 β (argsEnc s22 e) k = G22 (P22 F80 F81 F82 F83 F84 F85 F86 F87 F88 ) β e k := by kernel_rfl
theorem ok22 : FnOk D 22 (W22 F22) := fn_okW [(80, W80 F80), (81, W81 F81), (82, W82 F82), (83, W83 F83), (84, W84 F84), (85, W85 F85), (86, W86 F86), (87, W87 F87), (88, W88 F88)] noX (fun _ => rfl) Tryz.func22 rfl (tabL_cons ok80 (tabL_cons ok81 (tabL_cons ok82 (tabL_cons ok83 (tabL_cons ok84 (tabL_cons ok85 (tabL_cons ok86 (tabL_cons ok87 (tabL_cons ok88 tabL_nil))))))))) (k22 F80 F81 F82 F83 F84 F85 F86 F87 F88 )

/-- laws.eqVisit -/
abbrev T154 : Type 1 := (β : Type) → List UInt8 → List UInt8 → List UInt8 → List UInt8 → Bool → List V → List V → List V → List UInt8 → List UInt8 → List V → Bool → List V → List V → List V → List V → List V → Int → Int → Int → Int → List V → List V → Bool → Bool → List UInt8 → List UInt8 → List UInt8 → List UInt8 → Bool → List V → List V → List V → List UInt8 → List UInt8 → List V → Bool → List V → List V → List V → List V → List V → Int → Int → Int → Int → List V → List V → Bool → Bool → (Bool → Option β) → Option β
def P154 (F80 : T80) (F22 : T22) : T154 := fun β a_Addr_Host a_Addr_Path a_Page_Addr_Host a_Page_Addr_Path a_Page_Policy_Set a_Page_Policy_Scripts a_Page_Policy_Styles a_Page_Policy_Images a_Page_Policy_Nonce a_Page_Tok_Rest a_Page_Queue a_Page_Ended a_Page_Builder_Nodes a_Page_Builder_Open a_Page_Slots a_Page_Mods a_Page_Entries a_Page_Block a_Page_Inline a_Page_Deferred a_Page_Entered a_Page_Ran a_Page_Log a_Page_Loaded a_Kept b_Addr_Host b_Addr_Path b_Page_Addr_Host b_Page_Addr_Path b_Page_Policy_Set b_Page_Policy_Scripts b_Page_Policy_Styles b_Page_Policy_Images b_Page_Policy_Nonce b_Page_Tok_Rest b_Page_Queue b_Page_Ended b_Page_Builder_Nodes b_Page_Builder_Open b_Page_Slots b_Page_Mods b_Page_Entries b_Page_Block b_Page_Inline b_Page_Deferred b_Page_Entered b_Page_Ran b_Page_Log b_Page_Loaded b_Kept k =>
 F80 _ a_Addr_Host a_Addr_Path b_Addr_Host b_Addr_Path fun b1 =>
 br (!b1) (
 k false) (
 F22 _ a_Page_Addr_Host a_Page_Addr_Path a_Page_Policy_Set a_Page_Policy_Scripts a_Page_Policy_Styles a_Page_Policy_Images a_Page_Policy_Nonce a_Page_Tok_Rest a_Page_Queue a_Page_Ended a_Page_Builder_Nodes a_Page_Builder_Open a_Page_Slots a_Page_Mods a_Page_Entries a_Page_Block a_Page_Inline a_Page_Deferred a_Page_Entered a_Page_Ran a_Page_Log a_Page_Loaded b_Page_Addr_Host b_Page_Addr_Path b_Page_Policy_Set b_Page_Policy_Scripts b_Page_Policy_Styles b_Page_Policy_Images b_Page_Policy_Nonce b_Page_Tok_Rest b_Page_Queue b_Page_Ended b_Page_Builder_Nodes b_Page_Builder_Open b_Page_Slots b_Page_Mods b_Page_Entries b_Page_Block b_Page_Inline b_Page_Deferred b_Page_Entered b_Page_Ran b_Page_Log b_Page_Loaded fun b2 =>
 br (!b2) (
 k false) (
 br (!(a_Kept == b_Kept)) (
 k false) (
 k true)))
def F154 : T154 := P154 F80 F22 
abbrev s154 : List (Bool × List CK) := [(true, [.str, .str, .str, .str, .bool, .sl 1 true, .sl 1 true, .sl 1 true, .str, .str, .sl 4 false, .bool, .sl 4 false, .sl 1 true, .sl 8 true, .sl 5 true, .sl 2 true, .int .i64, .int .i64, .int .i64, .int .i64, .sl 2 true, .sl 1 true, .bool, .bool]), (true, [.str, .str, .str, .str, .bool, .sl 1 true, .sl 1 true, .sl 1 true, .str, .str, .sl 4 false, .bool, .sl 4 false, .sl 1 true, .sl 8 true, .sl 5 true, .sl 2 true, .int .i64, .int .i64, .int .i64, .int .i64, .sl 2 true, .sl 1 true, .bool, .bool])]
def G154 (F : T154) (β : Type) (e : (List UInt8 × List UInt8 × List UInt8 × List UInt8 × Bool × List V × List V × List V × List UInt8 × List UInt8 × List V × Bool × List V × List V × List V × List V × List V × Int × Int × Int × Int × List V × List V × Bool × Bool × Unit) × (List UInt8 × List UInt8 × List UInt8 × List UInt8 × Bool × List V × List V × List V × List UInt8 × List UInt8 × List V × Bool × List V × List V × List V × List V × List V × Int × Int × Int × Int × List V × List V × Bool × Bool × Unit) × Unit) (k : V → Option β) : Option β := let a0_0 := e.1; let a0_1 := a0_0.2; let a0_2 := a0_1.2; let a0_3 := a0_2.2; let a0_4 := a0_3.2; let a0_5 := a0_4.2; let a0_6 := a0_5.2; let a0_7 := a0_6.2; let a0_8 := a0_7.2; let a0_9 := a0_8.2; let a0_10 := a0_9.2; let a0_11 := a0_10.2; let a0_12 := a0_11.2; let a0_13 := a0_12.2; let a0_14 := a0_13.2; let a0_15 := a0_14.2; let a0_16 := a0_15.2; let a0_17 := a0_16.2; let a0_18 := a0_17.2; let a0_19 := a0_18.2; let a0_20 := a0_19.2; let a0_21 := a0_20.2; let a0_22 := a0_21.2; let a0_23 := a0_22.2; let a0_24 := a0_23.2; let a1_0 := e.2.1; let a1_1 := a1_0.2; let a1_2 := a1_1.2; let a1_3 := a1_2.2; let a1_4 := a1_3.2; let a1_5 := a1_4.2; let a1_6 := a1_5.2; let a1_7 := a1_6.2; let a1_8 := a1_7.2; let a1_9 := a1_8.2; let a1_10 := a1_9.2; let a1_11 := a1_10.2; let a1_12 := a1_11.2; let a1_13 := a1_12.2; let a1_14 := a1_13.2; let a1_15 := a1_14.2; let a1_16 := a1_15.2; let a1_17 := a1_16.2; let a1_18 := a1_17.2; let a1_19 := a1_18.2; let a1_20 := a1_19.2; let a1_21 := a1_20.2; let a1_22 := a1_21.2; let a1_23 := a1_22.2; let a1_24 := a1_23.2; F β a0_0.1 a0_1.1 a0_2.1 a0_3.1 a0_4.1 a0_5.1 a0_6.1 a0_7.1 a0_8.1 a0_9.1 a0_10.1 a0_11.1 a0_12.1 a0_13.1 a0_14.1 a0_15.1 a0_16.1 a0_17.1 a0_18.1 a0_19.1 a0_20.1 a0_21.1 a0_22.1 a0_23.1 a0_24.1 a1_0.1 a1_1.1 a1_2.1 a1_3.1 a1_4.1 a1_5.1 a1_6.1 a1_7.1 a1_8.1 a1_9.1 a1_10.1 a1_11.1 a1_12.1 a1_13.1 a1_14.1 a1_15.1 a1_16.1 a1_17.1 a1_18.1 a1_19.1 a1_20.1 a1_21.1 a1_22.1 a1_23.1 a1_24.1 (fun y1 => k (.bool y1))
abbrev W154 (F : T154) : WT := wrap s154 (G154 F)
theorem k154 (F80 : T80) (F22 : T22) (β : Type) (e : argsT s154) (k : V → Option β) : fnK cfg (tabL [(80, W80 F80), (22, W22 F22)]) noX 154 Tryz.f154 β (argsEnc s154 e) k = G154 (P154 F80 F22 ) β e k := by kernel_rfl
theorem ok154 : FnOk D 154 (W154 F154) := fn_okW [(80, W80 F80), (22, W22 F22)] noX (fun _ => rfl) Tryz.func154 rfl (tabL_cons ok80 (tabL_cons ok22 tabL_nil)) (k154 F80 F22 )

/-- laws.eqVisitS -/
abbrev T93 : Type 1 := (β : Type) → List V → List V → (Bool → Option β) → Option β
def P93 (F154 : T154) : T93 := fun β a b k =>
 br ((a.length : Int) != (b.length : Int)) (
 k false) (
 whileK (fun s1 =>
 br (decide ((lI s1 2) < ((lL s1 0).length : Int))) (
 chk (0 ≤ (lI s1 2)) <|
 idx true [.str, .str, .str, .str, .bool, .sl 1 true, .sl 1 true, .sl 1 true, .str, .str, .sl 4 false, .bool, .sl 4 false, .sl 1 true, .sl 8 true, .sl 5 true, .sl 2 true, .int .i64, .int .i64, .int .i64, .int .i64, .sl 2 true, .sl 1 true, .bool, .bool] (lL s1 0) ((lI s1 2).toNat) fun (e2 : List UInt8 × List UInt8 × List UInt8 × List UInt8 × Bool × List V × List V × List V × List UInt8 × List UInt8 × List V × Bool × List V × List V × List V × List V × List V × Int × Int × Int × Int × List V × List V × Bool × Bool × Unit) =>
 chk (0 ≤ (lI s1 2)) <|
 idx true [.str, .str, .str, .str, .bool, .sl 1 true, .sl 1 true, .sl 1 true, .str, .str, .sl 4 false, .bool, .sl 4 false, .sl 1 true, .sl 8 true, .sl 5 true, .sl 2 true, .int .i64, .int .i64, .int .i64, .int .i64, .sl 2 true, .sl 1 true, .bool, .bool] (lL s1 1) ((lI s1 2).toNat) fun (e3 : List UInt8 × List UInt8 × List UInt8 × List UInt8 × Bool × List V × List V × List V × List UInt8 × List UInt8 × List V × Bool × List V × List V × List V × List V × List V × Int × Int × Int × Int × List V × List V × Bool × Bool × Unit) =>
 F154 _ e2.1 e2.2.1 e2.2.2.1 e2.2.2.2.1 e2.2.2.2.2.1 e2.2.2.2.2.2.1 e2.2.2.2.2.2.2.1 e2.2.2.2.2.2.2.2.1 e2.2.2.2.2.2.2.2.2.1 e2.2.2.2.2.2.2.2.2.2.1 e2.2.2.2.2.2.2.2.2.2.2.1 e2.2.2.2.2.2.2.2.2.2.2.2.1 e2.2.2.2.2.2.2.2.2.2.2.2.2.1 e2.2.2.2.2.2.2.2.2.2.2.2.2.2.1 e2.2.2.2.2.2.2.2.2.2.2.2.2.2.2.1 e2.2.2.2.2.2.2.2.2.2.2.2.2.2.2.2.1 e2.2.2.2.2.2.2.2.2.2.2.2.2.2.2.2.2.1 e2.2.2.2.2.2.2.2.2.2.2.2.2.2.2.2.2.2.1 e2.2.2.2.2.2.2.2.2.2.2.2.2.2.2.2.2.2.2.1 e2.2.2.2.2.2.2.2.2.2.2.2.2.2.2.2.2.2.2.2.1 e2.2.2.2.2.2.2.2.2.2.2.2.2.2.2.2.2.2.2.2.2.1 e2.2.2.2.2.2.2.2.2.2.2.2.2.2.2.2.2.2.2.2.2.2.1 e2.2.2.2.2.2.2.2.2.2.2.2.2.2.2.2.2.2.2.2.2.2.2.1 e2.2.2.2.2.2.2.2.2.2.2.2.2.2.2.2.2.2.2.2.2.2.2.2.1 e2.2.2.2.2.2.2.2.2.2.2.2.2.2.2.2.2.2.2.2.2.2.2.2.2.1 e3.1 e3.2.1 e3.2.2.1 e3.2.2.2.1 e3.2.2.2.2.1 e3.2.2.2.2.2.1 e3.2.2.2.2.2.2.1 e3.2.2.2.2.2.2.2.1 e3.2.2.2.2.2.2.2.2.1 e3.2.2.2.2.2.2.2.2.2.1 e3.2.2.2.2.2.2.2.2.2.2.1 e3.2.2.2.2.2.2.2.2.2.2.2.1 e3.2.2.2.2.2.2.2.2.2.2.2.2.1 e3.2.2.2.2.2.2.2.2.2.2.2.2.2.1 e3.2.2.2.2.2.2.2.2.2.2.2.2.2.2.1 e3.2.2.2.2.2.2.2.2.2.2.2.2.2.2.2.1 e3.2.2.2.2.2.2.2.2.2.2.2.2.2.2.2.2.1 e3.2.2.2.2.2.2.2.2.2.2.2.2.2.2.2.2.2.1 e3.2.2.2.2.2.2.2.2.2.2.2.2.2.2.2.2.2.2.1 e3.2.2.2.2.2.2.2.2.2.2.2.2.2.2.2.2.2.2.2.1 e3.2.2.2.2.2.2.2.2.2.2.2.2.2.2.2.2.2.2.2.2.1 e3.2.2.2.2.2.2.2.2.2.2.2.2.2.2.2.2.2.2.2.2.2.1 e3.2.2.2.2.2.2.2.2.2.2.2.2.2.2.2.2.2.2.2.2.2.2.1 e3.2.2.2.2.2.2.2.2.2.2.2.2.2.2.2.2.2.2.2.2.2.2.2.1 e3.2.2.2.2.2.2.2.2.2.2.2.2.2.2.2.2.2.2.2.2.2.2.2.2.1 fun b4 =>
 br (!b4) (
 some (.inr (0, [.b false]))) (
 some (.inl [.l (lL s1 0), .l (lL s1 1), .i (IntKind.wrap .i64 ((lI s1 2) + 1))]))) (
 some (.inr (1, [])))) [.l a, .l b, .i 0] fun (r5 : Nat × List Leaf) =>
 if r5.1 = 0 then
 k (lB r5.2 0)
 else
 k true)
def F93 : T93 := P93 F154 
def X93 : Exits := fun i => lookN i [] [(4, [(.ret, xk 27 [(4, .bool false)] []), (.exit 0, xk 27 [] [])])]
abbrev s93 : List (Bool × List CK) := [(false, [.sl 25 false]), (false, [.sl 25 false])]
def G93 (F : T93) (β : Type) (e : (List V × Unit) × (List V × Unit) × Unit) (k : V → Option β) : Option β := F β e.1.1 e.2.1.1 (fun y1 => k (.bool y1))
abbrev W93 (F : T93) : WT := wrap s93 (G93 F)
theorem k93 (F154 : T154) (β : Type) (e : argsT s93) (k : V → Option β) : fnK cfg (tabL [(154, W154 F154)]) X93 93 Tryz.f93 β (argsEnc s93 e) k = G93 (P93 F154 ) β e k := by kernel_rfl
theorem ok93 : FnOk D 93 (W93 F93) := fn_okW [(154, W154 F154)] X93 (fun _ => rfl) Tryz.func93 rfl (tabL_cons ok154 tabL_nil) (k93 F154 )

/-- laws.eqTab -/
abbrev T27 : Type 1 := (β : Type) → List V → Int → List V → Int → (Bool → Option β) → Option β
def P27 (F93 : T93) : T27 := fun β a_Visits a_At b_Visits b_At k =>
 F93 _ a_Visits b_Visits fun b1 =>
 br (!b1) (
 k false) (
 br (a_At != b_At) (
 k false) (
 k true))
def F27 : T27 := P27 F93 
abbrev s27 : List (Bool × List CK) := [(true, [.sl 25 false, .int .i64]), (true, [.sl 25 false, .int .i64])]
def G27 (F : T27) (β : Type) (e : (List V × Int × Unit) × (List V × Int × Unit) × Unit) (k : V → Option β) : Option β := F β e.1.1 e.1.2.1 e.2.1.1 e.2.1.2.1 (fun y1 => k (.bool y1))
abbrev W27 (F : T27) : WT := wrap s27 (G27 F)
theorem k27 (F93 : T93) (β : Type) (e : argsT s27) (k : V → Option β) : fnK cfg (tabL [(93, W93 F93)]) noX 27 Tryz.f27 β (argsEnc s27 e) k = G27 (P27 F93 ) β e k := by kernel_rfl
theorem ok27 : FnOk D 27 (W27 F27) := fn_okW [(93, W93 F93)] noX (fun _ => rfl) Tryz.func27 rfl (tabL_cons ok93 tabL_nil) (k27 F93 )

/-- laws.eqKept -/
abbrev T119 : Type 1 := (β : Type) → List UInt8 → List UInt8 → Int → Int → List UInt8 → Int → Bool → List UInt8 → List UInt8 → List UInt8 → Int → Int → List UInt8 → Int → Bool → List UInt8 → (Bool → Option β) → Option β
def P119 (F80 : T80) (F172 : T172) : T119 := fun β a_To_Host a_To_Path a_Response_Status a_Response_Kind a_Response_Body a_Response_Age a_Response_Shares a_Response_Policy b_To_Host b_To_Path b_Response_Status b_Response_Kind b_Response_Body b_Response_Age b_Response_Shares b_Response_Policy k =>
 F80 _ a_To_Host a_To_Path b_To_Host b_To_Path fun b1 =>
 br (!b1) (
 k false) (
 F172 _ a_Response_Status a_Response_Kind a_Response_Body a_Response_Age a_Response_Shares a_Response_Policy b_Response_Status b_Response_Kind b_Response_Body b_Response_Age b_Response_Shares b_Response_Policy fun b2 =>
 br (!b2) (
 k false) (
 k true))
def F119 : T119 := P119 F80 F172 
abbrev s119 : List (Bool × List CK) := [(true, [.str, .str, .int .i64, .int .i64, .str, .int .i64, .bool, .str]), (true, [.str, .str, .int .i64, .int .i64, .str, .int .i64, .bool, .str])]
def G119 (F : T119) (β : Type) (e : (List UInt8 × List UInt8 × Int × Int × List UInt8 × Int × Bool × List UInt8 × Unit) × (List UInt8 × List UInt8 × Int × Int × List UInt8 × Int × Bool × List UInt8 × Unit) × Unit) (k : V → Option β) : Option β := let a0_0 := e.1; let a0_1 := a0_0.2; let a0_2 := a0_1.2; let a0_3 := a0_2.2; let a0_4 := a0_3.2; let a0_5 := a0_4.2; let a0_6 := a0_5.2; let a0_7 := a0_6.2; let a1_0 := e.2.1; let a1_1 := a1_0.2; let a1_2 := a1_1.2; let a1_3 := a1_2.2; let a1_4 := a1_3.2; let a1_5 := a1_4.2; let a1_6 := a1_5.2; let a1_7 := a1_6.2; F β a0_0.1 a0_1.1 a0_2.1 a0_3.1 a0_4.1 a0_5.1 a0_6.1 a0_7.1 a1_0.1 a1_1.1 a1_2.1 a1_3.1 a1_4.1 a1_5.1 a1_6.1 a1_7.1 (fun y1 => k (.bool y1))
abbrev W119 (F : T119) : WT := wrap s119 (G119 F)
theorem k119 (F80 : T80) (F172 : T172) (β : Type) (e : argsT s119) (k : V → Option β) : fnK cfg (tabL [(80, W80 F80), (172, W172 F172)]) noX 119 Tryz.f119 β (argsEnc s119 e) k = G119 (P119 F80 F172 ) β e k := by kernel_rfl
theorem ok119 : FnOk D 119 (W119 F119) := fn_okW [(80, W80 F80), (172, W172 F172)] noX (fun _ => rfl) Tryz.func119 rfl (tabL_cons ok80 (tabL_cons ok172 tabL_nil)) (k119 F80 F172 )

/-- laws.eqKeptS -/
abbrev T42 : Type 1 := (β : Type) → List V → List V → (Bool → Option β) → Option β
def P42 (F119 : T119) : T42 := fun β a b k =>
 br ((a.length : Int) != (b.length : Int)) (
 k false) (
 whileK (fun s1 =>
 br (decide ((lI s1 2) < ((lL s1 0).length : Int))) (
 chk (0 ≤ (lI s1 2)) <|
 idx true [.str, .str, .int .i64, .int .i64, .str, .int .i64, .bool, .str] (lL s1 0) ((lI s1 2).toNat) fun (e2 : List UInt8 × List UInt8 × Int × Int × List UInt8 × Int × Bool × List UInt8 × Unit) =>
 chk (0 ≤ (lI s1 2)) <|
 idx true [.str, .str, .int .i64, .int .i64, .str, .int .i64, .bool, .str] (lL s1 1) ((lI s1 2).toNat) fun (e3 : List UInt8 × List UInt8 × Int × Int × List UInt8 × Int × Bool × List UInt8 × Unit) =>
 F119 _ e2.1 e2.2.1 e2.2.2.1 e2.2.2.2.1 e2.2.2.2.2.1 e2.2.2.2.2.2.1 e2.2.2.2.2.2.2.1 e2.2.2.2.2.2.2.2.1 e3.1 e3.2.1 e3.2.2.1 e3.2.2.2.1 e3.2.2.2.2.1 e3.2.2.2.2.2.1 e3.2.2.2.2.2.2.1 e3.2.2.2.2.2.2.2.1 fun b4 =>
 br (!b4) (
 some (.inr (0, [.b false]))) (
 some (.inl [.l (lL s1 0), .l (lL s1 1), .i (IntKind.wrap .i64 ((lI s1 2) + 1))]))) (
 some (.inr (1, [])))) [.l a, .l b, .i 0] fun (r5 : Nat × List Leaf) =>
 if r5.1 = 0 then
 k (lB r5.2 0)
 else
 k true)
def F42 : T42 := P42 F119 
def X42 : Exits := fun i => lookN i [] [(4, [(.ret, xk 27 [(4, .bool false)] []), (.exit 0, xk 27 [] [])])]
abbrev s42 : List (Bool × List CK) := [(false, [.sl 8 true]), (false, [.sl 8 true])]
def G42 (F : T42) (β : Type) (e : (List V × Unit) × (List V × Unit) × Unit) (k : V → Option β) : Option β := F β e.1.1 e.2.1.1 (fun y1 => k (.bool y1))
abbrev W42 (F : T42) : WT := wrap s42 (G42 F)
theorem k42 (F119 : T119) (β : Type) (e : argsT s42) (k : V → Option β) : fnK cfg (tabL [(119, W119 F119)]) X42 42 Tryz.f42 β (argsEnc s42 e) k = G42 (P42 F119 ) β e k := by kernel_rfl
theorem ok42 : FnOk D 42 (W42 F42) := fn_okW [(119, W119 F119)] X42 (fun _ => rfl) Tryz.func42 rfl (tabL_cons ok119 tabL_nil) (k42 F119 )

/-- laws.eqHidden -/
abbrev T12 : Type 1 := (β : Type) → Bool → List UInt8 → List UInt8 → Bool → List V → List V → List V → List UInt8 → List UInt8 → List V → Bool → List V → List V → List V → List V → List V → Int → Int → Int → Int → List V → List V → Bool → List V → List V → Int → Bool → List UInt8 → List UInt8 → Bool → List V → List V → List V → List UInt8 → List UInt8 → List V → Bool → List V → List V → List V → List V → List V → Int → Int → Int → Int → List V → List V → Bool → List V → List V → Int → (Bool → Option β) → Option β
def P12 (F22 : T22) (F42 : T42) (F43 : T43) : T12 := fun β a_Ready a_Page_Addr_Host a_Page_Addr_Path a_Page_Policy_Set a_Page_Policy_Scripts a_Page_Policy_Styles a_Page_Policy_Images a_Page_Policy_Nonce a_Page_Tok_Rest a_Page_Queue a_Page_Ended a_Page_Builder_Nodes a_Page_Builder_Open a_Page_Slots a_Page_Mods a_Page_Entries a_Page_Block a_Page_Inline a_Page_Deferred a_Page_Entered a_Page_Ran a_Page_Log a_Page_Loaded a_Taken a_Servers a_Now b_Ready b_Page_Addr_Host b_Page_Addr_Path b_Page_Policy_Set b_Page_Policy_Scripts b_Page_Policy_Styles b_Page_Policy_Images b_Page_Policy_Nonce b_Page_Tok_Rest b_Page_Queue b_Page_Ended b_Page_Builder_Nodes b_Page_Builder_Open b_Page_Slots b_Page_Mods b_Page_Entries b_Page_Block b_Page_Inline b_Page_Deferred b_Page_Entered b_Page_Ran b_Page_Log b_Page_Loaded b_Taken b_Servers b_Now k =>
 br (!(a_Ready == b_Ready)) (
 k false) (
 F22 _ a_Page_Addr_Host a_Page_Addr_Path a_Page_Policy_Set a_Page_Policy_Scripts a_Page_Policy_Styles a_Page_Policy_Images a_Page_Policy_Nonce a_Page_Tok_Rest a_Page_Queue a_Page_Ended a_Page_Builder_Nodes a_Page_Builder_Open a_Page_Slots a_Page_Mods a_Page_Entries a_Page_Block a_Page_Inline a_Page_Deferred a_Page_Entered a_Page_Ran a_Page_Log a_Page_Loaded b_Page_Addr_Host b_Page_Addr_Path b_Page_Policy_Set b_Page_Policy_Scripts b_Page_Policy_Styles b_Page_Policy_Images b_Page_Policy_Nonce b_Page_Tok_Rest b_Page_Queue b_Page_Ended b_Page_Builder_Nodes b_Page_Builder_Open b_Page_Slots b_Page_Mods b_Page_Entries b_Page_Block b_Page_Inline b_Page_Deferred b_Page_Entered b_Page_Ran b_Page_Log b_Page_Loaded fun b1 =>
 br (!b1) (
 k false) (
 F42 _ a_Taken b_Taken fun b2 =>
 br (!b2) (
 k false) (
 F43 _ a_Servers b_Servers fun b3 =>
 br (!b3) (
 k false) (
 br (a_Now != b_Now) (
 k false) (
 k true)))))
def F12 : T12 := P12 F22 F42 F43 
abbrev s12 : List (Bool × List CK) := [(true, [.bool, .str, .str, .bool, .sl 1 true, .sl 1 true, .sl 1 true, .str, .str, .sl 4 false, .bool, .sl 4 false, .sl 1 true, .sl 8 true, .sl 5 true, .sl 2 true, .int .i64, .int .i64, .int .i64, .int .i64, .sl 2 true, .sl 1 true, .bool, .sl 8 true, .sl 2 false, .int .i64]), (true, [.bool, .str, .str, .bool, .sl 1 true, .sl 1 true, .sl 1 true, .str, .str, .sl 4 false, .bool, .sl 4 false, .sl 1 true, .sl 8 true, .sl 5 true, .sl 2 true, .int .i64, .int .i64, .int .i64, .int .i64, .sl 2 true, .sl 1 true, .bool, .sl 8 true, .sl 2 false, .int .i64])]
def G12 (F : T12) (β : Type) (e : (Bool × List UInt8 × List UInt8 × Bool × List V × List V × List V × List UInt8 × List UInt8 × List V × Bool × List V × List V × List V × List V × List V × Int × Int × Int × Int × List V × List V × Bool × List V × List V × Int × Unit) × (Bool × List UInt8 × List UInt8 × Bool × List V × List V × List V × List UInt8 × List UInt8 × List V × Bool × List V × List V × List V × List V × List V × Int × Int × Int × Int × List V × List V × Bool × List V × List V × Int × Unit) × Unit) (k : V → Option β) : Option β := let a0_0 := e.1; let a0_1 := a0_0.2; let a0_2 := a0_1.2; let a0_3 := a0_2.2; let a0_4 := a0_3.2; let a0_5 := a0_4.2; let a0_6 := a0_5.2; let a0_7 := a0_6.2; let a0_8 := a0_7.2; let a0_9 := a0_8.2; let a0_10 := a0_9.2; let a0_11 := a0_10.2; let a0_12 := a0_11.2; let a0_13 := a0_12.2; let a0_14 := a0_13.2; let a0_15 := a0_14.2; let a0_16 := a0_15.2; let a0_17 := a0_16.2; let a0_18 := a0_17.2; let a0_19 := a0_18.2; let a0_20 := a0_19.2; let a0_21 := a0_20.2; let a0_22 := a0_21.2; let a0_23 := a0_22.2; let a0_24 := a0_23.2; let a0_25 := a0_24.2; let a1_0 := e.2.1; let a1_1 := a1_0.2; let a1_2 := a1_1.2; let a1_3 := a1_2.2; let a1_4 := a1_3.2; let a1_5 := a1_4.2; let a1_6 := a1_5.2; let a1_7 := a1_6.2; let a1_8 := a1_7.2; let a1_9 := a1_8.2; let a1_10 := a1_9.2; let a1_11 := a1_10.2; let a1_12 := a1_11.2; let a1_13 := a1_12.2; let a1_14 := a1_13.2; let a1_15 := a1_14.2; let a1_16 := a1_15.2; let a1_17 := a1_16.2; let a1_18 := a1_17.2; let a1_19 := a1_18.2; let a1_20 := a1_19.2; let a1_21 := a1_20.2; let a1_22 := a1_21.2; let a1_23 := a1_22.2; let a1_24 := a1_23.2; let a1_25 := a1_24.2; F β a0_0.1 a0_1.1 a0_2.1 a0_3.1 a0_4.1 a0_5.1 a0_6.1 a0_7.1 a0_8.1 a0_9.1 a0_10.1 a0_11.1 a0_12.1 a0_13.1 a0_14.1 a0_15.1 a0_16.1 a0_17.1 a0_18.1 a0_19.1 a0_20.1 a0_21.1 a0_22.1 a0_23.1 a0_24.1 a0_25.1 a1_0.1 a1_1.1 a1_2.1 a1_3.1 a1_4.1 a1_5.1 a1_6.1 a1_7.1 a1_8.1 a1_9.1 a1_10.1 a1_11.1 a1_12.1 a1_13.1 a1_14.1 a1_15.1 a1_16.1 a1_17.1 a1_18.1 a1_19.1 a1_20.1 a1_21.1 a1_22.1 a1_23.1 a1_24.1 a1_25.1 (fun y1 => k (.bool y1))
abbrev W12 (F : T12) : WT := wrap s12 (G12 F)
theorem k12 (F22 : T22) (F42 : T42) (F43 : T43) (β : Type) (e : argsT s12) (k : V → Option β) : fnK cfg (tabL [(22, W22 F22), (42, W42 F42), (43, W43 F43)]) noX 12 Tryz.f12 β (argsEnc s12 e) k = G12 (P12 F22 F42 F43 ) β e k := by kernel_rfl
theorem ok12 : FnOk D 12 (W12 F12) := fn_okW [(22, W22 F22), (42, W42 F42), (43, W43 F43)] noX (fun _ => rfl) Tryz.func12 rfl (tabL_cons ok22 (tabL_cons ok42 (tabL_cons ok43 tabL_nil))) (k12 F22 F42 F43 )

/-- laws.eqWorld -/
abbrev T32 : Type 1 := (β : Type) → List V → List V → List V → Int → List V → Int → Bool → List UInt8 → List UInt8 → Bool → List V → List V → List V → List UInt8 → List UInt8 → List V → Bool → List V → List V → List V → List V → List V → Int → Int → Int → Int → List V → List V → Bool → List V → List V → Int → Bool → List V → List V → List V → Int → List V → Int → Bool → List UInt8 → List UInt8 → Bool → List V → List V → List V → List UInt8 → List UInt8 → List V → Bool → List V → List V → List V → List V → List V → Int → Int → Int → Int → List V → List V → Bool → List V → List V → Int → Bool → (Bool → Option β) → Option β
def P32 (F17 : T17) (F27 : T27) (F12 : T12) : T32 := fun β a_Net_Servers a_Net_Cache_Entries a_Net_Log a_Net_Now a_Tab_Visits a_Tab_At a_Hidden_Ready a_Hidden_Page_Addr_Host a_Hidden_Page_Addr_Path a_Hidden_Page_Policy_Set a_Hidden_Page_Policy_Scripts a_Hidden_Page_Policy_Styles a_Hidden_Page_Policy_Images a_Hidden_Page_Policy_Nonce a_Hidden_Page_Tok_Rest a_Hidden_Page_Queue a_Hidden_Page_Ended a_Hidden_Page_Builder_Nodes a_Hidden_Page_Builder_Open a_Hidden_Page_Slots a_Hidden_Page_Mods a_Hidden_Page_Entries a_Hidden_Page_Block a_Hidden_Page_Inline a_Hidden_Page_Deferred a_Hidden_Page_Entered a_Hidden_Page_Ran a_Hidden_Page_Log a_Hidden_Page_Loaded a_Hidden_Taken a_Hidden_Servers a_Hidden_Now a_Fast b_Net_Servers b_Net_Cache_Entries b_Net_Log b_Net_Now b_Tab_Visits b_Tab_At b_Hidden_Ready b_Hidden_Page_Addr_Host b_Hidden_Page_Addr_Path b_Hidden_Page_Policy_Set b_Hidden_Page_Policy_Scripts b_Hidden_Page_Policy_Styles b_Hidden_Page_Policy_Images b_Hidden_Page_Policy_Nonce b_Hidden_Page_Tok_Rest b_Hidden_Page_Queue b_Hidden_Page_Ended b_Hidden_Page_Builder_Nodes b_Hidden_Page_Builder_Open b_Hidden_Page_Slots b_Hidden_Page_Mods b_Hidden_Page_Entries b_Hidden_Page_Block b_Hidden_Page_Inline b_Hidden_Page_Deferred b_Hidden_Page_Entered b_Hidden_Page_Ran b_Hidden_Page_Log b_Hidden_Page_Loaded b_Hidden_Taken b_Hidden_Servers b_Hidden_Now b_Fast k =>
 F17 _ a_Net_Servers a_Net_Cache_Entries a_Net_Log a_Net_Now b_Net_Servers b_Net_Cache_Entries b_Net_Log b_Net_Now fun b1 =>
 br (!b1) (
 k false) (
 F27 _ a_Tab_Visits a_Tab_At b_Tab_Visits b_Tab_At fun b2 =>
 br (!b2) (
 k false) (
 F12 _ a_Hidden_Ready a_Hidden_Page_Addr_Host a_Hidden_Page_Addr_Path a_Hidden_Page_Policy_Set a_Hidden_Page_Policy_Scripts a_Hidden_Page_Policy_Styles a_Hidden_Page_Policy_Images a_Hidden_Page_Policy_Nonce a_Hidden_Page_Tok_Rest a_Hidden_Page_Queue a_Hidden_Page_Ended a_Hidden_Page_Builder_Nodes a_Hidden_Page_Builder_Open a_Hidden_Page_Slots a_Hidden_Page_Mods a_Hidden_Page_Entries a_Hidden_Page_Block a_Hidden_Page_Inline a_Hidden_Page_Deferred a_Hidden_Page_Entered a_Hidden_Page_Ran a_Hidden_Page_Log a_Hidden_Page_Loaded a_Hidden_Taken a_Hidden_Servers a_Hidden_Now b_Hidden_Ready b_Hidden_Page_Addr_Host b_Hidden_Page_Addr_Path b_Hidden_Page_Policy_Set b_Hidden_Page_Policy_Scripts b_Hidden_Page_Policy_Styles b_Hidden_Page_Policy_Images b_Hidden_Page_Policy_Nonce b_Hidden_Page_Tok_Rest b_Hidden_Page_Queue b_Hidden_Page_Ended b_Hidden_Page_Builder_Nodes b_Hidden_Page_Builder_Open b_Hidden_Page_Slots b_Hidden_Page_Mods b_Hidden_Page_Entries b_Hidden_Page_Block b_Hidden_Page_Inline b_Hidden_Page_Deferred b_Hidden_Page_Entered b_Hidden_Page_Ran b_Hidden_Page_Log b_Hidden_Page_Loaded b_Hidden_Taken b_Hidden_Servers b_Hidden_Now fun b3 =>
 br (!b3) (
 k false) (
 br (!(a_Fast == b_Fast)) (
 k false) (
 k true))))
def F32 : T32 := P32 F17 F27 F12 
abbrev s32 : List (Bool × List CK) := [(true, [.sl 2 false, .sl 10 true, .sl 4 true, .int .i64, .sl 25 false, .int .i64, .bool, .str, .str, .bool, .sl 1 true, .sl 1 true, .sl 1 true, .str, .str, .sl 4 false, .bool, .sl 4 false, .sl 1 true, .sl 8 true, .sl 5 true, .sl 2 true, .int .i64, .int .i64, .int .i64, .int .i64, .sl 2 true, .sl 1 true, .bool, .sl 8 true, .sl 2 false, .int .i64, .bool]), (true, [.sl 2 false, .sl 10 true, .sl 4 true, .int .i64, .sl 25 false, .int .i64, .bool, .str, .str, .bool, .sl 1 true, .sl 1 true, .sl 1 true, .str, .str, .sl 4 false, .bool, .sl 4 false, .sl 1 true, .sl 8 true, .sl 5 true, .sl 2 true, .int .i64, .int .i64, .int .i64, .int .i64, .sl 2 true, .sl 1 true, .bool, .sl 8 true, .sl 2 false, .int .i64, .bool])]
def G32 (F : T32) (β : Type) (e : (List V × List V × List V × Int × List V × Int × Bool × List UInt8 × List UInt8 × Bool × List V × List V × List V × List UInt8 × List UInt8 × List V × Bool × List V × List V × List V × List V × List V × Int × Int × Int × Int × List V × List V × Bool × List V × List V × Int × Bool × Unit) × (List V × List V × List V × Int × List V × Int × Bool × List UInt8 × List UInt8 × Bool × List V × List V × List V × List UInt8 × List UInt8 × List V × Bool × List V × List V × List V × List V × List V × Int × Int × Int × Int × List V × List V × Bool × List V × List V × Int × Bool × Unit) × Unit) (k : V → Option β) : Option β := let a0_0 := e.1; let a0_1 := a0_0.2; let a0_2 := a0_1.2; let a0_3 := a0_2.2; let a0_4 := a0_3.2; let a0_5 := a0_4.2; let a0_6 := a0_5.2; let a0_7 := a0_6.2; let a0_8 := a0_7.2; let a0_9 := a0_8.2; let a0_10 := a0_9.2; let a0_11 := a0_10.2; let a0_12 := a0_11.2; let a0_13 := a0_12.2; let a0_14 := a0_13.2; let a0_15 := a0_14.2; let a0_16 := a0_15.2; let a0_17 := a0_16.2; let a0_18 := a0_17.2; let a0_19 := a0_18.2; let a0_20 := a0_19.2; let a0_21 := a0_20.2; let a0_22 := a0_21.2; let a0_23 := a0_22.2; let a0_24 := a0_23.2; let a0_25 := a0_24.2; let a0_26 := a0_25.2; let a0_27 := a0_26.2; let a0_28 := a0_27.2; let a0_29 := a0_28.2; let a0_30 := a0_29.2; let a0_31 := a0_30.2; let a0_32 := a0_31.2; let a1_0 := e.2.1; let a1_1 := a1_0.2; let a1_2 := a1_1.2; let a1_3 := a1_2.2; let a1_4 := a1_3.2; let a1_5 := a1_4.2; let a1_6 := a1_5.2; let a1_7 := a1_6.2; let a1_8 := a1_7.2; let a1_9 := a1_8.2; let a1_10 := a1_9.2; let a1_11 := a1_10.2; let a1_12 := a1_11.2; let a1_13 := a1_12.2; let a1_14 := a1_13.2; let a1_15 := a1_14.2; let a1_16 := a1_15.2; let a1_17 := a1_16.2; let a1_18 := a1_17.2; let a1_19 := a1_18.2; let a1_20 := a1_19.2; let a1_21 := a1_20.2; let a1_22 := a1_21.2; let a1_23 := a1_22.2; let a1_24 := a1_23.2; let a1_25 := a1_24.2; let a1_26 := a1_25.2; let a1_27 := a1_26.2; let a1_28 := a1_27.2; let a1_29 := a1_28.2; let a1_30 := a1_29.2; let a1_31 := a1_30.2; let a1_32 := a1_31.2; F β a0_0.1 a0_1.1 a0_2.1 a0_3.1 a0_4.1 a0_5.1 a0_6.1 a0_7.1 a0_8.1 a0_9.1 a0_10.1 a0_11.1 a0_12.1 a0_13.1 a0_14.1 a0_15.1 a0_16.1 a0_17.1 a0_18.1 a0_19.1 a0_20.1 a0_21.1 a0_22.1 a0_23.1 a0_24.1 a0_25.1 a0_26.1 a0_27.1 a0_28.1 a0_29.1 a0_30.1 a0_31.1 a0_32.1 a1_0.1 a1_1.1 a1_2.1 a1_3.1 a1_4.1 a1_5.1 a1_6.1 a1_7.1 a1_8.1 a1_9.1 a1_10.1 a1_11.1 a1_12.1 a1_13.1 a1_14.1 a1_15.1 a1_16.1 a1_17.1 a1_18.1 a1_19.1 a1_20.1 a1_21.1 a1_22.1 a1_23.1 a1_24.1 a1_25.1 a1_26.1 a1_27.1 a1_28.1 a1_29.1 a1_30.1 a1_31.1 a1_32.1 (fun y1 => k (.bool y1))
abbrev W32 (F : T32) : WT := wrap s32 (G32 F)
theorem k32 (F17 : T17) (F27 : T27) (F12 : T12) (β : Type) (e : argsT s32) (k : V → Option β) : fnK cfg (tabL [(17, W17 F17), (27, W27 F27), (12, W12 F12)]) noX 32 Tryz.f32 β (argsEnc s32 e) k = G32 (P32 F17 F27 F12 ) β e k := by kernel_rfl
theorem ok32 : FnOk D 32 (W32 F32) := fn_okW [(17, W17 F17), (27, W27 F27), (12, W12 F12)] noX (fun _ => rfl) Tryz.func32 rfl (tabL_cons ok17 (tabL_cons ok27 (tabL_cons ok12 tabL_nil))) (k32 F17 F27 F12 )

/-- laws.FnExactEqualWorlds -/
abbrev T7 : Type 1 := (β : Type) → List V → List V → List V → Int → List V → Int → Bool → List UInt8 → List UInt8 → Bool → List V → List V → List V → List UInt8 → List UInt8 → List V → Bool → List V → List V → List V → List V → List V → Int → Int → Int → Int → List V → List V → Bool → List V → List V → Int → Bool → List V → List V → List V → Int → List V → Int → Bool → List UInt8 → List UInt8 → Bool → List V → List V → List V → List UInt8 → List UInt8 → List V → Bool → List V → List V → List V → List V → List V → Int → Int → Int → Int → List V → List V → Bool → List V → List V → Int → Bool → (Bool → Option β) → Option β
def P7 (F28 : T28) (F30 : T30) (F29 : T29) (F31 : T31) (F32 : T32) : T7 := fun β aA_Net_Servers aA_Net_Cache_Entries aA_Net_Log aA_Net_Now aA_Tab_Visits aA_Tab_At aA_Hidden_Ready aA_Hidden_Page_Addr_Host aA_Hidden_Page_Addr_Path aA_Hidden_Page_Policy_Set aA_Hidden_Page_Policy_Scripts aA_Hidden_Page_Policy_Styles aA_Hidden_Page_Policy_Images aA_Hidden_Page_Policy_Nonce aA_Hidden_Page_Tok_Rest aA_Hidden_Page_Queue aA_Hidden_Page_Ended aA_Hidden_Page_Builder_Nodes aA_Hidden_Page_Builder_Open aA_Hidden_Page_Slots aA_Hidden_Page_Mods aA_Hidden_Page_Entries aA_Hidden_Page_Block aA_Hidden_Page_Inline aA_Hidden_Page_Deferred aA_Hidden_Page_Entered aA_Hidden_Page_Ran aA_Hidden_Page_Log aA_Hidden_Page_Loaded aA_Hidden_Taken aA_Hidden_Servers aA_Hidden_Now aA_Fast aB_Net_Servers aB_Net_Cache_Entries aB_Net_Log aB_Net_Now aB_Tab_Visits aB_Tab_At aB_Hidden_Ready aB_Hidden_Page_Addr_Host aB_Hidden_Page_Addr_Path aB_Hidden_Page_Policy_Set aB_Hidden_Page_Policy_Scripts aB_Hidden_Page_Policy_Styles aB_Hidden_Page_Policy_Images aB_Hidden_Page_Policy_Nonce aB_Hidden_Page_Tok_Rest aB_Hidden_Page_Queue aB_Hidden_Page_Ended aB_Hidden_Page_Builder_Nodes aB_Hidden_Page_Builder_Open aB_Hidden_Page_Slots aB_Hidden_Page_Mods aB_Hidden_Page_Entries aB_Hidden_Page_Block aB_Hidden_Page_Inline aB_Hidden_Page_Deferred aB_Hidden_Page_Entered aB_Hidden_Page_Ran aB_Hidden_Page_Log aB_Hidden_Page_Loaded aB_Hidden_Taken aB_Hidden_Servers aB_Hidden_Now aB_Fast k =>
 F28 _ aA_Net_Servers aA_Net_Cache_Entries aA_Net_Log aA_Net_Now aA_Tab_Visits aA_Tab_At aA_Hidden_Ready aA_Hidden_Page_Addr_Host aA_Hidden_Page_Addr_Path aA_Hidden_Page_Policy_Set aA_Hidden_Page_Policy_Scripts aA_Hidden_Page_Policy_Styles aA_Hidden_Page_Policy_Images aA_Hidden_Page_Policy_Nonce aA_Hidden_Page_Tok_Rest aA_Hidden_Page_Queue aA_Hidden_Page_Ended aA_Hidden_Page_Builder_Nodes aA_Hidden_Page_Builder_Open aA_Hidden_Page_Slots aA_Hidden_Page_Mods aA_Hidden_Page_Entries aA_Hidden_Page_Block aA_Hidden_Page_Inline aA_Hidden_Page_Deferred aA_Hidden_Page_Entered aA_Hidden_Page_Ran aA_Hidden_Page_Log aA_Hidden_Page_Loaded aA_Hidden_Taken aA_Hidden_Servers aA_Hidden_Now aA_Fast 1048576 fun n1 =>
 br (decide (n1 < 0)) (
 k true) (
 F28 _ aB_Net_Servers aB_Net_Cache_Entries aB_Net_Log aB_Net_Now aB_Tab_Visits aB_Tab_At aB_Hidden_Ready aB_Hidden_Page_Addr_Host aB_Hidden_Page_Addr_Path aB_Hidden_Page_Policy_Set aB_Hidden_Page_Policy_Scripts aB_Hidden_Page_Policy_Styles aB_Hidden_Page_Policy_Images aB_Hidden_Page_Policy_Nonce aB_Hidden_Page_Tok_Rest aB_Hidden_Page_Queue aB_Hidden_Page_Ended aB_Hidden_Page_Builder_Nodes aB_Hidden_Page_Builder_Open aB_Hidden_Page_Slots aB_Hidden_Page_Mods aB_Hidden_Page_Entries aB_Hidden_Page_Block aB_Hidden_Page_Inline aB_Hidden_Page_Deferred aB_Hidden_Page_Entered aB_Hidden_Page_Ran aB_Hidden_Page_Log aB_Hidden_Page_Loaded aB_Hidden_Taken aB_Hidden_Servers aB_Hidden_Now aB_Fast n1 fun n2 =>
 br (decide (n2 < 0)) (
 k true) (
 F30 _ aA_Net_Servers aA_Net_Cache_Entries aA_Net_Log aA_Net_Now aA_Tab_Visits aA_Tab_At aA_Hidden_Ready aA_Hidden_Page_Addr_Host aA_Hidden_Page_Addr_Path aA_Hidden_Page_Policy_Set aA_Hidden_Page_Policy_Scripts aA_Hidden_Page_Policy_Styles aA_Hidden_Page_Policy_Images aA_Hidden_Page_Policy_Nonce aA_Hidden_Page_Tok_Rest aA_Hidden_Page_Queue aA_Hidden_Page_Ended aA_Hidden_Page_Builder_Nodes aA_Hidden_Page_Builder_Open aA_Hidden_Page_Slots aA_Hidden_Page_Mods aA_Hidden_Page_Entries aA_Hidden_Page_Block aA_Hidden_Page_Inline aA_Hidden_Page_Deferred aA_Hidden_Page_Entered aA_Hidden_Page_Ran aA_Hidden_Page_Log aA_Hidden_Page_Loaded aA_Hidden_Taken aA_Hidden_Servers aA_Hidden_Now aA_Fast fun l3 l4 l5 n6 l7 n8 b9 t10 t11 b12 l13 l14 l15 t16 t17 l18 b19 l20 l21 l22 l23 l24 n25 n26 n27 n28 l29 l30 b31 l32 l33 n34 b35 =>
 F30 _ aB_Net_Servers aB_Net_Cache_Entries aB_Net_Log aB_Net_Now aB_Tab_Visits aB_Tab_At aB_Hidden_Ready aB_Hidden_Page_Addr_Host aB_Hidden_Page_Addr_Path aB_Hidden_Page_Policy_Set aB_Hidden_Page_Policy_Scripts aB_Hidden_Page_Policy_Styles aB_Hidden_Page_Policy_Images aB_Hidden_Page_Policy_Nonce aB_Hidden_Page_Tok_Rest aB_Hidden_Page_Queue aB_Hidden_Page_Ended aB_Hidden_Page_Builder_Nodes aB_Hidden_Page_Builder_Open aB_Hidden_Page_Slots aB_Hidden_Page_Mods aB_Hidden_Page_Entries aB_Hidden_Page_Block aB_Hidden_Page_Inline aB_Hidden_Page_Deferred aB_Hidden_Page_Entered aB_Hidden_Page_Ran aB_Hidden_Page_Log aB_Hidden_Page_Loaded aB_Hidden_Taken aB_Hidden_Servers aB_Hidden_Now aB_Fast fun l36 l37 l38 n39 l40 n41 b42 t43 t44 b45 l46 l47 l48 t49 t50 l51 b52 l53 l54 l55 l56 l57 n58 n59 n60 n61 l62 l63 b64 l65 l66 n67 b68 =>
 F29 _ l3 l4 l5 n6 l7 n8 b9 t10 t11 b12 l13 l14 l15 t16 t17 l18 b19 l20 l21 l22 l23 l24 n25 n26 n27 n28 l29 l30 b31 l32 l33 n34 b35 l36 l37 l38 n39 l40 n41 b42 t43 t44 b45 l46 l47 l48 t49 t50 l51 b52 l53 l54 l55 l56 l57 n58 n59 n60 n61 l62 l63 b64 l65 l66 n67 b68 fun b69 =>
 F30 _ aA_Net_Servers aA_Net_Cache_Entries aA_Net_Log aA_Net_Now aA_Tab_Visits aA_Tab_At aA_Hidden_Ready aA_Hidden_Page_Addr_Host aA_Hidden_Page_Addr_Path aA_Hidden_Page_Policy_Set aA_Hidden_Page_Policy_Scripts aA_Hidden_Page_Policy_Styles aA_Hidden_Page_Policy_Images aA_Hidden_Page_Policy_Nonce aA_Hidden_Page_Tok_Rest aA_Hidden_Page_Queue aA_Hidden_Page_Ended aA_Hidden_Page_Builder_Nodes aA_Hidden_Page_Builder_Open aA_Hidden_Page_Slots aA_Hidden_Page_Mods aA_Hidden_Page_Entries aA_Hidden_Page_Block aA_Hidden_Page_Inline aA_Hidden_Page_Deferred aA_Hidden_Page_Entered aA_Hidden_Page_Ran aA_Hidden_Page_Log aA_Hidden_Page_Loaded aA_Hidden_Taken aA_Hidden_Servers aA_Hidden_Now aA_Fast fun l70 l71 l72 n73 l74 n75 b76 t77 t78 b79 l80 l81 l82 t83 t84 l85 b86 l87 l88 l89 l90 l91 n92 n93 n94 n95 l96 l97 b98 l99 l100 n101 b102 =>
 F30 _ aB_Net_Servers aB_Net_Cache_Entries aB_Net_Log aB_Net_Now aB_Tab_Visits aB_Tab_At aB_Hidden_Ready aB_Hidden_Page_Addr_Host aB_Hidden_Page_Addr_Path aB_Hidden_Page_Policy_Set aB_Hidden_Page_Policy_Scripts aB_Hidden_Page_Policy_Styles aB_Hidden_Page_Policy_Images aB_Hidden_Page_Policy_Nonce aB_Hidden_Page_Tok_Rest aB_Hidden_Page_Queue aB_Hidden_Page_Ended aB_Hidden_Page_Builder_Nodes aB_Hidden_Page_Builder_Open aB_Hidden_Page_Slots aB_Hidden_Page_Mods aB_Hidden_Page_Entries aB_Hidden_Page_Block aB_Hidden_Page_Inline aB_Hidden_Page_Deferred aB_Hidden_Page_Entered aB_Hidden_Page_Ran aB_Hidden_Page_Log aB_Hidden_Page_Loaded aB_Hidden_Taken aB_Hidden_Servers aB_Hidden_Now aB_Fast fun l103 l104 l105 n106 l107 n108 b109 t110 t111 b112 l113 l114 l115 t116 t117 l118 b119 l120 l121 l122 l123 l124 n125 n126 n127 n128 l129 l130 b131 l132 l133 n134 b135 =>
 F31 _ l70 l71 l72 n73 l74 n75 b76 t77 t78 b79 l80 l81 l82 t83 t84 l85 b86 l87 l88 l89 l90 l91 n92 n93 n94 n95 l96 l97 b98 l99 l100 n101 b102 l103 l104 l105 n106 l107 n108 b109 t110 t111 b112 l113 l114 l115 t116 t117 l118 b119 l120 l121 l122 l123 l124 n125 n126 n127 n128 l129 l130 b131 l132 l133 n134 b135 fun b136 =>
 br (!(b136 == b69)) (
 k false) (
 F30 _ aA_Net_Servers aA_Net_Cache_Entries aA_Net_Log aA_Net_Now aA_Tab_Visits aA_Tab_At aA_Hidden_Ready aA_Hidden_Page_Addr_Host aA_Hidden_Page_Addr_Path aA_Hidden_Page_Policy_Set aA_Hidden_Page_Policy_Scripts aA_Hidden_Page_Policy_Styles aA_Hidden_Page_Policy_Images aA_Hidden_Page_Policy_Nonce aA_Hidden_Page_Tok_Rest aA_Hidden_Page_Queue aA_Hidden_Page_Ended aA_Hidden_Page_Builder_Nodes aA_Hidden_Page_Builder_Open aA_Hidden_Page_Slots aA_Hidden_Page_Mods aA_Hidden_Page_Entries aA_Hidden_Page_Block aA_Hidden_Page_Inline aA_Hidden_Page_Deferred aA_Hidden_Page_Entered aA_Hidden_Page_Ran aA_Hidden_Page_Log aA_Hidden_Page_Loaded aA_Hidden_Taken aA_Hidden_Servers aA_Hidden_Now aA_Fast fun l137 l138 l139 n140 l141 n142 b143 t144 t145 b146 l147 l148 l149 t150 t151 l152 b153 l154 l155 l156 l157 l158 n159 n160 n161 n162 l163 l164 b165 l166 l167 n168 b169 =>
 F32 _ l70 l71 l72 n73 l74 n75 b76 t77 t78 b79 l80 l81 l82 t83 t84 l85 b86 l87 l88 l89 l90 l91 n92 n93 n94 n95 l96 l97 b98 l99 l100 n101 b102 l137 l138 l139 n140 l141 n142 b143 t144 t145 b146 l147 l148 l149 t150 t151 l152 b153 l154 l155 l156 l157 l158 n159 n160 n161 n162 l163 l164 b165 l166 l167 n168 b169 fun b170 =>
 br (!b170) (
 k false) (
 F30 _ aB_Net_Servers aB_Net_Cache_Entries aB_Net_Log aB_Net_Now aB_Tab_Visits aB_Tab_At aB_Hidden_Ready aB_Hidden_Page_Addr_Host aB_Hidden_Page_Addr_Path aB_Hidden_Page_Policy_Set aB_Hidden_Page_Policy_Scripts aB_Hidden_Page_Policy_Styles aB_Hidden_Page_Policy_Images aB_Hidden_Page_Policy_Nonce aB_Hidden_Page_Tok_Rest aB_Hidden_Page_Queue aB_Hidden_Page_Ended aB_Hidden_Page_Builder_Nodes aB_Hidden_Page_Builder_Open aB_Hidden_Page_Slots aB_Hidden_Page_Mods aB_Hidden_Page_Entries aB_Hidden_Page_Block aB_Hidden_Page_Inline aB_Hidden_Page_Deferred aB_Hidden_Page_Entered aB_Hidden_Page_Ran aB_Hidden_Page_Log aB_Hidden_Page_Loaded aB_Hidden_Taken aB_Hidden_Servers aB_Hidden_Now aB_Fast fun l171 l172 l173 n174 l175 n176 b177 t178 t179 b180 l181 l182 l183 t184 t185 l186 b187 l188 l189 l190 l191 l192 n193 n194 n195 n196 l197 l198 b199 l200 l201 n202 b203 =>
 F32 _ l103 l104 l105 n106 l107 n108 b109 t110 t111 b112 l113 l114 l115 t116 t117 l118 b119 l120 l121 l122 l123 l124 n125 n126 n127 n128 l129 l130 b131 l132 l133 n134 b135 l171 l172 l173 n174 l175 n176 b177 t178 t179 b180 l181 l182 l183 t184 t185 l186 b187 l188 l189 l190 l191 l192 n193 n194 n195 n196 l197 l198 b199 l200 l201 n202 b203 fun b204 =>
 br (!b204) (
 k false) (
 k true)))))
def F7 : T7 := P7 F28 F30 F29 F31 F32 
abbrev s7 : List (Bool × List CK) := [(true, [.sl 2 false, .sl 10 true, .sl 4 true, .int .i64, .sl 25 false, .int .i64, .bool, .str, .str, .bool, .sl 1 true, .sl 1 true, .sl 1 true, .str, .str, .sl 4 false, .bool, .sl 4 false, .sl 1 true, .sl 8 true, .sl 5 true, .sl 2 true, .int .i64, .int .i64, .int .i64, .int .i64, .sl 2 true, .sl 1 true, .bool, .sl 8 true, .sl 2 false, .int .i64, .bool]), (true, [.sl 2 false, .sl 10 true, .sl 4 true, .int .i64, .sl 25 false, .int .i64, .bool, .str, .str, .bool, .sl 1 true, .sl 1 true, .sl 1 true, .str, .str, .sl 4 false, .bool, .sl 4 false, .sl 1 true, .sl 8 true, .sl 5 true, .sl 2 true, .int .i64, .int .i64, .int .i64, .int .i64, .sl 2 true, .sl 1 true, .bool, .sl 8 true, .sl 2 false, .int .i64, .bool])]
def G7 (F : T7) (β : Type) (e : (List V × List V × List V × Int × List V × Int × Bool × List UInt8 × List UInt8 × Bool × List V × List V × List V × List UInt8 × List UInt8 × List V × Bool × List V × List V × List V × List V × List V × Int × Int × Int × Int × List V × List V × Bool × List V × List V × Int × Bool × Unit) × (List V × List V × List V × Int × List V × Int × Bool × List UInt8 × List UInt8 × Bool × List V × List V × List V × List UInt8 × List UInt8 × List V × Bool × List V × List V × List V × List V × List V × Int × Int × Int × Int × List V × List V × Bool × List V × List V × Int × Bool × Unit) × Unit) (k : V → Option β) : Option β := let a0_0 := e.1; let a0_1 := a0_0.2; let a0_2 := a0_1.2; let a0_3 := a0_2.2; let a0_4 := a0_3.2; let a0_5 := a0_4.2; let a0_6 := a0_5.2; let a0_7 := a0_6.2; let a0_8 := a0_7.2; let a0_9 := a0_8.2; let a0_10 := a0_9.2; let a0_11 := a0_10.2; let a0_12 := a0_11.2; let a0_13 := a0_12.2; let a0_14 := a0_13.2; let a0_15 := a0_14.2; let a0_16 := a0_15.2; let a0_17 := a0_16.2; let a0_18 := a0_17.2; let a0_19 := a0_18.2; let a0_20 := a0_19.2; let a0_21 := a0_20.2; let a0_22 := a0_21.2; let a0_23 := a0_22.2; let a0_24 := a0_23.2; let a0_25 := a0_24.2; let a0_26 := a0_25.2; let a0_27 := a0_26.2; let a0_28 := a0_27.2; let a0_29 := a0_28.2; let a0_30 := a0_29.2; let a0_31 := a0_30.2; let a0_32 := a0_31.2; let a1_0 := e.2.1; let a1_1 := a1_0.2; let a1_2 := a1_1.2; let a1_3 := a1_2.2; let a1_4 := a1_3.2; let a1_5 := a1_4.2; let a1_6 := a1_5.2; let a1_7 := a1_6.2; let a1_8 := a1_7.2; let a1_9 := a1_8.2; let a1_10 := a1_9.2; let a1_11 := a1_10.2; let a1_12 := a1_11.2; let a1_13 := a1_12.2; let a1_14 := a1_13.2; let a1_15 := a1_14.2; let a1_16 := a1_15.2; let a1_17 := a1_16.2; let a1_18 := a1_17.2; let a1_19 := a1_18.2; let a1_20 := a1_19.2; let a1_21 := a1_20.2; let a1_22 := a1_21.2; let a1_23 := a1_22.2; let a1_24 := a1_23.2; let a1_25 := a1_24.2; let a1_26 := a1_25.2; let a1_27 := a1_26.2; let a1_28 := a1_27.2; let a1_29 := a1_28.2; let a1_30 := a1_29.2; let a1_31 := a1_30.2; let a1_32 := a1_31.2; F β a0_0.1 a0_1.1 a0_2.1 a0_3.1 a0_4.1 a0_5.1 a0_6.1 a0_7.1 a0_8.1 a0_9.1 a0_10.1 a0_11.1 a0_12.1 a0_13.1 a0_14.1 a0_15.1 a0_16.1 a0_17.1 a0_18.1 a0_19.1 a0_20.1 a0_21.1 a0_22.1 a0_23.1 a0_24.1 a0_25.1 a0_26.1 a0_27.1 a0_28.1 a0_29.1 a0_30.1 a0_31.1 a0_32.1 a1_0.1 a1_1.1 a1_2.1 a1_3.1 a1_4.1 a1_5.1 a1_6.1 a1_7.1 a1_8.1 a1_9.1 a1_10.1 a1_11.1 a1_12.1 a1_13.1 a1_14.1 a1_15.1 a1_16.1 a1_17.1 a1_18.1 a1_19.1 a1_20.1 a1_21.1 a1_22.1 a1_23.1 a1_24.1 a1_25.1 a1_26.1 a1_27.1 a1_28.1 a1_29.1 a1_30.1 a1_31.1 a1_32.1 (fun y1 => k (.bool y1))
abbrev W7 (F : T7) : WT := wrap s7 (G7 F)
theorem k7 (F28 : T28) (F30 : T30) (F29 : T29) (F31 : T31) (F32 : T32) (β : Type) (e : argsT s7) (k : V → Option β) : fnK cfg (tabL [(28, W28 F28), (30, W30 F30), (29, W29 F29), (31, W31 F31), (32, W32 F32)]) noX 7 Tryz.f7 β (argsEnc s7 e) k = G7 (P7 F28 F30 F29 F31 F32 ) β e k := by kernel_rfl
theorem ok7 : FnOk D 7 (W7 F7) := fn_okW [(28, W28 F28), (30, W30 F30), (29, W29 F29), (31, W31 F31), (32, W32 F32)] noX (fun _ => rfl) Tryz.func7 rfl (tabL_cons ok28 (tabL_cons ok30 (tabL_cons ok29 (tabL_cons ok31 (tabL_cons ok32 tabL_nil))))) (k7 F28 F30 F29 F31 F32 )
end
end Go.Am

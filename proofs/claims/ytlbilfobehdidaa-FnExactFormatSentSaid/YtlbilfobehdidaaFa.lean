/-
  Functions of the program, extracted by program (sym.py) out of their code: what each computes, and, by the kernel's reckoning, that the machine's looking form computes just that; so what the machine answers.
-/
import Derived.Test.YtlbilfobehdidaaAmCfg
import Derived.Test.YtlbilfobehdidaaAmEvOk2
import Derived.KernelRfl
set_option maxRecDepth 10000
set_option linter.unusedVariables false
namespace Go.Am
open Go Go.Proofs
def ext0 : Nat → List V → Option V := fun _ _ => none
noncomputable abbrev D : Nat → List V → Option V := den Try.prog cfg ext0
/-- laws.szAddr -/
abbrev T12 : Type 1 := (β : Type) → List UInt8 → List UInt8 → Int → (Int → Option β) → Option β
noncomputable def P12 : T12 := fun β a_Host a_Path left k =>
  br (decide (IntKind.wrap .i64 (left - (a_Host.length : Int)) < 0)) (
    k (-1)) (
    br (decide (IntKind.wrap .i64 ((IntKind.wrap .i64 (left - (a_Host.length : Int))) - (a_Path.length : Int)) < 0)) (
      k (-1)) (
      k (IntKind.wrap .i64 ((IntKind.wrap .i64 (left - (a_Host.length : Int))) - (a_Path.length : Int)))))
noncomputable def F12 : T12 := P12 
abbrev s12 : List (Bool × List CK) := [(true, [.str, .str]), (false, [.int .i64])]
noncomputable def G12 (F : T12) (β : Type) (e : (List UInt8 × List UInt8 × Unit) × (Int × Unit) × Unit) (k : V → Option β) : Option β := F β e.1.1 e.1.2.1 e.2.1.1 (fun y1 => k (.int .i64 y1))
noncomputable abbrev W12 (F : T12) : (β : Type) → List V → (V → Option β) → Option β := wrap s12 (G12 F)
theorem k12 (β : Type) (e : argsT s12) (k : V → Option β) : fnK cfg (tabL []) noX 12 Try.f12 β (argsEnc s12 e) k = G12 (P12 ) β e k := by kernel_rfl
theorem ok12 : FnOk D 12 (W12 F12) := fn_okW [] noX (fun _ => rfl) Try.func12 rfl (tabL_nil) (k12 )

/-- laws.toAddr -/
abbrev T14 : Type 1 := (β : Type) → List UInt8 → List UInt8 → (List UInt8 → List UInt8 → Option β) → Option β
noncomputable def P14 : T14 := fun β a_Host a_Path k =>
  k a_Host a_Path
noncomputable def F14 : T14 := P14 
abbrev s14 : List (Bool × List CK) := [(true, [.str, .str])]
noncomputable def G14 (F : T14) (β : Type) (e : (List UInt8 × List UInt8 × Unit) × Unit) (k : V → Option β) : Option β := F β e.1.1 e.1.2.1 (fun y1 y2 => k (.agg [.str y1, .str y2]))
noncomputable abbrev W14 (F : T14) : (β : Type) → List V → (V → Option β) → Option β := wrap s14 (G14 F)
theorem k14 (β : Type) (e : argsT s14) (k : V → Option β) : fnK cfg (tabL []) noX 14 Try.f14 β (argsEnc s14 e) k = G14 (P14 ) β e k := by kernel_rfl
theorem ok14 : FnOk D 14 (W14 F14) := fn_okW [] noX (fun _ => rfl) Try.func14 rfl (tabL_nil) (k14 )

/-- spec.l1In -/
abbrev T35 : Type 1 := (β : Type) → Int → Int → Int → (Bool → Option β) → Option β
noncomputable def P35 : T35 := fun β x least most k =>
  br (decide (x ≥ least)) (
    k (decide (x ≤ most))) (
    k false)
noncomputable def F35 : T35 := P35 
abbrev s35 : List (Bool × List CK) := [(false, [.int .i64]), (false, [.int .i64]), (false, [.int .i64])]
noncomputable def G35 (F : T35) (β : Type) (e : (Int × Unit) × (Int × Unit) × (Int × Unit) × Unit) (k : V → Option β) : Option β := F β e.1.1 e.2.1.1 e.2.2.1.1 (fun y1 => k (.bool y1))
noncomputable abbrev W35 (F : T35) : (β : Type) → List V → (V → Option β) → Option β := wrap s35 (G35 F)
theorem k35 (β : Type) (e : argsT s35) (k : V → Option β) : fnK cfg (tabL []) noX 35 Try.f35 β (argsEnc s35 e) k = G35 (P35 ) β e k := by kernel_rfl
theorem ok35 : FnOk D 35 (W35 F35) := fn_okW [] noX (fun _ => rfl) Try.func35 rfl (tabL_nil) (k35 )

/-- spec.IsName -/
abbrev T47 : Type 1 := (β : Type) → List UInt8 → (Bool → Option β) → Option β
noncomputable def P47 (F35 : T35) : T47 := fun β s k =>
  whileK (fun s1 =>
    br (decide ((lI s1 1) < ((lS s1 0).length : Int))) (
      idxS (lS s1 0) (lI s1 1) fun b2 =>
      br (decide (b2 < 97)) (
        some (.inr (0, [.s (lS s1 0), .b false]))) (
        idxS (lS s1 0) (lI s1 1) fun b3 =>
        br (decide (b3 > 122)) (
          some (.inr (0, [.s (lS s1 0), .b false]))) (
          some (.inl [.s (lS s1 0), .i (IntKind.wrap .i64 ((lI s1 1) + 1))])))) (
      some (.inr (1, [.s (lS s1 0)])))) [.s s, .i 0] fun (r4 : Nat × List Leaf) =>
  if r4.1 = 0 then
    k (lB r4.2 1)
  else
    F35 _ ((lS r4.2 0).length : Int) 1 8 fun b5 =>
    k b5
noncomputable def F47 : T47 := P47 F35 
def X47 : Exits := fun i => lookN i [] [(2, [(.ret, xk 23 [(0, .str []), (2, .bool false)] []), (.exit 0, xk 23 [(0, .str [])] [])])]
abbrev s47 : List (Bool × List CK) := [(false, [.str])]
noncomputable def G47 (F : T47) (β : Type) (e : (List UInt8 × Unit) × Unit) (k : V → Option β) : Option β := F β e.1.1 (fun y1 => k (.bool y1))
noncomputable abbrev W47 (F : T47) : (β : Type) → List V → (V → Option β) → Option β := wrap s47 (G47 F)
theorem k47 (F35 : T35) (β : Type) (e : argsT s47) (k : V → Option β) : fnK cfg (tabL [(35, W35 F35)]) X47 47 Try.f47 β (argsEnc s47 e) k = G47 (P47 F35 ) β e k := by kernel_rfl
theorem ok47 : FnOk D 47 (W47 F47) := fn_okW [(35, W35 F35)] X47 (fun _ => rfl) Try.func47 rfl (tabL_cons ok35 tabL_nil) (k47 F35 )

/-- spec.IsAddr -/
abbrev T37 : Type 1 := (β : Type) → List UInt8 → List UInt8 → (Bool → Option β) → Option β
noncomputable def P37 (F47 : T47) : T37 := fun β a_Host a_Path k =>
  F47 _ a_Host fun b1 =>
  br b1 (
    F47 _ a_Path fun b2 =>
    k b2) (
    k false)
noncomputable def F37 : T37 := P37 F47 
abbrev s37 : List (Bool × List CK) := [(true, [.str, .str])]
noncomputable def G37 (F : T37) (β : Type) (e : (List UInt8 × List UInt8 × Unit) × Unit) (k : V → Option β) : Option β := F β e.1.1 e.1.2.1 (fun y1 => k (.bool y1))
noncomputable abbrev W37 (F : T37) : (β : Type) → List V → (V → Option β) → Option β := wrap s37 (G37 F)
theorem k37 (F47 : T47) (β : Type) (e : argsT s37) (k : V → Option β) : fnK cfg (tabL [(47, W47 F47)]) noX 37 Try.f37 β (argsEnc s37 e) k = G37 (P37 F47 ) β e k := by kernel_rfl
theorem ok37 : FnOk D 37 (W37 F37) := fn_okW [(47, W47 F47)] noX (fun _ => rfl) Try.func37 rfl (tabL_cons ok47 tabL_nil) (k37 F47 )

/-- spec.CanPrepare -/
abbrev T13 : Type 1 := (β : Type) → List UInt8 → List UInt8 → List UInt8 → (Bool → Option β) → Option β
noncomputable def P13 (F37 : T37) : T13 := fun β top a_Host a_Path k =>
  F37 _ a_Host a_Path fun b1 =>
  br b1 (
    k (a_Host == top)) (
    k false)
noncomputable def F13 : T13 := P13 F37 
abbrev s13 : List (Bool × List CK) := [(false, [.str]), (true, [.str, .str])]
noncomputable def G13 (F : T13) (β : Type) (e : (List UInt8 × Unit) × (List UInt8 × List UInt8 × Unit) × Unit) (k : V → Option β) : Option β := F β e.1.1 e.2.1.1 e.2.1.2.1 (fun y1 => k (.bool y1))
noncomputable abbrev W13 (F : T13) : (β : Type) → List V → (V → Option β) → Option β := wrap s13 (G13 F)
theorem k13 (F37 : T37) (β : Type) (e : argsT s13) (k : V → Option β) : fnK cfg (tabL [(37, W37 F37)]) noX 13 Try.f13 β (argsEnc s13 e) k = G13 (P13 F37 ) β e k := by kernel_rfl
theorem ok13 : FnOk D 13 (W13 F13) := fn_okW [(37, W37 F37)] noX (fun _ => rfl) Try.func13 rfl (tabL_cons ok37 tabL_nil) (k13 F37 )

/-- impl.InRange -/
abbrev T36 : Type 1 := (β : Type) → Int → Int → Int → (Bool → Option β) → Option β
noncomputable def P36 : T36 := fun β n low high k =>
  br (decide (low ≤ n)) (
    k (decide (n ≤ high))) (
    k false)
noncomputable def F36 : T36 := P36 
abbrev s36 : List (Bool × List CK) := [(false, [.int .i64]), (false, [.int .i64]), (false, [.int .i64])]
noncomputable def G36 (F : T36) (β : Type) (e : (Int × Unit) × (Int × Unit) × (Int × Unit) × Unit) (k : V → Option β) : Option β := F β e.1.1 e.2.1.1 e.2.2.1.1 (fun y1 => k (.bool y1))
noncomputable abbrev W36 (F : T36) : (β : Type) → List V → (V → Option β) → Option β := wrap s36 (G36 F)
theorem k36 (β : Type) (e : argsT s36) (k : V → Option β) : fnK cfg (tabL []) noX 36 Try.f36 β (argsEnc s36 e) k = G36 (P36 ) β e k := by kernel_rfl
theorem ok36 : FnOk D 36 (W36 F36) := fn_okW [] noX (fun _ => rfl) Try.func36 rfl (tabL_nil) (k36 )

/-- impl.IsName -/
abbrev T48 : Type 1 := (β : Type) → List UInt8 → (Bool → Option β) → Option β
noncomputable def P48 (F36 : T36) : T48 := fun β s k =>
  whileK (fun s1 =>
    br (decide ((lI s1 1) < ((lS s1 0).length : Int))) (
      idxS (lS s1 0) (lI s1 1) fun b2 =>
      br (decide (b2 < 97)) (
        some (.inr (0, [.s (lS s1 0), .b false]))) (
        idxS (lS s1 0) (lI s1 1) fun b3 =>
        br (decide (b3 > 122)) (
          some (.inr (0, [.s (lS s1 0), .b false]))) (
          some (.inl [.s (lS s1 0), .i (IntKind.wrap .i64 ((lI s1 1) + 1))])))) (
      some (.inr (1, [.s (lS s1 0)])))) [.s s, .i 0] fun (r4 : Nat × List Leaf) =>
  if r4.1 = 0 then
    k (lB r4.2 1)
  else
    F36 _ ((lS r4.2 0).length : Int) 1 8 fun b5 =>
    k b5
noncomputable def F48 : T48 := P48 F36 
def X48 : Exits := fun i => lookN i [] [(2, [(.ret, xk 23 [(0, .str []), (2, .bool false)] []), (.exit 0, xk 23 [(0, .str [])] [])])]
abbrev s48 : List (Bool × List CK) := [(false, [.str])]
noncomputable def G48 (F : T48) (β : Type) (e : (List UInt8 × Unit) × Unit) (k : V → Option β) : Option β := F β e.1.1 (fun y1 => k (.bool y1))
noncomputable abbrev W48 (F : T48) : (β : Type) → List V → (V → Option β) → Option β := wrap s48 (G48 F)
theorem k48 (F36 : T36) (β : Type) (e : argsT s48) (k : V → Option β) : fnK cfg (tabL [(36, W36 F36)]) X48 48 Try.f48 β (argsEnc s48 e) k = G48 (P48 F36 ) β e k := by kernel_rfl
theorem ok48 : FnOk D 48 (W48 F48) := fn_okW [(36, W36 F36)] X48 (fun _ => rfl) Try.func48 rfl (tabL_cons ok36 tabL_nil) (k48 F36 )

/-- impl.IsAddr -/
abbrev T38 : Type 1 := (β : Type) → List UInt8 → List UInt8 → (Bool → Option β) → Option β
noncomputable def P38 (F48 : T48) : T38 := fun β a_Host a_Path k =>
  F48 _ a_Host fun b1 =>
  br b1 (
    F48 _ a_Path fun b2 =>
    k b2) (
    k false)
noncomputable def F38 : T38 := P38 F48 
abbrev s38 : List (Bool × List CK) := [(true, [.str, .str])]
noncomputable def G38 (F : T38) (β : Type) (e : (List UInt8 × List UInt8 × Unit) × Unit) (k : V → Option β) : Option β := F β e.1.1 e.1.2.1 (fun y1 => k (.bool y1))
noncomputable abbrev W38 (F : T38) : (β : Type) → List V → (V → Option β) → Option β := wrap s38 (G38 F)
theorem k38 (F48 : T48) (β : Type) (e : argsT s38) (k : V → Option β) : fnK cfg (tabL [(48, W48 F48)]) noX 38 Try.f38 β (argsEnc s38 e) k = G38 (P38 F48 ) β e k := by kernel_rfl
theorem ok38 : FnOk D 38 (W38 F38) := fn_okW [(48, W48 F48)] noX (fun _ => rfl) Try.func38 rfl (tabL_cons ok48 tabL_nil) (k38 F48 )

/-- impl.CanPrepare -/
abbrev T15 : Type 1 := (β : Type) → List UInt8 → List UInt8 → List UInt8 → (Bool → Option β) → Option β
noncomputable def P15 (F38 : T38) : T15 := fun β top a_Host a_Path k =>
  F38 _ a_Host a_Path fun b1 =>
  br b1 (
    k (a_Host == top)) (
    k false)
noncomputable def F15 : T15 := P15 F38 
abbrev s15 : List (Bool × List CK) := [(false, [.str]), (true, [.str, .str])]
noncomputable def G15 (F : T15) (β : Type) (e : (List UInt8 × Unit) × (List UInt8 × List UInt8 × Unit) × Unit) (k : V → Option β) : Option β := F β e.1.1 e.2.1.1 e.2.1.2.1 (fun y1 => k (.bool y1))
noncomputable abbrev W15 (F : T15) : (β : Type) → List V → (V → Option β) → Option β := wrap s15 (G15 F)
theorem k15 (F38 : T38) (β : Type) (e : argsT s15) (k : V → Option β) : fnK cfg (tabL [(38, W38 F38)]) noX 15 Try.f15 β (argsEnc s15 e) k = G15 (P15 F38 ) β e k := by kernel_rfl
theorem ok15 : FnOk D 15 (W15 F15) := fn_okW [(38, W38 F38)] noX (fun _ => rfl) Try.func15 rfl (tabL_cons ok38 tabL_nil) (k15 F38 )

/-- laws.FnExactCanPrepare -/
abbrev T4 : Type 1 := (β : Type) → List UInt8 → List UInt8 → List UInt8 → (Bool → Option β) → Option β
noncomputable def P4 (F12 : T12) (F14 : T14) (F13 : T13) (F15 : T15) : T4 := fun β aTop aA_Host aA_Path k =>
  br (decide ((aTop.length : Int) > 1048576)) (
    k true) (
    F12 _ aA_Host aA_Path 1048576 fun n1 =>
    br (decide (n1 < 0)) (
      k true) (
      F14 _ aA_Host aA_Path fun t2 t3 =>
      F13 _ aTop t2 t3 fun b4 =>
      F14 _ aA_Host aA_Path fun t5 t6 =>
      F15 _ aTop t5 t6 fun b7 =>
      br (!(b7 == b4)) (
        k false) (
        k true)))
noncomputable def F4 : T4 := P4 F12 F14 F13 F15 
abbrev s4 : List (Bool × List CK) := [(false, [.str]), (true, [.str, .str])]
noncomputable def G4 (F : T4) (β : Type) (e : (List UInt8 × Unit) × (List UInt8 × List UInt8 × Unit) × Unit) (k : V → Option β) : Option β := F β e.1.1 e.2.1.1 e.2.1.2.1 (fun y1 => k (.bool y1))
noncomputable abbrev W4 (F : T4) : (β : Type) → List V → (V → Option β) → Option β := wrap s4 (G4 F)
theorem k4 (F12 : T12) (F14 : T14) (F13 : T13) (F15 : T15) (β : Type) (e : argsT s4) (k : V → Option β) : fnK cfg (tabL [(12, W12 F12), (14, W14 F14), (13, W13 F13), (15, W15 F15)]) noX 4 Try.f4 β (argsEnc s4 e) k = G4 (P4 F12 F14 F13 F15 ) β e k := by kernel_rfl
theorem ok4 : FnOk D 4 (W4 F4) := fn_okW [(12, W12 F12), (14, W14 F14), (13, W13 F13), (15, W15 F15)] noX (fun _ => rfl) Try.func4 rfl (tabL_cons ok12 (tabL_cons ok14 (tabL_cons ok13 (tabL_cons ok15 tabL_nil)))) (k4 F12 F14 F13 F15 )

/-- spec.NotFound -/
abbrev T39 : Type 1 := (β : Type) → (Int → Int → List UInt8 → Int → Bool → List UInt8 → Option β) → Option β
noncomputable def P39 : T39 := fun β  k =>
  k 404 1 [] 0 false []
noncomputable def F39 : T39 := P39 
abbrev s39 : List (Bool × List CK) := []
noncomputable def G39 (F : T39) (β : Type) (e : Unit) (k : V → Option β) : Option β := F β  (fun y1 y2 y3 y4 y5 y6 => k (.agg [.int .i64 y1, .int .i64 y2, .str y3, .int .i64 y4, .bool y5, .str y6]))
noncomputable abbrev W39 (F : T39) : (β : Type) → List V → (V → Option β) → Option β := wrap s39 (G39 F)
theorem k39 (β : Type) (e : argsT s39) (k : V → Option β) : fnK cfg (tabL []) noX 39 Try.f39 β (argsEnc s39 e) k = G39 (P39 ) β e k := by kernel_rfl
theorem ok39 : FnOk D 39 (W39 F39) := fn_okW [] noX (fun _ => rfl) Try.func39 rfl (tabL_nil) (k39 )

/-- spec.FileOf -/
abbrev T16 : Type 1 := (β : Type) → Int → (Int → Int → List UInt8 → Int → Bool → List UInt8 → Option β) → Option β
noncomputable def P16 (F35 : T35) (F39 : T39) : T16 := fun β n k =>
  F35 _ n 0 5 fun b1 =>
  br (!b1) (
    F39 _  fun n2 n3 t4 n5 b6 t7 =>
    k n2 n3 t4 n5 b6 t7) (
    chk (0 ≤ n ∧ n.toNat < ([.int .i64 1, .int .i64 2, .int .i64 3, .int .i64 4, .int .i64 5, .int .i64 2] : List V).length) <|
    idxAt [.int .i64] [.int .i64 1, .int .i64 2, .int .i64 3, .int .i64 4, .int .i64 5, .int .i64 2] n.toNat 0 fun (e8 : Int × Unit) =>
    chk (0 ≤ n ∧ n.toNat < ([.str [60, 112, 62, 110, 101, 119, 60, 47, 112, 62, 60, 115, 99, 114, 105, 112, 116, 32, 115, 114, 99, 61, 97, 112, 112, 62, 60, 47, 115, 99, 114, 105, 112, 116, 62], .str [115, 97, 121, 32, 110, 101, 119, 59, 119, 114, 105, 116, 101, 32, 91, 98, 93], .str [112, 58, 57, 59, 98, 58, 56], .str [100, 111, 116, 115], .str [105, 109, 112, 111, 114, 116, 32, 117, 116, 105, 108, 59, 115, 97, 121, 32, 110, 101, 119], .str [115, 97, 121, 32, 97, 103, 97, 105, 110]] : List V).length) <|
    idxAt [.str] [.str [60, 112, 62, 110, 101, 119, 60, 47, 112, 62, 60, 115, 99, 114, 105, 112, 116, 32, 115, 114, 99, 61, 97, 112, 112, 62, 60, 47, 115, 99, 114, 105, 112, 116, 62], .str [115, 97, 121, 32, 110, 101, 119, 59, 119, 114, 105, 116, 101, 32, 91, 98, 93], .str [112, 58, 57, 59, 98, 58, 56], .str [100, 111, 116, 115], .str [105, 109, 112, 111, 114, 116, 32, 117, 116, 105, 108, 59, 115, 97, 121, 32, 110, 101, 119], .str [115, 97, 121, 32, 97, 103, 97, 105, 110]] n.toNat 0 fun (e9 : List UInt8 × Unit) =>
    k 200 e8.1 e9.1 10 (n == 4) [])
noncomputable def F16 : T16 := P16 F35 F39 
abbrev s16 : List (Bool × List CK) := [(false, [.int .i64])]
noncomputable def G16 (F : T16) (β : Type) (e : (Int × Unit) × Unit) (k : V → Option β) : Option β := F β e.1.1 (fun y1 y2 y3 y4 y5 y6 => k (.agg [.int .i64 y1, .int .i64 y2, .str y3, .int .i64 y4, .bool y5, .str y6]))
noncomputable abbrev W16 (F : T16) : (β : Type) → List V → (V → Option β) → Option β := wrap s16 (G16 F)
theorem k16 (F35 : T35) (F39 : T39) (β : Type) (e : argsT s16) (k : V → Option β) : fnK cfg (tabL [(35, W35 F35), (39, W39 F39)]) noX 16 Try.f16 β (argsEnc s16 e) k = G16 (P16 F35 F39 ) β e k := by kernel_rfl
theorem ok16 : FnOk D 16 (W16 F16) := fn_okW [(35, W35 F35), (39, W39 F39)] noX (fun _ => rfl) Try.func16 rfl (tabL_cons ok35 (tabL_cons ok39 tabL_nil)) (k16 F35 F39 )

/-- impl.NotFound -/
abbrev T40 : Type 1 := (β : Type) → (Int → Int → List UInt8 → Int → Bool → List UInt8 → Option β) → Option β
noncomputable def P40 : T40 := fun β  k =>
  k 404 1 [] 0 false []
noncomputable def F40 : T40 := P40 
abbrev s40 : List (Bool × List CK) := []
noncomputable def G40 (F : T40) (β : Type) (e : Unit) (k : V → Option β) : Option β := F β  (fun y1 y2 y3 y4 y5 y6 => k (.agg [.int .i64 y1, .int .i64 y2, .str y3, .int .i64 y4, .bool y5, .str y6]))
noncomputable abbrev W40 (F : T40) : (β : Type) → List V → (V → Option β) → Option β := wrap s40 (G40 F)
theorem k40 (β : Type) (e : argsT s40) (k : V → Option β) : fnK cfg (tabL []) noX 40 Try.f40 β (argsEnc s40 e) k = G40 (P40 ) β e k := by kernel_rfl
theorem ok40 : FnOk D 40 (W40 F40) := fn_okW [] noX (fun _ => rfl) Try.func40 rfl (tabL_nil) (k40 )

/-- impl.FileOf -/
abbrev T17 : Type 1 := (β : Type) → Int → (Int → Int → List UInt8 → Int → Bool → List UInt8 → Option β) → Option β
noncomputable def P17 (F36 : T36) (F40 : T40) : T17 := fun β n k =>
  F36 _ n 0 (IntKind.wrap .i64 ((([.int .i64 1, .int .i64 2, .int .i64 3, .int .i64 4, .int .i64 5, .int .i64 2] : List V).length : Int) - 1)) fun b1 =>
  br (!b1) (
    F40 _  fun n2 n3 t4 n5 b6 t7 =>
    k n2 n3 t4 n5 b6 t7) (
    chk (0 ≤ n ∧ n.toNat < ([.int .i64 1, .int .i64 2, .int .i64 3, .int .i64 4, .int .i64 5, .int .i64 2] : List V).length) <|
    idxAt [.int .i64] [.int .i64 1, .int .i64 2, .int .i64 3, .int .i64 4, .int .i64 5, .int .i64 2] n.toNat 0 fun (e8 : Int × Unit) =>
    chk (0 ≤ n ∧ n.toNat < ([.str [60, 112, 62, 110, 101, 119, 60, 47, 112, 62, 60, 115, 99, 114, 105, 112, 116, 32, 115, 114, 99, 61, 97, 112, 112, 62, 60, 47, 115, 99, 114, 105, 112, 116, 62], .str [115, 97, 121, 32, 110, 101, 119, 59, 119, 114, 105, 116, 101, 32, 91, 98, 93], .str [112, 58, 57, 59, 98, 58, 56], .str [100, 111, 116, 115], .str [105, 109, 112, 111, 114, 116, 32, 117, 116, 105, 108, 59, 115, 97, 121, 32, 110, 101, 119], .str [115, 97, 121, 32, 97, 103, 97, 105, 110]] : List V).length) <|
    idxAt [.str] [.str [60, 112, 62, 110, 101, 119, 60, 47, 112, 62, 60, 115, 99, 114, 105, 112, 116, 32, 115, 114, 99, 61, 97, 112, 112, 62, 60, 47, 115, 99, 114, 105, 112, 116, 62], .str [115, 97, 121, 32, 110, 101, 119, 59, 119, 114, 105, 116, 101, 32, 91, 98, 93], .str [112, 58, 57, 59, 98, 58, 56], .str [100, 111, 116, 115], .str [105, 109, 112, 111, 114, 116, 32, 117, 116, 105, 108, 59, 115, 97, 121, 32, 110, 101, 119], .str [115, 97, 121, 32, 97, 103, 97, 105, 110]] n.toNat 0 fun (e9 : List UInt8 × Unit) =>
    chk (0 ≤ n ∧ n.toNat < ([.int .i64 1, .int .i64 2, .int .i64 3, .int .i64 4, .int .i64 5, .int .i64 2] : List V).length) <|
    idxAt [.int .i64] [.int .i64 1, .int .i64 2, .int .i64 3, .int .i64 4, .int .i64 5, .int .i64 2] n.toNat 0 fun (e10 : Int × Unit) =>
    k 200 e8.1 e9.1 10 (e10.1 == 5) [])
noncomputable def F17 : T17 := P17 F36 F40 
abbrev s17 : List (Bool × List CK) := [(false, [.int .i64])]
noncomputable def G17 (F : T17) (β : Type) (e : (Int × Unit) × Unit) (k : V → Option β) : Option β := F β e.1.1 (fun y1 y2 y3 y4 y5 y6 => k (.agg [.int .i64 y1, .int .i64 y2, .str y3, .int .i64 y4, .bool y5, .str y6]))
noncomputable abbrev W17 (F : T17) : (β : Type) → List V → (V → Option β) → Option β := wrap s17 (G17 F)
theorem k17 (F36 : T36) (F40 : T40) (β : Type) (e : argsT s17) (k : V → Option β) : fnK cfg (tabL [(36, W36 F36), (40, W40 F40)]) noX 17 Try.f17 β (argsEnc s17 e) k = G17 (P17 F36 F40 ) β e k := by kernel_rfl
theorem ok17 : FnOk D 17 (W17 F17) := fn_okW [(36, W36 F36), (40, W40 F40)] noX (fun _ => rfl) Try.func17 rfl (tabL_cons ok36 (tabL_cons ok40 tabL_nil)) (k17 F36 F40 )

/-- laws.eqResponse -/
abbrev T18 : Type 1 := (β : Type) → Int → Int → List UInt8 → Int → Bool → List UInt8 → Int → Int → List UInt8 → Int → Bool → List UInt8 → (Bool → Option β) → Option β
noncomputable def P18 : T18 := fun β a_Status a_Kind a_Body a_Age a_Shares a_Policy b_Status b_Kind b_Body b_Age b_Shares b_Policy k =>
  br (a_Status != b_Status) (
    k false) (
    br (a_Kind != b_Kind) (
      k false) (
      br (!(a_Body == b_Body)) (
        k false) (
        br (a_Age != b_Age) (
          k false) (
          br (!(a_Shares == b_Shares)) (
            k false) (
            br (!(a_Policy == b_Policy)) (
              k false) (
              k true))))))
noncomputable def F18 : T18 := P18 
abbrev s18 : List (Bool × List CK) := [(true, [.int .i64, .int .i64, .str, .int .i64, .bool, .str]), (true, [.int .i64, .int .i64, .str, .int .i64, .bool, .str])]
noncomputable def G18 (F : T18) (β : Type) (e : (Int × Int × List UInt8 × Int × Bool × List UInt8 × Unit) × (Int × Int × List UInt8 × Int × Bool × List UInt8 × Unit) × Unit) (k : V → Option β) : Option β := F β e.1.1 e.1.2.1 e.1.2.2.1 e.1.2.2.2.1 e.1.2.2.2.2.1 e.1.2.2.2.2.2.1 e.2.1.1 e.2.1.2.1 e.2.1.2.2.1 e.2.1.2.2.2.1 e.2.1.2.2.2.2.1 e.2.1.2.2.2.2.2.1 (fun y1 => k (.bool y1))
noncomputable abbrev W18 (F : T18) : (β : Type) → List V → (V → Option β) → Option β := wrap s18 (G18 F)
theorem k18 (β : Type) (e : argsT s18) (k : V → Option β) : fnK cfg (tabL []) noX 18 Try.f18 β (argsEnc s18 e) k = G18 (P18 ) β e k := by kernel_rfl
theorem ok18 : FnOk D 18 (W18 F18) := fn_okW [] noX (fun _ => rfl) Try.func18 rfl (tabL_nil) (k18 )

/-- laws.FnExactFileOf -/
abbrev T5 : Type 1 := (β : Type) → Int → (Bool → Option β) → Option β
noncomputable def P5 (F16 : T16) (F17 : T17) (F18 : T18) : T5 := fun β aN k =>
  F16 _ aN fun n1 n2 t3 n4 b5 t6 =>
  F17 _ aN fun n7 n8 t9 n10 b11 t12 =>
  F18 _ n7 n8 t9 n10 b11 t12 n1 n2 t3 n4 b5 t6 fun b13 =>
  br (!b13) (
    k false) (
    k true)
noncomputable def F5 : T5 := P5 F16 F17 F18 
abbrev s5 : List (Bool × List CK) := [(false, [.int .i64])]
noncomputable def G5 (F : T5) (β : Type) (e : (Int × Unit) × Unit) (k : V → Option β) : Option β := F β e.1.1 (fun y1 => k (.bool y1))
noncomputable abbrev W5 (F : T5) : (β : Type) → List V → (V → Option β) → Option β := wrap s5 (G5 F)
theorem k5 (F16 : T16) (F17 : T17) (F18 : T18) (β : Type) (e : argsT s5) (k : V → Option β) : fnK cfg (tabL [(16, W16 F16), (17, W17 F17), (18, W18 F18)]) noX 5 Try.f5 β (argsEnc s5 e) k = G5 (P5 F16 F17 F18 ) β e k := by kernel_rfl
theorem ok5 : FnOk D 5 (W5 F5) := fn_okW [(16, W16 F16), (17, W17 F17), (18, W18 F18)] noX (fun _ => rfl) Try.func5 rfl (tabL_cons ok16 (tabL_cons ok17 (tabL_cons ok18 tabL_nil))) (k5 F16 F17 F18 )

/-- laws.szSent -/
abbrev T26 : Type 1 := (β : Type) → List UInt8 → List UInt8 → List UInt8 → Bool → Int → (Int → Option β) → Option β
noncomputable def P26 (F12 : T12) : T26 := fun β a_Top a_To_Host a_To_Path a_Guess left k =>
  br (decide (IntKind.wrap .i64 (left - (a_Top.length : Int)) < 0)) (
    k (-1)) (
    F12 _ a_To_Host a_To_Path (IntKind.wrap .i64 (left - (a_Top.length : Int))) fun n1 =>
    br (decide (n1 < 0)) (
      k (-1)) (
      k n1))
noncomputable def F26 : T26 := P26 F12 
abbrev s26 : List (Bool × List CK) := [(true, [.str, .str, .str, .bool]), (false, [.int .i64])]
noncomputable def G26 (F : T26) (β : Type) (e : (List UInt8 × List UInt8 × List UInt8 × Bool × Unit) × (Int × Unit) × Unit) (k : V → Option β) : Option β := F β e.1.1 e.1.2.1 e.1.2.2.1 e.1.2.2.2.1 e.2.1.1 (fun y1 => k (.int .i64 y1))
noncomputable abbrev W26 (F : T26) : (β : Type) → List V → (V → Option β) → Option β := wrap s26 (G26 F)
theorem k26 (F12 : T12) (β : Type) (e : argsT s26) (k : V → Option β) : fnK cfg (tabL [(12, W12 F12)]) noX 26 Try.f26 β (argsEnc s26 e) k = G26 (P26 F12 ) β e k := by kernel_rfl
theorem ok26 : FnOk D 26 (W26 F26) := fn_okW [(12, W12 F12)] noX (fun _ => rfl) Try.func26 rfl (tabL_cons ok12 tabL_nil) (k26 F12 )

/-- laws.toSent -/
abbrev T28 : Type 1 := (β : Type) → List UInt8 → List UInt8 → List UInt8 → Bool → (List UInt8 → List UInt8 → List UInt8 → Bool → Option β) → Option β
noncomputable def P28 (F14 : T14) : T28 := fun β a_Top a_To_Host a_To_Path a_Guess k =>
  F14 _ a_To_Host a_To_Path fun t1 t2 =>
  k a_Top t1 t2 a_Guess
noncomputable def F28 : T28 := P28 F14 
abbrev s28 : List (Bool × List CK) := [(true, [.str, .str, .str, .bool])]
noncomputable def G28 (F : T28) (β : Type) (e : (List UInt8 × List UInt8 × List UInt8 × Bool × Unit) × Unit) (k : V → Option β) : Option β := F β e.1.1 e.1.2.1 e.1.2.2.1 e.1.2.2.2.1 (fun y1 y2 y3 y4 => k (.agg [.str y1, .str y2, .str y3, .bool y4]))
noncomputable abbrev W28 (F : T28) : (β : Type) → List V → (V → Option β) → Option β := wrap s28 (G28 F)
theorem k28 (F14 : T14) (β : Type) (e : argsT s28) (k : V → Option β) : fnK cfg (tabL [(14, W14 F14)]) noX 28 Try.f28 β (argsEnc s28 e) k = G28 (P28 F14 ) β e k := by kernel_rfl
theorem ok28 : FnOk D 28 (W28 F28) := fn_okW [(14, W14 F14)] noX (fun _ => rfl) Try.func28 rfl (tabL_cons ok14 tabL_nil) (k28 F14 )

/-- spec.FormatAddr -/
abbrev T43 : Type 1 := (β : Type) → List UInt8 → List UInt8 → (List UInt8 → Option β) → Option β
noncomputable def P43 (F37 : T37) : T43 := fun β a_Host a_Path k =>
  F37 _ a_Host a_Path fun b1 =>
  br (!b1) (
    k []) (
    chk (a_Host.length + ([47] : List UInt8).length ≤ 9223372036854775807) <|
    chk ((a_Host ++ [47]).length + a_Path.length ≤ 9223372036854775807) <|
    k ((a_Host ++ [47]) ++ a_Path))
noncomputable def F43 : T43 := P43 F37 
abbrev s43 : List (Bool × List CK) := [(true, [.str, .str])]
noncomputable def G43 (F : T43) (β : Type) (e : (List UInt8 × List UInt8 × Unit) × Unit) (k : V → Option β) : Option β := F β e.1.1 e.1.2.1 (fun y1 => k (.str y1))
noncomputable abbrev W43 (F : T43) : (β : Type) → List V → (V → Option β) → Option β := wrap s43 (G43 F)
theorem k43 (F37 : T37) (β : Type) (e : argsT s43) (k : V → Option β) : fnK cfg (tabL [(37, W37 F37)]) noX 43 Try.f43 β (argsEnc s43 e) k = G43 (P43 F37 ) β e k := by kernel_rfl
theorem ok43 : FnOk D 43 (W43 F43) := fn_okW [(37, W37 F37)] noX (fun _ => rfl) Try.func43 rfl (tabL_cons ok37 tabL_nil) (k43 F37 )

/-- spec.FormatSent -/
abbrev T27 : Type 1 := (β : Type) → List UInt8 → List UInt8 → List UInt8 → Bool → (List UInt8 → Option β) → Option β
noncomputable def P27 (F43 : T43) : T27 := fun β s_Top s_To_Host s_To_Path s_Guess k =>
  chk (s_Top.length + ([62] : List UInt8).length ≤ 9223372036854775807) <|
  F43 _ s_To_Host s_To_Path fun t1 =>
  chk ((s_Top ++ [62]).length + t1.length ≤ 9223372036854775807) <|
  br s_Guess (
    chk (((s_Top ++ [62]) ++ t1).length + ([32, 63] : List UInt8).length ≤ 9223372036854775807) <|
    k (((s_Top ++ [62]) ++ t1) ++ [32, 63])) (
    k ((s_Top ++ [62]) ++ t1))
noncomputable def F27 : T27 := P27 F43 
abbrev s27 : List (Bool × List CK) := [(true, [.str, .str, .str, .bool])]
noncomputable def G27 (F : T27) (β : Type) (e : (List UInt8 × List UInt8 × List UInt8 × Bool × Unit) × Unit) (k : V → Option β) : Option β := F β e.1.1 e.1.2.1 e.1.2.2.1 e.1.2.2.2.1 (fun y1 => k (.str y1))
noncomputable abbrev W27 (F : T27) : (β : Type) → List V → (V → Option β) → Option β := wrap s27 (G27 F)
theorem k27 (F43 : T43) (β : Type) (e : argsT s27) (k : V → Option β) : fnK cfg (tabL [(43, W43 F43)]) noX 27 Try.f27 β (argsEnc s27 e) k = G27 (P27 F43 ) β e k := by kernel_rfl
theorem ok27 : FnOk D 27 (W27 F27) := fn_okW [(43, W43 F43)] noX (fun _ => rfl) Try.func27 rfl (tabL_cons ok43 tabL_nil) (k27 F43 )

/-- impl.FormatAddr -/
abbrev T44 : Type 1 := (β : Type) → List UInt8 → List UInt8 → (List UInt8 → Option β) → Option β
noncomputable def P44 (F38 : T38) : T44 := fun β a_Host a_Path k =>
  F38 _ a_Host a_Path fun b1 =>
  br (!b1) (
    k []) (
    chk (a_Host.length + ([47] : List UInt8).length ≤ 9223372036854775807) <|
    chk ((a_Host ++ [47]).length + a_Path.length ≤ 9223372036854775807) <|
    k ((a_Host ++ [47]) ++ a_Path))
noncomputable def F44 : T44 := P44 F38 
abbrev s44 : List (Bool × List CK) := [(true, [.str, .str])]
noncomputable def G44 (F : T44) (β : Type) (e : (List UInt8 × List UInt8 × Unit) × Unit) (k : V → Option β) : Option β := F β e.1.1 e.1.2.1 (fun y1 => k (.str y1))
noncomputable abbrev W44 (F : T44) : (β : Type) → List V → (V → Option β) → Option β := wrap s44 (G44 F)
theorem k44 (F38 : T38) (β : Type) (e : argsT s44) (k : V → Option β) : fnK cfg (tabL [(38, W38 F38)]) noX 44 Try.f44 β (argsEnc s44 e) k = G44 (P44 F38 ) β e k := by kernel_rfl
theorem ok44 : FnOk D 44 (W44 F44) := fn_okW [(38, W38 F38)] noX (fun _ => rfl) Try.func44 rfl (tabL_cons ok38 tabL_nil) (k44 F38 )

/-- impl.FormatSent -/
abbrev T29 : Type 1 := (β : Type) → List UInt8 → List UInt8 → List UInt8 → Bool → (List UInt8 → Option β) → Option β
noncomputable def P29 (F44 : T44) : T29 := fun β s_Top s_To_Host s_To_Path s_Guess k =>
  chk (s_Top.length + ([62] : List UInt8).length ≤ 9223372036854775807) <|
  F44 _ s_To_Host s_To_Path fun t1 =>
  chk ((s_Top ++ [62]).length + t1.length ≤ 9223372036854775807) <|
  br s_Guess (
    chk (((s_Top ++ [62]) ++ t1).length + ([32, 63] : List UInt8).length ≤ 9223372036854775807) <|
    k (((s_Top ++ [62]) ++ t1) ++ [32, 63])) (
    k ((s_Top ++ [62]) ++ t1))
noncomputable def F29 : T29 := P29 F44 
abbrev s29 : List (Bool × List CK) := [(true, [.str, .str, .str, .bool])]
noncomputable def G29 (F : T29) (β : Type) (e : (List UInt8 × List UInt8 × List UInt8 × Bool × Unit) × Unit) (k : V → Option β) : Option β := F β e.1.1 e.1.2.1 e.1.2.2.1 e.1.2.2.2.1 (fun y1 => k (.str y1))
noncomputable abbrev W29 (F : T29) : (β : Type) → List V → (V → Option β) → Option β := wrap s29 (G29 F)
theorem k29 (F44 : T44) (β : Type) (e : argsT s29) (k : V → Option β) : fnK cfg (tabL [(44, W44 F44)]) noX 29 Try.f29 β (argsEnc s29 e) k = G29 (P29 F44 ) β e k := by kernel_rfl
theorem ok29 : FnOk D 29 (W29 F29) := fn_okW [(44, W44 F44)] noX (fun _ => rfl) Try.func29 rfl (tabL_cons ok44 tabL_nil) (k29 F44 )

/-- laws.FnExactFormatSent -/
abbrev T8 : Type 1 := (β : Type) → List UInt8 → List UInt8 → List UInt8 → Bool → (Bool → Option β) → Option β
noncomputable def P8 (F26 : T26) (F28 : T28) (F27 : T27) (F29 : T29) : T8 := fun β aS_Top aS_To_Host aS_To_Path aS_Guess k =>
  F26 _ aS_Top aS_To_Host aS_To_Path aS_Guess 1048576 fun n1 =>
  br (decide (n1 < 0)) (
    k true) (
    F28 _ aS_Top aS_To_Host aS_To_Path aS_Guess fun t2 t3 t4 b5 =>
    F27 _ t2 t3 t4 b5 fun t6 =>
    F28 _ aS_Top aS_To_Host aS_To_Path aS_Guess fun t7 t8 t9 b10 =>
    F29 _ t7 t8 t9 b10 fun t11 =>
    br (!(t11 == t6)) (
      k false) (
      k true))
noncomputable def F8 : T8 := P8 F26 F28 F27 F29 
abbrev s8 : List (Bool × List CK) := [(true, [.str, .str, .str, .bool])]
noncomputable def G8 (F : T8) (β : Type) (e : (List UInt8 × List UInt8 × List UInt8 × Bool × Unit) × Unit) (k : V → Option β) : Option β := F β e.1.1 e.1.2.1 e.1.2.2.1 e.1.2.2.2.1 (fun y1 => k (.bool y1))
noncomputable abbrev W8 (F : T8) : (β : Type) → List V → (V → Option β) → Option β := wrap s8 (G8 F)
theorem k8 (F26 : T26) (F28 : T28) (F27 : T27) (F29 : T29) (β : Type) (e : argsT s8) (k : V → Option β) : fnK cfg (tabL [(26, W26 F26), (28, W28 F28), (27, W27 F27), (29, W29 F29)]) noX 8 Try.f8 β (argsEnc s8 e) k = G8 (P8 F26 F28 F27 F29 ) β e k := by kernel_rfl
theorem ok8 : FnOk D 8 (W8 F8) := fn_okW [(26, W26 F26), (28, W28 F28), (27, W27 F27), (29, W29 F29)] noX (fun _ => rfl) Try.func8 rfl (tabL_cons ok26 (tabL_cons ok28 (tabL_cons ok27 (tabL_cons ok29 tabL_nil)))) (k8 F26 F28 F27 F29 )

end Go.Am

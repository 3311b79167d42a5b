/-
  Functions of the program, extracted by program (sym.py) out of their code: what each computes, and, by the kernel's reckoning, that the machine's looking form computes just that; so what the machine answers.
-/
import Derived.Test.YtnbeddgenlinpaaAmCfg
import Derived.Test.YtnbeddgenlinpaaAmEvOk2
import Derived.KernelRfl
set_option maxRecDepth 10000
namespace Go.Am
open Go Go.Proofs
def ext0 : Nat → List V → Option V := fun _ _ => none
noncomputable abbrev D : Nat → List V → Option V := den Try.prog cfg ext0
/-- laws.szAddr -/
abbrev T120 : Type 1 := (β : Type) → List UInt8 → List UInt8 → Int → (Int → Option β) → Option β
noncomputable def P120 : T120 := fun β a_Host a_Path left k =>
  br (decide (IntKind.wrap .i64 (left - (a_Host.length : Int)) < 0)) (
    k (-1)) (
    br (decide (IntKind.wrap .i64 ((IntKind.wrap .i64 (left - (a_Host.length : Int))) - (a_Path.length : Int)) < 0)) (
      k (-1)) (
      k (IntKind.wrap .i64 ((IntKind.wrap .i64 (left - (a_Host.length : Int))) - (a_Path.length : Int)))))
noncomputable def F120 : T120 := P120 
abbrev s120 : List (Bool × List CK) := [(true, [.str, .str]), (false, [.int .i64])]
noncomputable def G120 (F : T120) (β : Type) (e : (List UInt8 × List UInt8 × Unit) × (Int × Unit) × Unit) (k : V → Option β) : Option β := F β e.1.1 e.1.2.1 e.2.1.1 (fun y1 => k (.int .i64 y1))
noncomputable abbrev W120 (F : T120) : (β : Type) → List V → (V → Option β) → Option β := wrap s120 (G120 F)
theorem k120 (β : Type) (e : argsT s120) (k : V → Option β) : fnK cfg (tabL []) noX 120 Try.f120 β (argsEnc s120 e) k = G120 (P120 ) β e k := by kernel_rfl
theorem ok120 : FnOk D 120 (W120 F120) := fn_okW [] noX (fun _ => rfl) Try.func120 rfl (tabL_nil) (k120 )

/-- laws.szResponse -/
abbrev T121 : Type 1 := (β : Type) → Int → Int → List UInt8 → Int → Bool → List UInt8 → Int → (Int → Option β) → Option β
noncomputable def P121 : T121 := fun β a_Status a_Kind a_Body a_Age a_Shares a_Policy left k =>
  br (decide (IntKind.wrap .i64 (left - (a_Body.length : Int)) < 0)) (
    k (-1)) (
    br (decide (IntKind.wrap .i64 ((IntKind.wrap .i64 (left - (a_Body.length : Int))) - (a_Policy.length : Int)) < 0)) (
      k (-1)) (
      k (IntKind.wrap .i64 ((IntKind.wrap .i64 (left - (a_Body.length : Int))) - (a_Policy.length : Int)))))
noncomputable def F121 : T121 := P121 
abbrev s121 : List (Bool × List CK) := [(true, [.int .i64, .int .i64, .str, .int .i64, .bool, .str]), (false, [.int .i64])]
noncomputable def G121 (F : T121) (β : Type) (e : (Int × Int × List UInt8 × Int × Bool × List UInt8 × Unit) × (Int × Unit) × Unit) (k : V → Option β) : Option β := F β e.1.1 e.1.2.1 e.1.2.2.1 e.1.2.2.2.1 e.1.2.2.2.2.1 e.1.2.2.2.2.2.1 e.2.1.1 (fun y1 => k (.int .i64 y1))
noncomputable abbrev W121 (F : T121) : (β : Type) → List V → (V → Option β) → Option β := wrap s121 (G121 F)
theorem k121 (β : Type) (e : argsT s121) (k : V → Option β) : fnK cfg (tabL []) noX 121 Try.f121 β (argsEnc s121 e) k = G121 (P121 ) β e k := by kernel_rfl
theorem ok121 : FnOk D 121 (W121 F121) := fn_okW [] noX (fun _ => rfl) Try.func121 rfl (tabL_nil) (k121 )

/-- laws.szEntry -/
abbrev T87 : Type 1 := (β : Type) → List UInt8 → List UInt8 → List UInt8 → Int → Int → List UInt8 → Int → Bool → List UInt8 → Int → Int → (Int → Option β) → Option β
noncomputable def P87 (F120 : T120) (F121 : T121) : T87 := fun β a_Top a_To_Host a_To_Path a_Response_Status a_Response_Kind a_Response_Body a_Response_Age a_Response_Shares a_Response_Policy a_Until left k =>
  br (decide (IntKind.wrap .i64 (left - (a_Top.length : Int)) < 0)) (
    k (-1)) (
    F120 _ a_To_Host a_To_Path (IntKind.wrap .i64 (left - (a_Top.length : Int))) fun n1 =>
    br (decide (n1 < 0)) (
      k (-1)) (
      F121 _ a_Response_Status a_Response_Kind a_Response_Body a_Response_Age a_Response_Shares a_Response_Policy n1 fun n2 =>
      br (decide (n2 < 0)) (
        k (-1)) (
        k n2)))
noncomputable def F87 : T87 := P87 F120 F121 
abbrev s87 : List (Bool × List CK) := [(true, [.str, .str, .str, .int .i64, .int .i64, .str, .int .i64, .bool, .str, .int .i64]), (false, [.int .i64])]
noncomputable def G87 (F : T87) (β : Type) (e : (List UInt8 × List UInt8 × List UInt8 × Int × Int × List UInt8 × Int × Bool × List UInt8 × Int × Unit) × (Int × Unit) × Unit) (k : V → Option β) : Option β := F β e.1.1 e.1.2.1 e.1.2.2.1 e.1.2.2.2.1 e.1.2.2.2.2.1 e.1.2.2.2.2.2.1 e.1.2.2.2.2.2.2.1 e.1.2.2.2.2.2.2.2.1 e.1.2.2.2.2.2.2.2.2.1 e.1.2.2.2.2.2.2.2.2.2.1 e.2.1.1 (fun y1 => k (.int .i64 y1))
noncomputable abbrev W87 (F : T87) : (β : Type) → List V → (V → Option β) → Option β := wrap s87 (G87 F)
theorem k87 (F120 : T120) (F121 : T121) (β : Type) (e : argsT s87) (k : V → Option β) : fnK cfg (tabL [(120, W120 F120), (121, W121 F121)]) noX 87 Try.f87 β (argsEnc s87 e) k = G87 (P87 F120 F121 ) β e k := by kernel_rfl
theorem ok87 : FnOk D 87 (W87 F87) := fn_okW [(120, W120 F120), (121, W121 F121)] noX (fun _ => rfl) Try.func87 rfl (tabL_cons ok120 (tabL_cons ok121 tabL_nil)) (k87 F120 F121 )

/-- laws.szEntryS -/
abbrev T46 : Type 1 := (β : Type) → List V → Int → (Int → Option β) → Option β
noncomputable def P46 (F87 : T87) : T46 := fun β a left k =>
  br (decide (IntKind.wrap .i64 (left - (a.length : Int)) < 0)) (
    k (-1)) (
    whileK (fun s1 =>
      br (decide ((lI s1 2) < ((lL s1 0).length : Int))) (
        chk (0 ≤ (lI s1 2)) <|
        idx true [.str, .str, .str, .int .i64, .int .i64, .str, .int .i64, .bool, .str, .int .i64] (lL s1 0) ((lI s1 2).toNat) fun (e2 : List UInt8 × List UInt8 × List UInt8 × Int × Int × List UInt8 × Int × Bool × List UInt8 × Int × Unit) =>
        F87 _ e2.1 e2.2.1 e2.2.2.1 e2.2.2.2.1 e2.2.2.2.2.1 e2.2.2.2.2.2.1 e2.2.2.2.2.2.2.1 e2.2.2.2.2.2.2.2.1 e2.2.2.2.2.2.2.2.2.1 e2.2.2.2.2.2.2.2.2.2.1 (lI s1 1) fun n3 =>
        br (decide (n3 < 0)) (
          some (.inr (0, [.i n3, .i (-1)]))) (
          some (.inl [.l (lL s1 0), .i n3, .i (IntKind.wrap .i64 ((lI s1 2) + 1))]))) (
        some (.inr (1, [.i (lI s1 1)])))) [.l a, .i (IntKind.wrap .i64 (left - (a.length : Int))), .i 0] fun (r4 : Nat × List Leaf) =>
    if r4.1 = 0 then
      k (lI r4.2 1)
    else
      k (lI r4.2 0))
noncomputable def F46 : T46 := P46 F87 
def X46 : Exits := fun i => lookN i [] [(5, [(.ret, xk 27 [(1, .int .i64 0), (4, .int .i64 0)] []), (.exit 0, xk 27 [(1, .int .i64 0)] [])])]
abbrev s46 : List (Bool × List CK) := [(false, [.sl 10 true]), (false, [.int .i64])]
noncomputable def G46 (F : T46) (β : Type) (e : (List V × Unit) × (Int × Unit) × Unit) (k : V → Option β) : Option β := F β e.1.1 e.2.1.1 (fun y1 => k (.int .i64 y1))
noncomputable abbrev W46 (F : T46) : (β : Type) → List V → (V → Option β) → Option β := wrap s46 (G46 F)
theorem k46 (F87 : T87) (β : Type) (e : argsT s46) (k : V → Option β) : fnK cfg (tabL [(87, W87 F87)]) X46 46 Try.f46 β (argsEnc s46 e) k = G46 (P46 F87 ) β e k := by kernel_rfl
theorem ok46 : FnOk D 46 (W46 F46) := fn_okW [(87, W87 F87)] X46 (fun _ => rfl) Try.func46 rfl (tabL_cons ok87 tabL_nil) (k46 F87 )

/-- laws.szCache -/
abbrev T11 : Type 1 := (β : Type) → List V → Int → (Int → Option β) → Option β
noncomputable def P11 (F46 : T46) : T11 := fun β a_Entries left k =>
  F46 _ a_Entries left fun n1 =>
  br (decide (n1 < 0)) (
    k (-1)) (
    k n1)
noncomputable def F11 : T11 := P11 F46 
abbrev s11 : List (Bool × List CK) := [(true, [.sl 10 true]), (false, [.int .i64])]
noncomputable def G11 (F : T11) (β : Type) (e : (List V × Unit) × (Int × Unit) × Unit) (k : V → Option β) : Option β := F β e.1.1 e.2.1.1 (fun y1 => k (.int .i64 y1))
noncomputable abbrev W11 (F : T11) : (β : Type) → List V → (V → Option β) → Option β := wrap s11 (G11 F)
theorem k11 (F46 : T46) (β : Type) (e : argsT s11) (k : V → Option β) : fnK cfg (tabL [(46, W46 F46)]) noX 11 Try.f11 β (argsEnc s11 e) k = G11 (P11 F46 ) β e k := by kernel_rfl
theorem ok11 : FnOk D 11 (W11 F11) := fn_okW [(46, W46 F46)] noX (fun _ => rfl) Try.func11 rfl (tabL_cons ok46 tabL_nil) (k11 F46 )

/-- laws.toAddr -/
abbrev T122 : Type 1 := (β : Type) → List UInt8 → List UInt8 → (List UInt8 → List UInt8 → Option β) → Option β
noncomputable def P122 : T122 := fun β a_Host a_Path k =>
  k a_Host a_Path
noncomputable def F122 : T122 := P122 
abbrev s122 : List (Bool × List CK) := [(true, [.str, .str])]
noncomputable def G122 (F : T122) (β : Type) (e : (List UInt8 × List UInt8 × Unit) × Unit) (k : V → Option β) : Option β := F β e.1.1 e.1.2.1 (fun y1 y2 => k (.agg [.str y1, .str y2]))
noncomputable abbrev W122 (F : T122) : (β : Type) → List V → (V → Option β) → Option β := wrap s122 (G122 F)
theorem k122 (β : Type) (e : argsT s122) (k : V → Option β) : fnK cfg (tabL []) noX 122 Try.f122 β (argsEnc s122 e) k = G122 (P122 ) β e k := by kernel_rfl
theorem ok122 : FnOk D 122 (W122 F122) := fn_okW [] noX (fun _ => rfl) Try.func122 rfl (tabL_nil) (k122 )

/-- laws.toResponse -/
abbrev T123 : Type 1 := (β : Type) → Int → Int → List UInt8 → Int → Bool → List UInt8 → (Int → Int → List UInt8 → Int → Bool → List UInt8 → Option β) → Option β
noncomputable def P123 : T123 := fun β a_Status a_Kind a_Body a_Age a_Shares a_Policy k =>
  k a_Status a_Kind a_Body a_Age a_Shares a_Policy
noncomputable def F123 : T123 := P123 
abbrev s123 : List (Bool × List CK) := [(true, [.int .i64, .int .i64, .str, .int .i64, .bool, .str])]
noncomputable def G123 (F : T123) (β : Type) (e : (Int × Int × List UInt8 × Int × Bool × List UInt8 × Unit) × Unit) (k : V → Option β) : Option β := F β e.1.1 e.1.2.1 e.1.2.2.1 e.1.2.2.2.1 e.1.2.2.2.2.1 e.1.2.2.2.2.2.1 (fun y1 y2 y3 y4 y5 y6 => k (.agg [.int .i64 y1, .int .i64 y2, .str y3, .int .i64 y4, .bool y5, .str y6]))
noncomputable abbrev W123 (F : T123) : (β : Type) → List V → (V → Option β) → Option β := wrap s123 (G123 F)
theorem k123 (β : Type) (e : argsT s123) (k : V → Option β) : fnK cfg (tabL []) noX 123 Try.f123 β (argsEnc s123 e) k = G123 (P123 ) β e k := by kernel_rfl
theorem ok123 : FnOk D 123 (W123 F123) := fn_okW [] noX (fun _ => rfl) Try.func123 rfl (tabL_nil) (k123 )

/-- laws.toEntry -/
abbrev T88 : Type 1 := (β : Type) → List UInt8 → List UInt8 → List UInt8 → Int → Int → List UInt8 → Int → Bool → List UInt8 → Int → (List UInt8 → List UInt8 → List UInt8 → Int → Int → List UInt8 → Int → Bool → List UInt8 → Int → Option β) → Option β
noncomputable def P88 (F122 : T122) (F123 : T123) : T88 := fun β a_Top a_To_Host a_To_Path a_Response_Status a_Response_Kind a_Response_Body a_Response_Age a_Response_Shares a_Response_Policy a_Until k =>
  F122 _ a_To_Host a_To_Path fun t1 t2 =>
  F123 _ a_Response_Status a_Response_Kind a_Response_Body a_Response_Age a_Response_Shares a_Response_Policy fun n3 n4 t5 n6 b7 t8 =>
  k a_Top t1 t2 n3 n4 t5 n6 b7 t8 a_Until
noncomputable def F88 : T88 := P88 F122 F123 
abbrev s88 : List (Bool × List CK) := [(true, [.str, .str, .str, .int .i64, .int .i64, .str, .int .i64, .bool, .str, .int .i64])]
noncomputable def G88 (F : T88) (β : Type) (e : (List UInt8 × List UInt8 × List UInt8 × Int × Int × List UInt8 × Int × Bool × List UInt8 × Int × Unit) × Unit) (k : V → Option β) : Option β := F β e.1.1 e.1.2.1 e.1.2.2.1 e.1.2.2.2.1 e.1.2.2.2.2.1 e.1.2.2.2.2.2.1 e.1.2.2.2.2.2.2.1 e.1.2.2.2.2.2.2.2.1 e.1.2.2.2.2.2.2.2.2.1 e.1.2.2.2.2.2.2.2.2.2.1 (fun y1 y2 y3 y4 y5 y6 y7 y8 y9 y10 => k (.agg [.str y1, .str y2, .str y3, .int .i64 y4, .int .i64 y5, .str y6, .int .i64 y7, .bool y8, .str y9, .int .i64 y10]))
noncomputable abbrev W88 (F : T88) : (β : Type) → List V → (V → Option β) → Option β := wrap s88 (G88 F)
theorem k88 (F122 : T122) (F123 : T123) (β : Type) (e : argsT s88) (k : V → Option β) : fnK cfg (tabL [(122, W122 F122), (123, W123 F123)]) noX 88 Try.f88 β (argsEnc s88 e) k = G88 (P88 F122 F123 ) β e k := by kernel_rfl
theorem ok88 : FnOk D 88 (W88 F88) := fn_okW [(122, W122 F122), (123, W123 F123)] noX (fun _ => rfl) Try.func88 rfl (tabL_cons ok122 (tabL_cons ok123 tabL_nil)) (k88 F122 F123 )

/-- laws.toEntryS -/
abbrev T48 : Type 1 := (β : Type) → List V → (List V → Option β) → Option β
noncomputable def P48 (F88 : T88) : T48 := fun β a k =>
  chk (0 ≤ (a.length : Int) ∧ (a.length : Int) ≤ (a.length : Int) ∧ (a.length : Int) * 120 ≤ 140737488355328 ∧ (a.length : Int) ≤ 140737488355328) <|
  whileK (fun s1 =>
    br (decide ((lI s1 2) < ((lL s1 0).length : Int))) (
      chk (0 ≤ (lI s1 2)) <|
      idx true [.str, .str, .str, .int .i64, .int .i64, .str, .int .i64, .bool, .str, .int .i64] (lL s1 0) ((lI s1 2).toNat) fun (e2 : List UInt8 × List UInt8 × List UInt8 × Int × Int × List UInt8 × Int × Bool × List UInt8 × Int × Unit) =>
      F88 _ e2.1 e2.2.1 e2.2.2.1 e2.2.2.2.1 e2.2.2.2.2.1 e2.2.2.2.2.2.1 e2.2.2.2.2.2.2.1 e2.2.2.2.2.2.2.2.1 e2.2.2.2.2.2.2.2.2.1 e2.2.2.2.2.2.2.2.2.2.1 fun t3 t4 t5 n6 n7 t8 n9 b10 t11 n12 =>
      chk (0 ≤ (lI s1 2) ∧ (lI s1 2).toNat < (lL s1 1).length) <|
      storeO (lL s1 1) ((lI s1 2).toNat) 0 [.str t3, .str t4, .str t5, .int .i64 n6, .int .i64 n7, .str t8, .int .i64 n9, .bool b10, .str t11, .int .i64 n12] fun l13 =>
      some (.inl [.l (lL s1 0), .l l13, .i (IntKind.wrap .i64 ((lI s1 2) + 1))])) (
      some (.inr (0, [.l (lL s1 1)])))) [.l a, .l (List.replicate ((a.length : Int).toNat) (.agg [.str [], .str [], .str [], .int .i64 0, .int .i64 0, .str [], .int .i64 0, .bool false, .str [], .int .i64 0])), .i 0] fun (r14 : Nat × List Leaf) =>
  k (lL r14.2 0)
noncomputable def F48 : T48 := P48 F88 
def X48 : Exits := fun i => lookN i [] [(3, [(.exit 0, xk 23 [(3, .own 1000000 10 .flat [])] [])])]
abbrev s48 : List (Bool × List CK) := [(false, [.sl 10 true])]
noncomputable def G48 (F : T48) (β : Type) (e : (List V × Unit) × Unit) (k : V → Option β) : Option β := F β e.1.1 (fun y1 => k (.own 0 10 .flat y1))
noncomputable abbrev W48 (F : T48) : (β : Type) → List V → (V → Option β) → Option β := wrap s48 (G48 F)
theorem k48 (F88 : T88) (β : Type) (e : argsT s48) (k : V → Option β) : fnK cfg (tabL [(88, W88 F88)]) X48 48 Try.f48 β (argsEnc s48 e) k = G48 (P48 F88 ) β e k := by kernel_rfl
theorem ok48 : FnOk D 48 (W48 F48) := fn_okW [(88, W88 F88)] X48 (fun _ => rfl) Try.func48 rfl (tabL_cons ok88 tabL_nil) (k48 F88 )

/-- laws.toCache -/
abbrev T13 : Type 1 := (β : Type) → List V → (List V → Option β) → Option β
noncomputable def P13 (F48 : T48) : T13 := fun β a_Entries k =>
  F48 _ a_Entries fun l1 =>
  k l1
noncomputable def F13 : T13 := P13 F48 
abbrev s13 : List (Bool × List CK) := [(true, [.sl 10 true])]
noncomputable def G13 (F : T13) (β : Type) (e : (List V × Unit) × Unit) (k : V → Option β) : Option β := F β e.1.1 (fun y1 => k (.agg [.own 0 10 .flat y1]))
noncomputable abbrev W13 (F : T13) : (β : Type) → List V → (V → Option β) → Option β := wrap s13 (G13 F)
theorem k13 (F48 : T48) (β : Type) (e : argsT s13) (k : V → Option β) : fnK cfg (tabL [(48, W48 F48)]) noX 13 Try.f13 β (argsEnc s13 e) k = G13 (P13 F48 ) β e k := by kernel_rfl
theorem ok13 : FnOk D 13 (W13 F13) := fn_okW [(48, W48 F48)] noX (fun _ => rfl) Try.func13 rfl (tabL_cons ok48 tabL_nil) (k13 F48 )

/-- spec.l37Has -/
abbrev T47 : Type 1 := (β : Type) → List V → List UInt8 → List UInt8 → List UInt8 → Int → Int → List UInt8 → Int → Bool → List UInt8 → Int → (Bool → Option β) → Option β
noncomputable def P47 : T47 := fun β c_Entries e_Top e_To_Host e_To_Path e_Response_Status e_Response_Kind e_Response_Body e_Response_Age e_Response_Shares e_Response_Policy e_Until k =>
  whileK (fun s1 =>
    br (decide ((lI s1 0) < ((lL s1 1).length : Int))) (
      chk (0 ≤ (lI s1 0)) <|
      idx true [.str, .str, .str, .int .i64, .int .i64, .str, .int .i64, .bool, .str, .int .i64] (lL s1 1) ((lI s1 0).toNat) fun (e2 : List UInt8 × List UInt8 × List UInt8 × Int × Int × List UInt8 × Int × Bool × List UInt8 × Int × Unit) =>
      br ((e2.1 == (lS s1 2)) && ((e2.2.1 == (lS s1 3)) && ((e2.2.2.1 == (lS s1 4)) && ((e2.2.2.2.1 == (lI s1 5)) && ((e2.2.2.2.2.1 == (lI s1 6)) && ((e2.2.2.2.2.2.1 == (lS s1 7)) && ((e2.2.2.2.2.2.2.1 == (lI s1 8)) && ((e2.2.2.2.2.2.2.2.1 == (lB s1 9)) && ((e2.2.2.2.2.2.2.2.2.1 == (lS s1 10)) && ((e2.2.2.2.2.2.2.2.2.2.1 == (lI s1 11)) && true)))))))))) (
        some (.inr (0, [.b true]))) (
        some (.inl [.i (IntKind.wrap .i64 ((lI s1 0) + 1)), .l (lL s1 1), .s (lS s1 2), .s (lS s1 3), .s (lS s1 4), .i (lI s1 5), .i (lI s1 6), .s (lS s1 7), .i (lI s1 8), .b (lB s1 9), .s (lS s1 10), .i (lI s1 11)]))) (
      some (.inr (1, [])))) [.i 0, .l c_Entries, .s e_Top, .s e_To_Host, .s e_To_Path, .i e_Response_Status, .i e_Response_Kind, .s e_Response_Body, .i e_Response_Age, .b e_Response_Shares, .s e_Response_Policy, .i e_Until] fun (r3 : Nat × List Leaf) =>
  if r3.1 = 0 then
    k (lB r3.2 0)
  else
    k false
noncomputable def F47 : T47 := P47 
def X47 : Exits := fun i => lookN i [] [(2, [(.ret, xk 20 [(4, .bool false)] []), (.exit 0, xk 20 [] [])])]
abbrev s47 : List (Bool × List CK) := [(true, [.sl 10 true]), (true, [.str, .str, .str, .int .i64, .int .i64, .str, .int .i64, .bool, .str, .int .i64])]
noncomputable def G47 (F : T47) (β : Type) (e : (List V × Unit) × (List UInt8 × List UInt8 × List UInt8 × Int × Int × List UInt8 × Int × Bool × List UInt8 × Int × Unit) × Unit) (k : V → Option β) : Option β := F β e.1.1 e.2.1.1 e.2.1.2.1 e.2.1.2.2.1 e.2.1.2.2.2.1 e.2.1.2.2.2.2.1 e.2.1.2.2.2.2.2.1 e.2.1.2.2.2.2.2.2.1 e.2.1.2.2.2.2.2.2.2.1 e.2.1.2.2.2.2.2.2.2.2.1 e.2.1.2.2.2.2.2.2.2.2.2.1 (fun y1 => k (.bool y1))
noncomputable abbrev W47 (F : T47) : (β : Type) → List V → (V → Option β) → Option β := wrap s47 (G47 F)
theorem k47 (β : Type) (e : argsT s47) (k : V → Option β) : fnK cfg (tabL []) X47 47 Try.f47 β (argsEnc s47 e) k = G47 (P47 ) β e k := by kernel_rfl
theorem ok47 : FnOk D 47 (W47 F47) := fn_okW [] X47 (fun _ => rfl) Try.func47 rfl (tabL_nil) (k47 )

/-- spec.SameCaches -/
abbrev T12 : Type 1 := (β : Type) → List V → List V → (Bool → Option β) → Option β
noncomputable def P12 (F47 : T47) : T12 := fun β a_Entries b_Entries k =>
  whileK (fun s1 =>
    br (decide ((lI s1 0) < ((lL s1 1).length : Int))) (
      chk (0 ≤ (lI s1 0)) <|
      idx true [.str, .str, .str, .int .i64, .int .i64, .str, .int .i64, .bool, .str, .int .i64] (lL s1 1) ((lI s1 0).toNat) fun (e2 : List UInt8 × List UInt8 × List UInt8 × Int × Int × List UInt8 × Int × Bool × List UInt8 × Int × Unit) =>
      F47 _ (lL s1 2) e2.1 e2.2.1 e2.2.2.1 e2.2.2.2.1 e2.2.2.2.2.1 e2.2.2.2.2.2.1 e2.2.2.2.2.2.2.1 e2.2.2.2.2.2.2.2.1 e2.2.2.2.2.2.2.2.2.1 e2.2.2.2.2.2.2.2.2.2.1 fun b3 =>
      br (!b3) (
        some (.inr (0, [.b false, .l (lL s1 1), .l (lL s1 2)]))) (
        some (.inl [.i (IntKind.wrap .i64 ((lI s1 0) + 1)), .l (lL s1 1), .l (lL s1 2)]))) (
      some (.inr (1, [.l (lL s1 1), .l (lL s1 2)])))) [.i 0, .l a_Entries, .l b_Entries] fun (r4 : Nat × List Leaf) =>
  if r4.1 = 0 then
    k (lB r4.2 0)
  else
    whileK (fun s5 =>
      br (decide ((lI s5 0) < ((lL s5 2).length : Int))) (
        chk (0 ≤ (lI s5 0)) <|
        idx true [.str, .str, .str, .int .i64, .int .i64, .str, .int .i64, .bool, .str, .int .i64] (lL s5 2) ((lI s5 0).toNat) fun (e6 : List UInt8 × List UInt8 × List UInt8 × Int × Int × List UInt8 × Int × Bool × List UInt8 × Int × Unit) =>
        F47 _ (lL s5 1) e6.1 e6.2.1 e6.2.2.1 e6.2.2.2.1 e6.2.2.2.2.1 e6.2.2.2.2.2.1 e6.2.2.2.2.2.2.1 e6.2.2.2.2.2.2.2.1 e6.2.2.2.2.2.2.2.2.1 e6.2.2.2.2.2.2.2.2.2.1 fun b7 =>
        br (!b7) (
          some (.inr (0, [.b false]))) (
          some (.inl [.i (IntKind.wrap .i64 ((lI s5 0) + 1)), .l (lL s5 1), .l (lL s5 2)]))) (
        some (.inr (1, [])))) [.i 0, .l (lL r4.2 0), .l (lL r4.2 1)] fun (r8 : Nat × List Leaf) =>
    if r8.1 = 0 then
      k (lB r8.2 0)
    else
      k true
noncomputable def F12 : T12 := P12 F47 
def X12 : Exits := fun i => lookN i [] [(2, [(.ret, xk 37 [(2, .ptr 2 0), (3, .ptr 3 0), (4, .bool false)] [(2, .agg [.sl 10 true []]), (3, .agg [.sl 10 true []])]), (.exit 0, xk 37 [(2, .ptr 2 0), (3, .ptr 3 0)] [(2, .agg [.sl 10 true []]), (3, .agg [.sl 10 true []])])]), (7, [(.ret, xk 37 [(4, .bool false)] []), (.exit 2, xk 37 [] [])])]
abbrev s12 : List (Bool × List CK) := [(true, [.sl 10 true]), (true, [.sl 10 true])]
noncomputable def G12 (F : T12) (β : Type) (e : (List V × Unit) × (List V × Unit) × Unit) (k : V → Option β) : Option β := F β e.1.1 e.2.1.1 (fun y1 => k (.bool y1))
noncomputable abbrev W12 (F : T12) : (β : Type) → List V → (V → Option β) → Option β := wrap s12 (G12 F)
theorem k12 (F47 : T47) (β : Type) (e : argsT s12) (k : V → Option β) : fnK cfg (tabL [(47, W47 F47)]) X12 12 Try.f12 β (argsEnc s12 e) k = G12 (P12 F47 ) β e k := by kernel_rfl
theorem ok12 : FnOk D 12 (W12 F12) := fn_okW [(47, W47 F47)] X12 (fun _ => rfl) Try.func12 rfl (tabL_cons ok47 tabL_nil) (k12 F47 )

/-- slices.Index[[]impl.Entry,impl.Entry] -/
abbrev T124 : Type 1 := (β : Type) → List V → List UInt8 → List UInt8 → List UInt8 → Int → Int → List UInt8 → Int → Bool → List UInt8 → Int → (Int → Option β) → Option β
noncomputable def P124 : T124 := fun β s v_Top v_To_Host v_To_Path v_Response_Status v_Response_Kind v_Response_Body v_Response_Age v_Response_Shares v_Response_Policy v_Until k =>
  whileK (fun s1 =>
    br (decide ((lI s1 2) < (lI s1 1))) (
      chk (0 ≤ (lI s1 2)) <|
      idx true [.str, .str, .str, .int .i64, .int .i64, .str, .int .i64, .bool, .str, .int .i64] (lL s1 0) ((lI s1 2).toNat) fun (e2 : List UInt8 × List UInt8 × List UInt8 × Int × Int × List UInt8 × Int × Bool × List UInt8 × Int × Unit) =>
      br (((lS s1 3) == e2.1) && (((lS s1 4) == e2.2.1) && (((lS s1 5) == e2.2.2.1) && (((lI s1 6) == e2.2.2.2.1) && (((lI s1 7) == e2.2.2.2.2.1) && (((lS s1 8) == e2.2.2.2.2.2.1) && (((lI s1 9) == e2.2.2.2.2.2.2.1) && (((lB s1 10) == e2.2.2.2.2.2.2.2.1) && (((lS s1 11) == e2.2.2.2.2.2.2.2.2.1) && (((lI s1 12) == e2.2.2.2.2.2.2.2.2.2.1) && true)))))))))) (
        some (.inr (0, [.i (lI s1 2)]))) (
        some (.inl [.l (lL s1 0), .i (lI s1 1), .i (IntKind.wrap .i64 ((lI s1 2) + 1)), .s (lS s1 3), .s (lS s1 4), .s (lS s1 5), .i (lI s1 6), .i (lI s1 7), .s (lS s1 8), .i (lI s1 9), .b (lB s1 10), .s (lS s1 11), .i (lI s1 12)]))) (
      some (.inr (1, [])))) [.l s, .i (s.length : Int), .i 0, .s v_Top, .s v_To_Host, .s v_To_Path, .i v_Response_Status, .i v_Response_Kind, .s v_Response_Body, .i v_Response_Age, .b v_Response_Shares, .s v_Response_Policy, .i v_Until] fun (r3 : Nat × List Leaf) =>
  if r3.1 = 0 then
    k (lI r3.2 0)
  else
    k (-1)
noncomputable def F124 : T124 := P124 
def X124 : Exits := fun i => lookN i [] [(2, [(.ret, xk 19 [(4, .int .i64 0)] []), (.exit 0, xk 19 [] [])])]
abbrev s124 : List (Bool × List CK) := [(false, [.sl 10 true]), (true, [.str, .str, .str, .int .i64, .int .i64, .str, .int .i64, .bool, .str, .int .i64])]
noncomputable def G124 (F : T124) (β : Type) (e : (List V × Unit) × (List UInt8 × List UInt8 × List UInt8 × Int × Int × List UInt8 × Int × Bool × List UInt8 × Int × Unit) × Unit) (k : V → Option β) : Option β := F β e.1.1 e.2.1.1 e.2.1.2.1 e.2.1.2.2.1 e.2.1.2.2.2.1 e.2.1.2.2.2.2.1 e.2.1.2.2.2.2.2.1 e.2.1.2.2.2.2.2.2.1 e.2.1.2.2.2.2.2.2.2.1 e.2.1.2.2.2.2.2.2.2.2.1 e.2.1.2.2.2.2.2.2.2.2.2.1 (fun y1 => k (.int .i64 y1))
noncomputable abbrev W124 (F : T124) : (β : Type) → List V → (V → Option β) → Option β := wrap s124 (G124 F)
theorem k124 (β : Type) (e : argsT s124) (k : V → Option β) : fnK cfg (tabL []) X124 124 Try.f124 β (argsEnc s124 e) k = G124 (P124 ) β e k := by kernel_rfl
theorem ok124 : FnOk D 124 (W124 F124) := fn_okW [] X124 (fun _ => rfl) Try.func124 rfl (tabL_nil) (k124 )

/-- slices.Contains[[]impl.Entry,impl.Entry] -/
abbrev T89 : Type 1 := (β : Type) → List V → List UInt8 → List UInt8 → List UInt8 → Int → Int → List UInt8 → Int → Bool → List UInt8 → Int → (Bool → Option β) → Option β
noncomputable def P89 (F124 : T124) : T89 := fun β s v_Top v_To_Host v_To_Path v_Response_Status v_Response_Kind v_Response_Body v_Response_Age v_Response_Shares v_Response_Policy v_Until k =>
  F124 _ s v_Top v_To_Host v_To_Path v_Response_Status v_Response_Kind v_Response_Body v_Response_Age v_Response_Shares v_Response_Policy v_Until fun n1 =>
  k (decide (n1 ≥ 0))
noncomputable def F89 : T89 := P89 F124 
abbrev s89 : List (Bool × List CK) := [(false, [.sl 10 true]), (true, [.str, .str, .str, .int .i64, .int .i64, .str, .int .i64, .bool, .str, .int .i64])]
noncomputable def G89 (F : T89) (β : Type) (e : (List V × Unit) × (List UInt8 × List UInt8 × List UInt8 × Int × Int × List UInt8 × Int × Bool × List UInt8 × Int × Unit) × Unit) (k : V → Option β) : Option β := F β e.1.1 e.2.1.1 e.2.1.2.1 e.2.1.2.2.1 e.2.1.2.2.2.1 e.2.1.2.2.2.2.1 e.2.1.2.2.2.2.2.1 e.2.1.2.2.2.2.2.2.1 e.2.1.2.2.2.2.2.2.2.1 e.2.1.2.2.2.2.2.2.2.2.1 e.2.1.2.2.2.2.2.2.2.2.2.1 (fun y1 => k (.bool y1))
noncomputable abbrev W89 (F : T89) : (β : Type) → List V → (V → Option β) → Option β := wrap s89 (G89 F)
theorem k89 (F124 : T124) (β : Type) (e : argsT s89) (k : V → Option β) : fnK cfg (tabL [(124, W124 F124)]) noX 89 Try.f89 β (argsEnc s89 e) k = G89 (P89 F124 ) β e k := by kernel_rfl
theorem ok89 : FnOk D 89 (W89 F89) := fn_okW [(124, W124 F124)] noX (fun _ => rfl) Try.func89 rfl (tabL_cons ok124 tabL_nil) (k89 F124 )

/-- impl.coveredBy -/
abbrev T49 : Type 1 := (β : Type) → List V → List V → (Bool → Option β) → Option β
noncomputable def P49 (F89 : T89) : T49 := fun β a_Entries b_Entries k =>
  whileK (fun s1 =>
    br (decide ((lI s1 2) < (lI s1 1))) (
      chk (0 ≤ (lI s1 2)) <|
      idx true [.str, .str, .str, .int .i64, .int .i64, .str, .int .i64, .bool, .str, .int .i64] (lL s1 0) ((lI s1 2).toNat) fun (e2 : List UInt8 × List UInt8 × List UInt8 × Int × Int × List UInt8 × Int × Bool × List UInt8 × Int × Unit) =>
      F89 _ (lL s1 3) e2.1 e2.2.1 e2.2.2.1 e2.2.2.2.1 e2.2.2.2.2.1 e2.2.2.2.2.2.1 e2.2.2.2.2.2.2.1 e2.2.2.2.2.2.2.2.1 e2.2.2.2.2.2.2.2.2.1 e2.2.2.2.2.2.2.2.2.2.1 fun b3 =>
      br (!b3) (
        some (.inr (0, [.b false]))) (
        some (.inl [.l (lL s1 0), .i (lI s1 1), .i (IntKind.wrap .i64 ((lI s1 2) + 1)), .l (lL s1 3)]))) (
      some (.inr (1, [])))) [.l a_Entries, .i (a_Entries.length : Int), .i 0, .l b_Entries] fun (r4 : Nat × List Leaf) =>
  if r4.1 = 0 then
    k (lB r4.2 0)
  else
    k true
noncomputable def F49 : T49 := P49 F89 
def X49 : Exits := fun i => lookN i [] [(2, [(.ret, xk 20 [(4, .bool false)] []), (.exit 0, xk 20 [] [])])]
abbrev s49 : List (Bool × List CK) := [(true, [.sl 10 true]), (true, [.sl 10 true])]
noncomputable def G49 (F : T49) (β : Type) (e : (List V × Unit) × (List V × Unit) × Unit) (k : V → Option β) : Option β := F β e.1.1 e.2.1.1 (fun y1 => k (.bool y1))
noncomputable abbrev W49 (F : T49) : (β : Type) → List V → (V → Option β) → Option β := wrap s49 (G49 F)
theorem k49 (F89 : T89) (β : Type) (e : argsT s49) (k : V → Option β) : fnK cfg (tabL [(89, W89 F89)]) X49 49 Try.f49 β (argsEnc s49 e) k = G49 (P49 F89 ) β e k := by kernel_rfl
theorem ok49 : FnOk D 49 (W49 F49) := fn_okW [(89, W89 F89)] X49 (fun _ => rfl) Try.func49 rfl (tabL_cons ok89 tabL_nil) (k49 F89 )

/-- impl.SameCaches -/
abbrev T14 : Type 1 := (β : Type) → List V → List V → (Bool → Option β) → Option β
noncomputable def P14 (F49 : T49) : T14 := fun β a_Entries b_Entries k =>
  F49 _ a_Entries b_Entries fun b1 =>
  br b1 (
    F49 _ b_Entries a_Entries fun b2 =>
    k b2) (
    k false)
noncomputable def F14 : T14 := P14 F49 
abbrev s14 : List (Bool × List CK) := [(true, [.sl 10 true]), (true, [.sl 10 true])]
noncomputable def G14 (F : T14) (β : Type) (e : (List V × Unit) × (List V × Unit) × Unit) (k : V → Option β) : Option β := F β e.1.1 e.2.1.1 (fun y1 => k (.bool y1))
noncomputable abbrev W14 (F : T14) : (β : Type) → List V → (V → Option β) → Option β := wrap s14 (G14 F)
theorem k14 (F49 : T49) (β : Type) (e : argsT s14) (k : V → Option β) : fnK cfg (tabL [(49, W49 F49)]) noX 14 Try.f14 β (argsEnc s14 e) k = G14 (P14 F49 ) β e k := by kernel_rfl
theorem ok14 : FnOk D 14 (W14 F14) := fn_okW [(49, W49 F49)] noX (fun _ => rfl) Try.func14 rfl (tabL_cons ok49 tabL_nil) (k14 F49 )

/-- laws.eqAddr -/
abbrev T86 : Type 1 := (β : Type) → List UInt8 → List UInt8 → List UInt8 → List UInt8 → (Bool → Option β) → Option β
noncomputable def P86 : T86 := fun β a_Host a_Path b_Host b_Path k =>
  br (!(a_Host == b_Host)) (
    k false) (
    br (!(a_Path == b_Path)) (
      k false) (
      k true))
noncomputable def F86 : T86 := P86 
abbrev s86 : List (Bool × List CK) := [(true, [.str, .str]), (true, [.str, .str])]
noncomputable def G86 (F : T86) (β : Type) (e : (List UInt8 × List UInt8 × Unit) × (List UInt8 × List UInt8 × Unit) × Unit) (k : V → Option β) : Option β := F β e.1.1 e.1.2.1 e.2.1.1 e.2.1.2.1 (fun y1 => k (.bool y1))
noncomputable abbrev W86 (F : T86) : (β : Type) → List V → (V → Option β) → Option β := wrap s86 (G86 F)
theorem k86 (β : Type) (e : argsT s86) (k : V → Option β) : fnK cfg (tabL []) noX 86 Try.f86 β (argsEnc s86 e) k = G86 (P86 ) β e k := by kernel_rfl
theorem ok86 : FnOk D 86 (W86 F86) := fn_okW [] noX (fun _ => rfl) Try.func86 rfl (tabL_nil) (k86 )

/-- laws.eqResponse -/
abbrev T125 : Type 1 := (β : Type) → Int → Int → List UInt8 → Int → Bool → List UInt8 → Int → Int → List UInt8 → Int → Bool → List UInt8 → (Bool → Option β) → Option β
noncomputable def P125 : T125 := fun β a_Status a_Kind a_Body a_Age a_Shares a_Policy b_Status b_Kind b_Body b_Age b_Shares b_Policy k =>
  br (a_Status != b_Status) (
    k false) (
    br (a_Kind != b_Kind) (
      k false) (
      br (!(a_Body == b_Body)) (
        k false) (
        br (a_Age != b_Age) (
          k false) (
          br (!(a_Shares == b_Shares)) (
            k false) (
            br (!(a_Policy == b_Policy)) (
              k false) (
              k true))))))
noncomputable def F125 : T125 := P125 
abbrev s125 : List (Bool × List CK) := [(true, [.int .i64, .int .i64, .str, .int .i64, .bool, .str]), (true, [.int .i64, .int .i64, .str, .int .i64, .bool, .str])]
noncomputable def G125 (F : T125) (β : Type) (e : (Int × Int × List UInt8 × Int × Bool × List UInt8 × Unit) × (Int × Int × List UInt8 × Int × Bool × List UInt8 × Unit) × Unit) (k : V → Option β) : Option β := F β e.1.1 e.1.2.1 e.1.2.2.1 e.1.2.2.2.1 e.1.2.2.2.2.1 e.1.2.2.2.2.2.1 e.2.1.1 e.2.1.2.1 e.2.1.2.2.1 e.2.1.2.2.2.1 e.2.1.2.2.2.2.1 e.2.1.2.2.2.2.2.1 (fun y1 => k (.bool y1))
noncomputable abbrev W125 (F : T125) : (β : Type) → List V → (V → Option β) → Option β := wrap s125 (G125 F)
theorem k125 (β : Type) (e : argsT s125) (k : V → Option β) : fnK cfg (tabL []) noX 125 Try.f125 β (argsEnc s125 e) k = G125 (P125 ) β e k := by kernel_rfl
theorem ok125 : FnOk D 125 (W125 F125) := fn_okW [] noX (fun _ => rfl) Try.func125 rfl (tabL_nil) (k125 )

/-- laws.eqEntry -/
abbrev T90 : Type 1 := (β : Type) → List UInt8 → List UInt8 → List UInt8 → Int → Int → List UInt8 → Int → Bool → List UInt8 → Int → List UInt8 → List UInt8 → List UInt8 → Int → Int → List UInt8 → Int → Bool → List UInt8 → Int → (Bool → Option β) → Option β
noncomputable def P90 (F86 : T86) (F125 : T125) : T90 := fun β a_Top a_To_Host a_To_Path a_Response_Status a_Response_Kind a_Response_Body a_Response_Age a_Response_Shares a_Response_Policy a_Until b_Top b_To_Host b_To_Path b_Response_Status b_Response_Kind b_Response_Body b_Response_Age b_Response_Shares b_Response_Policy b_Until k =>
  br (!(a_Top == b_Top)) (
    k false) (
    F86 _ a_To_Host a_To_Path b_To_Host b_To_Path fun b1 =>
    br (!b1) (
      k false) (
      F125 _ a_Response_Status a_Response_Kind a_Response_Body a_Response_Age a_Response_Shares a_Response_Policy b_Response_Status b_Response_Kind b_Response_Body b_Response_Age b_Response_Shares b_Response_Policy fun b2 =>
      br (!b2) (
        k false) (
        br (a_Until != b_Until) (
          k false) (
          k true))))
noncomputable def F90 : T90 := P90 F86 F125 
abbrev s90 : List (Bool × List CK) := [(true, [.str, .str, .str, .int .i64, .int .i64, .str, .int .i64, .bool, .str, .int .i64]), (true, [.str, .str, .str, .int .i64, .int .i64, .str, .int .i64, .bool, .str, .int .i64])]
noncomputable def G90 (F : T90) (β : Type) (e : (List UInt8 × List UInt8 × List UInt8 × Int × Int × List UInt8 × Int × Bool × List UInt8 × Int × Unit) × (List UInt8 × List UInt8 × List UInt8 × Int × Int × List UInt8 × Int × Bool × List UInt8 × Int × Unit) × Unit) (k : V → Option β) : Option β := F β e.1.1 e.1.2.1 e.1.2.2.1 e.1.2.2.2.1 e.1.2.2.2.2.1 e.1.2.2.2.2.2.1 e.1.2.2.2.2.2.2.1 e.1.2.2.2.2.2.2.2.1 e.1.2.2.2.2.2.2.2.2.1 e.1.2.2.2.2.2.2.2.2.2.1 e.2.1.1 e.2.1.2.1 e.2.1.2.2.1 e.2.1.2.2.2.1 e.2.1.2.2.2.2.1 e.2.1.2.2.2.2.2.1 e.2.1.2.2.2.2.2.2.1 e.2.1.2.2.2.2.2.2.2.1 e.2.1.2.2.2.2.2.2.2.2.1 e.2.1.2.2.2.2.2.2.2.2.2.1 (fun y1 => k (.bool y1))
noncomputable abbrev W90 (F : T90) : (β : Type) → List V → (V → Option β) → Option β := wrap s90 (G90 F)
theorem k90 (F86 : T86) (F125 : T125) (β : Type) (e : argsT s90) (k : V → Option β) : fnK cfg (tabL [(86, W86 F86), (125, W125 F125)]) noX 90 Try.f90 β (argsEnc s90 e) k = G90 (P90 F86 F125 ) β e k := by kernel_rfl
theorem ok90 : FnOk D 90 (W90 F90) := fn_okW [(86, W86 F86), (125, W125 F125)] noX (fun _ => rfl) Try.func90 rfl (tabL_cons ok86 (tabL_cons ok125 tabL_nil)) (k90 F86 F125 )

/-- laws.eqEntryS -/
abbrev T50 : Type 1 := (β : Type) → List V → List V → (Bool → Option β) → Option β
noncomputable def P50 (F90 : T90) : T50 := fun β a b k =>
  br ((a.length : Int) != (b.length : Int)) (
    k false) (
    whileK (fun s1 =>
      br (decide ((lI s1 2) < ((lL s1 0).length : Int))) (
        chk (0 ≤ (lI s1 2)) <|
        idx true [.str, .str, .str, .int .i64, .int .i64, .str, .int .i64, .bool, .str, .int .i64] (lL s1 0) ((lI s1 2).toNat) fun (e2 : List UInt8 × List UInt8 × List UInt8 × Int × Int × List UInt8 × Int × Bool × List UInt8 × Int × Unit) =>
        chk (0 ≤ (lI s1 2)) <|
        idx true [.str, .str, .str, .int .i64, .int .i64, .str, .int .i64, .bool, .str, .int .i64] (lL s1 1) ((lI s1 2).toNat) fun (e3 : List UInt8 × List UInt8 × List UInt8 × Int × Int × List UInt8 × Int × Bool × List UInt8 × Int × Unit) =>
        F90 _ e2.1 e2.2.1 e2.2.2.1 e2.2.2.2.1 e2.2.2.2.2.1 e2.2.2.2.2.2.1 e2.2.2.2.2.2.2.1 e2.2.2.2.2.2.2.2.1 e2.2.2.2.2.2.2.2.2.1 e2.2.2.2.2.2.2.2.2.2.1 e3.1 e3.2.1 e3.2.2.1 e3.2.2.2.1 e3.2.2.2.2.1 e3.2.2.2.2.2.1 e3.2.2.2.2.2.2.1 e3.2.2.2.2.2.2.2.1 e3.2.2.2.2.2.2.2.2.1 e3.2.2.2.2.2.2.2.2.2.1 fun b4 =>
        br (!b4) (
          some (.inr (0, [.b false]))) (
          some (.inl [.l (lL s1 0), .l (lL s1 1), .i (IntKind.wrap .i64 ((lI s1 2) + 1))]))) (
        some (.inr (1, [])))) [.l a, .l b, .i 0] fun (r5 : Nat × List Leaf) =>
    if r5.1 = 0 then
      k (lB r5.2 0)
    else
      k true)
noncomputable def F50 : T50 := P50 F90 
def X50 : Exits := fun i => lookN i [] [(4, [(.ret, xk 27 [(4, .bool false)] []), (.exit 0, xk 27 [] [])])]
abbrev s50 : List (Bool × List CK) := [(false, [.sl 10 true]), (false, [.sl 10 true])]
noncomputable def G50 (F : T50) (β : Type) (e : (List V × Unit) × (List V × Unit) × Unit) (k : V → Option β) : Option β := F β e.1.1 e.2.1.1 (fun y1 => k (.bool y1))
noncomputable abbrev W50 (F : T50) : (β : Type) → List V → (V → Option β) → Option β := wrap s50 (G50 F)
theorem k50 (F90 : T90) (β : Type) (e : argsT s50) (k : V → Option β) : fnK cfg (tabL [(90, W90 F90)]) X50 50 Try.f50 β (argsEnc s50 e) k = G50 (P50 F90 ) β e k := by kernel_rfl
theorem ok50 : FnOk D 50 (W50 F50) := fn_okW [(90, W90 F90)] X50 (fun _ => rfl) Try.func50 rfl (tabL_cons ok90 tabL_nil) (k50 F90 )

/-- laws.eqCache -/
abbrev T15 : Type 1 := (β : Type) → List V → List V → (Bool → Option β) → Option β
noncomputable def P15 (F50 : T50) : T15 := fun β a_Entries b_Entries k =>
  F50 _ a_Entries b_Entries fun b1 =>
  br (!b1) (
    k false) (
    k true)
noncomputable def F15 : T15 := P15 F50 
abbrev s15 : List (Bool × List CK) := [(true, [.sl 10 true]), (true, [.sl 10 true])]
noncomputable def G15 (F : T15) (β : Type) (e : (List V × Unit) × (List V × Unit) × Unit) (k : V → Option β) : Option β := F β e.1.1 e.2.1.1 (fun y1 => k (.bool y1))
noncomputable abbrev W15 (F : T15) : (β : Type) → List V → (V → Option β) → Option β := wrap s15 (G15 F)
theorem k15 (F50 : T50) (β : Type) (e : argsT s15) (k : V → Option β) : fnK cfg (tabL [(50, W50 F50)]) noX 15 Try.f15 β (argsEnc s15 e) k = G15 (P15 F50 ) β e k := by kernel_rfl
theorem ok15 : FnOk D 15 (W15 F15) := fn_okW [(50, W50 F50)] noX (fun _ => rfl) Try.func15 rfl (tabL_cons ok50 tabL_nil) (k15 F50 )

/-- laws.FnExactSameCaches -/
abbrev T3 : Type 1 := (β : Type) → List V → List V → (Bool → Option β) → Option β
noncomputable def P3 (F11 : T11) (F13 : T13) (F12 : T12) (F14 : T14) (F15 : T15) : T3 := fun β aA_Entries aB_Entries k =>
  F11 _ aA_Entries 1048576 fun n1 =>
  br (decide (n1 < 0)) (
    k true) (
    F11 _ aB_Entries n1 fun n2 =>
    br (decide (n2 < 0)) (
      k true) (
      F13 _ aA_Entries fun l3 =>
      F13 _ aB_Entries fun l4 =>
      F12 _ l3 l4 fun b5 =>
      F13 _ aA_Entries fun l6 =>
      F13 _ aB_Entries fun l7 =>
      F14 _ l6 l7 fun b8 =>
      br (!(b8 == b5)) (
        k false) (
        F13 _ aA_Entries fun l9 =>
        F15 _ l6 l9 fun b10 =>
        br (!b10) (
          k false) (
          F13 _ aB_Entries fun l11 =>
          F15 _ l7 l11 fun b12 =>
          br (!b12) (
            k false) (
            k true)))))
noncomputable def F3 : T3 := P3 F11 F13 F12 F14 F15 
abbrev s3 : List (Bool × List CK) := [(true, [.sl 10 true]), (true, [.sl 10 true])]
noncomputable def G3 (F : T3) (β : Type) (e : (List V × Unit) × (List V × Unit) × Unit) (k : V → Option β) : Option β := F β e.1.1 e.2.1.1 (fun y1 => k (.bool y1))
noncomputable abbrev W3 (F : T3) : (β : Type) → List V → (V → Option β) → Option β := wrap s3 (G3 F)
theorem k3 (F11 : T11) (F13 : T13) (F12 : T12) (F14 : T14) (F15 : T15) (β : Type) (e : argsT s3) (k : V → Option β) : fnK cfg (tabL [(11, W11 F11), (13, W13 F13), (12, W12 F12), (14, W14 F14), (15, W15 F15)]) noX 3 Try.f3 β (argsEnc s3 e) k = G3 (P3 F11 F13 F12 F14 F15 ) β e k := by kernel_rfl
theorem ok3 : FnOk D 3 (W3 F3) := fn_okW [(11, W11 F11), (13, W13 F13), (12, W12 F12), (14, W14 F14), (15, W15 F15)] noX (fun _ => rfl) Try.func3 rfl (tabL_cons ok11 (tabL_cons ok13 (tabL_cons ok12 (tabL_cons ok14 (tabL_cons ok15 tabL_nil))))) (k3 F11 F13 F12 F14 F15 )

end Go.Am

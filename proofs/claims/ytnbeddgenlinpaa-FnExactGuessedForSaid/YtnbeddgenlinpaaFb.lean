/-
  Functions of the program, extracted by program (sym.py) out of their code: what each computes, and, by the kernel's reckoning, that the machine's looking form computes just that; so what the machine answers.
-/
import Derived.Test.YtnbeddgenlinpaaAmCfg
import Derived.Test.YtnbeddgenlinpaaAmEvOk2
import Derived.KernelRfl
set_option maxRecDepth 10000
namespace Go.Am
open Go Go.Proofs
def ext0 : Nat → List V → Option V := fun _ _ => none
noncomputable abbrev D : Nat → List V → Option V := den Try.prog cfg ext0
/-- laws.szResponse -/
abbrev T121 : Type 1 := (β : Type) → Int → Int → List UInt8 → Int → Bool → List UInt8 → Int → (Int → Option β) → Option β
noncomputable def P121 : T121 := fun β a_Status a_Kind a_Body a_Age a_Shares a_Policy left k =>
  br (decide (IntKind.wrap .i64 (left - (a_Body.length : Int)) < 0)) (
    k (-1)) (
    br (decide (IntKind.wrap .i64 ((IntKind.wrap .i64 (left - (a_Body.length : Int))) - (a_Policy.length : Int)) < 0)) (
      k (-1)) (
      k (IntKind.wrap .i64 ((IntKind.wrap .i64 (left - (a_Body.length : Int))) - (a_Policy.length : Int)))))
noncomputable def F121 : T121 := P121 
abbrev s121 : List (Bool × List CK) := [(true, [.int .i64, .int .i64, .str, .int .i64, .bool, .str]), (false, [.int .i64])]
noncomputable def G121 (F : T121) (β : Type) (e : (Int × Int × List UInt8 × Int × Bool × List UInt8 × Unit) × (Int × Unit) × Unit) (k : V → Option β) : Option β := F β e.1.1 e.1.2.1 e.1.2.2.1 e.1.2.2.2.1 e.1.2.2.2.2.1 e.1.2.2.2.2.2.1 e.2.1.1 (fun y1 => k (.int .i64 y1))
noncomputable abbrev W121 (F : T121) : (β : Type) → List V → (V → Option β) → Option β := wrap s121 (G121 F)
theorem k121 (β : Type) (e : argsT s121) (k : V → Option β) : fnK cfg (tabL []) noX 121 Try.f121 β (argsEnc s121 e) k = G121 (P121 ) β e k := by kernel_rfl
theorem ok121 : FnOk D 121 (W121 F121) := fn_okW [] noX (fun _ => rfl) Try.func121 rfl (tabL_nil) (k121 )

/-- laws.szFile -/
abbrev T144 : Type 1 := (β : Type) → List UInt8 → Int → Int → List UInt8 → Int → Bool → List UInt8 → Int → (Int → Option β) → Option β
noncomputable def P144 (F121 : T121) : T144 := fun β a_Path a_Response_Status a_Response_Kind a_Response_Body a_Response_Age a_Response_Shares a_Response_Policy left k =>
  br (decide (IntKind.wrap .i64 (left - (a_Path.length : Int)) < 0)) (
    k (-1)) (
    F121 _ a_Response_Status a_Response_Kind a_Response_Body a_Response_Age a_Response_Shares a_Response_Policy (IntKind.wrap .i64 (left - (a_Path.length : Int))) fun n1 =>
    br (decide (n1 < 0)) (
      k (-1)) (
      k n1))
noncomputable def F144 : T144 := P144 F121 
abbrev s144 : List (Bool × List CK) := [(true, [.str, .int .i64, .int .i64, .str, .int .i64, .bool, .str]), (false, [.int .i64])]
noncomputable def G144 (F : T144) (β : Type) (e : (List UInt8 × Int × Int × List UInt8 × Int × Bool × List UInt8 × Unit) × (Int × Unit) × Unit) (k : V → Option β) : Option β := F β e.1.1 e.1.2.1 e.1.2.2.1 e.1.2.2.2.1 e.1.2.2.2.2.1 e.1.2.2.2.2.2.1 e.1.2.2.2.2.2.2.1 e.2.1.1 (fun y1 => k (.int .i64 y1))
noncomputable abbrev W144 (F : T144) : (β : Type) → List V → (V → Option β) → Option β := wrap s144 (G144 F)
theorem k144 (F121 : T121) (β : Type) (e : argsT s144) (k : V → Option β) : fnK cfg (tabL [(121, W121 F121)]) noX 144 Try.f144 β (argsEnc s144 e) k = G144 (P144 F121 ) β e k := by kernel_rfl
theorem ok144 : FnOk D 144 (W144 F144) := fn_okW [(121, W121 F121)] noX (fun _ => rfl) Try.func144 rfl (tabL_cons ok121 tabL_nil) (k144 F121 )

/-- laws.szFileS -/
abbrev T129 : Type 1 := (β : Type) → List V → Int → (Int → Option β) → Option β
noncomputable def P129 (F144 : T144) : T129 := fun β a left k =>
  br (decide (IntKind.wrap .i64 (left - (a.length : Int)) < 0)) (
    k (-1)) (
    whileK (fun s1 =>
      br (decide ((lI s1 2) < ((lL s1 0).length : Int))) (
        chk (0 ≤ (lI s1 2)) <|
        idx true [.str, .int .i64, .int .i64, .str, .int .i64, .bool, .str] (lL s1 0) ((lI s1 2).toNat) fun (e2 : List UInt8 × Int × Int × List UInt8 × Int × Bool × List UInt8 × Unit) =>
        F144 _ e2.1 e2.2.1 e2.2.2.1 e2.2.2.2.1 e2.2.2.2.2.1 e2.2.2.2.2.2.1 e2.2.2.2.2.2.2.1 (lI s1 1) fun n3 =>
        br (decide (n3 < 0)) (
          some (.inr (0, [.i n3, .i (-1)]))) (
          some (.inl [.l (lL s1 0), .i n3, .i (IntKind.wrap .i64 ((lI s1 2) + 1))]))) (
        some (.inr (1, [.i (lI s1 1)])))) [.l a, .i (IntKind.wrap .i64 (left - (a.length : Int))), .i 0] fun (r4 : Nat × List Leaf) =>
    if r4.1 = 0 then
      k (lI r4.2 1)
    else
      k (lI r4.2 0))
noncomputable def F129 : T129 := P129 F144 
def X129 : Exits := fun i => lookN i [] [(5, [(.ret, xk 27 [(1, .int .i64 0), (4, .int .i64 0)] []), (.exit 0, xk 27 [(1, .int .i64 0)] [])])]
abbrev s129 : List (Bool × List CK) := [(false, [.sl 7 true]), (false, [.int .i64])]
noncomputable def G129 (F : T129) (β : Type) (e : (List V × Unit) × (Int × Unit) × Unit) (k : V → Option β) : Option β := F β e.1.1 e.2.1.1 (fun y1 => k (.int .i64 y1))
noncomputable abbrev W129 (F : T129) : (β : Type) → List V → (V → Option β) → Option β := wrap s129 (G129 F)
theorem k129 (F144 : T144) (β : Type) (e : argsT s129) (k : V → Option β) : fnK cfg (tabL [(144, W144 F144)]) X129 129 Try.f129 β (argsEnc s129 e) k = G129 (P129 F144 ) β e k := by kernel_rfl
theorem ok129 : FnOk D 129 (W129 F129) := fn_okW [(144, W144 F144)] X129 (fun _ => rfl) Try.func129 rfl (tabL_cons ok144 tabL_nil) (k129 F144 )

/-- laws.szServer -/
abbrev T96 : Type 1 := (β : Type) → List UInt8 → List V → Int → (Int → Option β) → Option β
noncomputable def P96 (F129 : T129) : T96 := fun β a_Host a_Files left k =>
  br (decide (IntKind.wrap .i64 (left - (a_Host.length : Int)) < 0)) (
    k (-1)) (
    F129 _ a_Files (IntKind.wrap .i64 (left - (a_Host.length : Int))) fun n1 =>
    br (decide (n1 < 0)) (
      k (-1)) (
      k n1))
noncomputable def F96 : T96 := P96 F129 
abbrev s96 : List (Bool × List CK) := [(true, [.str, .sl 7 true]), (false, [.int .i64])]
noncomputable def G96 (F : T96) (β : Type) (e : (List UInt8 × List V × Unit) × (Int × Unit) × Unit) (k : V → Option β) : Option β := F β e.1.1 e.1.2.1 e.2.1.1 (fun y1 => k (.int .i64 y1))
noncomputable abbrev W96 (F : T96) : (β : Type) → List V → (V → Option β) → Option β := wrap s96 (G96 F)
theorem k96 (F129 : T129) (β : Type) (e : argsT s96) (k : V → Option β) : fnK cfg (tabL [(129, W129 F129)]) noX 96 Try.f96 β (argsEnc s96 e) k = G96 (P96 F129 ) β e k := by kernel_rfl
theorem ok96 : FnOk D 96 (W96 F96) := fn_okW [(129, W129 F129)] noX (fun _ => rfl) Try.func96 rfl (tabL_cons ok129 tabL_nil) (k96 F129 )

/-- laws.szServerS -/
abbrev T57 : Type 1 := (β : Type) → List V → Int → (Int → Option β) → Option β
noncomputable def P57 (F96 : T96) : T57 := fun β a left k =>
  br (decide (IntKind.wrap .i64 (left - (a.length : Int)) < 0)) (
    k (-1)) (
    whileK (fun s1 =>
      br (decide ((lI s1 2) < ((lL s1 0).length : Int))) (
        chk (0 ≤ (lI s1 2)) <|
        idx true [.str, .sl 7 true] (lL s1 0) ((lI s1 2).toNat) fun (e2 : List UInt8 × List V × Unit) =>
        F96 _ e2.1 e2.2.1 (lI s1 1) fun n3 =>
        br (decide (n3 < 0)) (
          some (.inr (0, [.i n3, .i (-1)]))) (
          some (.inl [.l (lL s1 0), .i n3, .i (IntKind.wrap .i64 ((lI s1 2) + 1))]))) (
        some (.inr (1, [.i (lI s1 1)])))) [.l a, .i (IntKind.wrap .i64 (left - (a.length : Int))), .i 0] fun (r4 : Nat × List Leaf) =>
    if r4.1 = 0 then
      k (lI r4.2 1)
    else
      k (lI r4.2 0))
noncomputable def F57 : T57 := P57 F96 
def X57 : Exits := fun i => lookN i [] [(5, [(.ret, xk 27 [(1, .int .i64 0), (4, .int .i64 0)] []), (.exit 0, xk 27 [(1, .int .i64 0)] [])])]
abbrev s57 : List (Bool × List CK) := [(false, [.sl 2 false]), (false, [.int .i64])]
noncomputable def G57 (F : T57) (β : Type) (e : (List V × Unit) × (Int × Unit) × Unit) (k : V → Option β) : Option β := F β e.1.1 e.2.1.1 (fun y1 => k (.int .i64 y1))
noncomputable abbrev W57 (F : T57) : (β : Type) → List V → (V → Option β) → Option β := wrap s57 (G57 F)
theorem k57 (F96 : T96) (β : Type) (e : argsT s57) (k : V → Option β) : fnK cfg (tabL [(96, W96 F96)]) X57 57 Try.f57 β (argsEnc s57 e) k = G57 (P57 F96 ) β e k := by kernel_rfl
theorem ok57 : FnOk D 57 (W57 F57) := fn_okW [(96, W96 F96)] X57 (fun _ => rfl) Try.func57 rfl (tabL_cons ok96 tabL_nil) (k57 F96 )

/-- laws.szAddr -/
abbrev T120 : Type 1 := (β : Type) → List UInt8 → List UInt8 → Int → (Int → Option β) → Option β
noncomputable def P120 : T120 := fun β a_Host a_Path left k =>
  br (decide (IntKind.wrap .i64 (left - (a_Host.length : Int)) < 0)) (
    k (-1)) (
    br (decide (IntKind.wrap .i64 ((IntKind.wrap .i64 (left - (a_Host.length : Int))) - (a_Path.length : Int)) < 0)) (
      k (-1)) (
      k (IntKind.wrap .i64 ((IntKind.wrap .i64 (left - (a_Host.length : Int))) - (a_Path.length : Int)))))
noncomputable def F120 : T120 := P120 
abbrev s120 : List (Bool × List CK) := [(true, [.str, .str]), (false, [.int .i64])]
noncomputable def G120 (F : T120) (β : Type) (e : (List UInt8 × List UInt8 × Unit) × (Int × Unit) × Unit) (k : V → Option β) : Option β := F β e.1.1 e.1.2.1 e.2.1.1 (fun y1 => k (.int .i64 y1))
noncomputable abbrev W120 (F : T120) : (β : Type) → List V → (V → Option β) → Option β := wrap s120 (G120 F)
theorem k120 (β : Type) (e : argsT s120) (k : V → Option β) : fnK cfg (tabL []) noX 120 Try.f120 β (argsEnc s120 e) k = G120 (P120 ) β e k := by kernel_rfl
theorem ok120 : FnOk D 120 (W120 F120) := fn_okW [] noX (fun _ => rfl) Try.func120 rfl (tabL_nil) (k120 )

/-- laws.szEntry -/
abbrev T87 : Type 1 := (β : Type) → List UInt8 → List UInt8 → List UInt8 → Int → Int → List UInt8 → Int → Bool → List UInt8 → Int → Int → (Int → Option β) → Option β
noncomputable def P87 (F120 : T120) (F121 : T121) : T87 := fun β a_Top a_To_Host a_To_Path a_Response_Status a_Response_Kind a_Response_Body a_Response_Age a_Response_Shares a_Response_Policy a_Until left k =>
  br (decide (IntKind.wrap .i64 (left - (a_Top.length : Int)) < 0)) (
    k (-1)) (
    F120 _ a_To_Host a_To_Path (IntKind.wrap .i64 (left - (a_Top.length : Int))) fun n1 =>
    br (decide (n1 < 0)) (
      k (-1)) (
      F121 _ a_Response_Status a_Response_Kind a_Response_Body a_Response_Age a_Response_Shares a_Response_Policy n1 fun n2 =>
      br (decide (n2 < 0)) (
        k (-1)) (
        k n2)))
noncomputable def F87 : T87 := P87 F120 F121 
abbrev s87 : List (Bool × List CK) := [(true, [.str, .str, .str, .int .i64, .int .i64, .str, .int .i64, .bool, .str, .int .i64]), (false, [.int .i64])]
noncomputable def G87 (F : T87) (β : Type) (e : (List UInt8 × List UInt8 × List UInt8 × Int × Int × List UInt8 × Int × Bool × List UInt8 × Int × Unit) × (Int × Unit) × Unit) (k : V → Option β) : Option β := F β e.1.1 e.1.2.1 e.1.2.2.1 e.1.2.2.2.1 e.1.2.2.2.2.1 e.1.2.2.2.2.2.1 e.1.2.2.2.2.2.2.1 e.1.2.2.2.2.2.2.2.1 e.1.2.2.2.2.2.2.2.2.1 e.1.2.2.2.2.2.2.2.2.2.1 e.2.1.1 (fun y1 => k (.int .i64 y1))
noncomputable abbrev W87 (F : T87) : (β : Type) → List V → (V → Option β) → Option β := wrap s87 (G87 F)
theorem k87 (F120 : T120) (F121 : T121) (β : Type) (e : argsT s87) (k : V → Option β) : fnK cfg (tabL [(120, W120 F120), (121, W121 F121)]) noX 87 Try.f87 β (argsEnc s87 e) k = G87 (P87 F120 F121 ) β e k := by kernel_rfl
theorem ok87 : FnOk D 87 (W87 F87) := fn_okW [(120, W120 F120), (121, W121 F121)] noX (fun _ => rfl) Try.func87 rfl (tabL_cons ok120 (tabL_cons ok121 tabL_nil)) (k87 F120 F121 )

/-- laws.szEntryS -/
abbrev T46 : Type 1 := (β : Type) → List V → Int → (Int → Option β) → Option β
noncomputable def P46 (F87 : T87) : T46 := fun β a left k =>
  br (decide (IntKind.wrap .i64 (left - (a.length : Int)) < 0)) (
    k (-1)) (
    whileK (fun s1 =>
      br (decide ((lI s1 2) < ((lL s1 0).length : Int))) (
        chk (0 ≤ (lI s1 2)) <|
        idx true [.str, .str, .str, .int .i64, .int .i64, .str, .int .i64, .bool, .str, .int .i64] (lL s1 0) ((lI s1 2).toNat) fun (e2 : List UInt8 × List UInt8 × List UInt8 × Int × Int × List UInt8 × Int × Bool × List UInt8 × Int × Unit) =>
        F87 _ e2.1 e2.2.1 e2.2.2.1 e2.2.2.2.1 e2.2.2.2.2.1 e2.2.2.2.2.2.1 e2.2.2.2.2.2.2.1 e2.2.2.2.2.2.2.2.1 e2.2.2.2.2.2.2.2.2.1 e2.2.2.2.2.2.2.2.2.2.1 (lI s1 1) fun n3 =>
        br (decide (n3 < 0)) (
          some (.inr (0, [.i n3, .i (-1)]))) (
          some (.inl [.l (lL s1 0), .i n3, .i (IntKind.wrap .i64 ((lI s1 2) + 1))]))) (
        some (.inr (1, [.i (lI s1 1)])))) [.l a, .i (IntKind.wrap .i64 (left - (a.length : Int))), .i 0] fun (r4 : Nat × List Leaf) =>
    if r4.1 = 0 then
      k (lI r4.2 1)
    else
      k (lI r4.2 0))
noncomputable def F46 : T46 := P46 F87 
def X46 : Exits := fun i => lookN i [] [(5, [(.ret, xk 27 [(1, .int .i64 0), (4, .int .i64 0)] []), (.exit 0, xk 27 [(1, .int .i64 0)] [])])]
abbrev s46 : List (Bool × List CK) := [(false, [.sl 10 true]), (false, [.int .i64])]
noncomputable def G46 (F : T46) (β : Type) (e : (List V × Unit) × (Int × Unit) × Unit) (k : V → Option β) : Option β := F β e.1.1 e.2.1.1 (fun y1 => k (.int .i64 y1))
noncomputable abbrev W46 (F : T46) : (β : Type) → List V → (V → Option β) → Option β := wrap s46 (G46 F)
theorem k46 (F87 : T87) (β : Type) (e : argsT s46) (k : V → Option β) : fnK cfg (tabL [(87, W87 F87)]) X46 46 Try.f46 β (argsEnc s46 e) k = G46 (P46 F87 ) β e k := by kernel_rfl
theorem ok46 : FnOk D 46 (W46 F46) := fn_okW [(87, W87 F87)] X46 (fun _ => rfl) Try.func46 rfl (tabL_cons ok87 tabL_nil) (k46 F87 )

/-- laws.szCache -/
abbrev T11 : Type 1 := (β : Type) → List V → Int → (Int → Option β) → Option β
noncomputable def P11 (F46 : T46) : T11 := fun β a_Entries left k =>
  F46 _ a_Entries left fun n1 =>
  br (decide (n1 < 0)) (
    k (-1)) (
    k n1)
noncomputable def F11 : T11 := P11 F46 
abbrev s11 : List (Bool × List CK) := [(true, [.sl 10 true]), (false, [.int .i64])]
noncomputable def G11 (F : T11) (β : Type) (e : (List V × Unit) × (Int × Unit) × Unit) (k : V → Option β) : Option β := F β e.1.1 e.2.1.1 (fun y1 => k (.int .i64 y1))
noncomputable abbrev W11 (F : T11) : (β : Type) → List V → (V → Option β) → Option β := wrap s11 (G11 F)
theorem k11 (F46 : T46) (β : Type) (e : argsT s11) (k : V → Option β) : fnK cfg (tabL [(46, W46 F46)]) noX 11 Try.f11 β (argsEnc s11 e) k = G11 (P11 F46 ) β e k := by kernel_rfl
theorem ok11 : FnOk D 11 (W11 F11) := fn_okW [(46, W46 F46)] noX (fun _ => rfl) Try.func11 rfl (tabL_cons ok46 tabL_nil) (k11 F46 )

/-- laws.szSent -/
abbrev T97 : Type 1 := (β : Type) → List UInt8 → List UInt8 → List UInt8 → Bool → Int → (Int → Option β) → Option β
noncomputable def P97 (F120 : T120) : T97 := fun β a_Top a_To_Host a_To_Path a_Guess left k =>
  br (decide (IntKind.wrap .i64 (left - (a_Top.length : Int)) < 0)) (
    k (-1)) (
    F120 _ a_To_Host a_To_Path (IntKind.wrap .i64 (left - (a_Top.length : Int))) fun n1 =>
    br (decide (n1 < 0)) (
      k (-1)) (
      k n1))
noncomputable def F97 : T97 := P97 F120 
abbrev s97 : List (Bool × List CK) := [(true, [.str, .str, .str, .bool]), (false, [.int .i64])]
noncomputable def G97 (F : T97) (β : Type) (e : (List UInt8 × List UInt8 × List UInt8 × Bool × Unit) × (Int × Unit) × Unit) (k : V → Option β) : Option β := F β e.1.1 e.1.2.1 e.1.2.2.1 e.1.2.2.2.1 e.2.1.1 (fun y1 => k (.int .i64 y1))
noncomputable abbrev W97 (F : T97) : (β : Type) → List V → (V → Option β) → Option β := wrap s97 (G97 F)
theorem k97 (F120 : T120) (β : Type) (e : argsT s97) (k : V → Option β) : fnK cfg (tabL [(120, W120 F120)]) noX 97 Try.f97 β (argsEnc s97 e) k = G97 (P97 F120 ) β e k := by kernel_rfl
theorem ok97 : FnOk D 97 (W97 F97) := fn_okW [(120, W120 F120)] noX (fun _ => rfl) Try.func97 rfl (tabL_cons ok120 tabL_nil) (k97 F120 )

/-- laws.szSentS -/
abbrev T58 : Type 1 := (β : Type) → List V → Int → (Int → Option β) → Option β
noncomputable def P58 (F97 : T97) : T58 := fun β a left k =>
  br (decide (IntKind.wrap .i64 (left - (a.length : Int)) < 0)) (
    k (-1)) (
    whileK (fun s1 =>
      br (decide ((lI s1 2) < ((lL s1 0).length : Int))) (
        chk (0 ≤ (lI s1 2)) <|
        idx true [.str, .str, .str, .bool] (lL s1 0) ((lI s1 2).toNat) fun (e2 : List UInt8 × List UInt8 × List UInt8 × Bool × Unit) =>
        F97 _ e2.1 e2.2.1 e2.2.2.1 e2.2.2.2.1 (lI s1 1) fun n3 =>
        br (decide (n3 < 0)) (
          some (.inr (0, [.i n3, .i (-1)]))) (
          some (.inl [.l (lL s1 0), .i n3, .i (IntKind.wrap .i64 ((lI s1 2) + 1))]))) (
        some (.inr (1, [.i (lI s1 1)])))) [.l a, .i (IntKind.wrap .i64 (left - (a.length : Int))), .i 0] fun (r4 : Nat × List Leaf) =>
    if r4.1 = 0 then
      k (lI r4.2 1)
    else
      k (lI r4.2 0))
noncomputable def F58 : T58 := P58 F97 
def X58 : Exits := fun i => lookN i [] [(5, [(.ret, xk 27 [(1, .int .i64 0), (4, .int .i64 0)] []), (.exit 0, xk 27 [(1, .int .i64 0)] [])])]
abbrev s58 : List (Bool × List CK) := [(false, [.sl 4 true]), (false, [.int .i64])]
noncomputable def G58 (F : T58) (β : Type) (e : (List V × Unit) × (Int × Unit) × Unit) (k : V → Option β) : Option β := F β e.1.1 e.2.1.1 (fun y1 => k (.int .i64 y1))
noncomputable abbrev W58 (F : T58) : (β : Type) → List V → (V → Option β) → Option β := wrap s58 (G58 F)
theorem k58 (F97 : T97) (β : Type) (e : argsT s58) (k : V → Option β) : fnK cfg (tabL [(97, W97 F97)]) X58 58 Try.f58 β (argsEnc s58 e) k = G58 (P58 F97 ) β e k := by kernel_rfl
theorem ok58 : FnOk D 58 (W58 F58) := fn_okW [(97, W97 F97)] X58 (fun _ => rfl) Try.func58 rfl (tabL_cons ok97 tabL_nil) (k58 F97 )

/-- laws.szNet -/
abbrev T21 : Type 1 := (β : Type) → List V → List V → List V → Int → Int → (Int → Option β) → Option β
noncomputable def P21 (F57 : T57) (F11 : T11) (F58 : T58) : T21 := fun β a_Servers a_Cache_Entries a_Log a_Now left k =>
  F57 _ a_Servers left fun n1 =>
  br (decide (n1 < 0)) (
    k (-1)) (
    F11 _ a_Cache_Entries n1 fun n2 =>
    br (decide (n2 < 0)) (
      k (-1)) (
      F58 _ a_Log n2 fun n3 =>
      br (decide (n3 < 0)) (
        k (-1)) (
        k n3)))
noncomputable def F21 : T21 := P21 F57 F11 F58 
abbrev s21 : List (Bool × List CK) := [(true, [.sl 2 false, .sl 10 true, .sl 4 true, .int .i64]), (false, [.int .i64])]
noncomputable def G21 (F : T21) (β : Type) (e : (List V × List V × List V × Int × Unit) × (Int × Unit) × Unit) (k : V → Option β) : Option β := F β e.1.1 e.1.2.1 e.1.2.2.1 e.1.2.2.2.1 e.2.1.1 (fun y1 => k (.int .i64 y1))
noncomputable abbrev W21 (F : T21) : (β : Type) → List V → (V → Option β) → Option β := wrap s21 (G21 F)
theorem k21 (F57 : T57) (F11 : T11) (F58 : T58) (β : Type) (e : argsT s21) (k : V → Option β) : fnK cfg (tabL [(57, W57 F57), (11, W11 F11), (58, W58 F58)]) noX 21 Try.f21 β (argsEnc s21 e) k = G21 (P21 F57 F11 F58 ) β e k := by kernel_rfl
theorem ok21 : FnOk D 21 (W21 F21) := fn_okW [(57, W57 F57), (11, W11 F11), (58, W58 F58)] noX (fun _ => rfl) Try.func21 rfl (tabL_cons ok57 (tabL_cons ok11 (tabL_cons ok58 tabL_nil))) (k21 F57 F11 F58 )

/-- laws.toResponse -/
abbrev T123 : Type 1 := (β : Type) → Int → Int → List UInt8 → Int → Bool → List UInt8 → (Int → Int → List UInt8 → Int → Bool → List UInt8 → Option β) → Option β
noncomputable def P123 : T123 := fun β a_Status a_Kind a_Body a_Age a_Shares a_Policy k =>
  k a_Status a_Kind a_Body a_Age a_Shares a_Policy
noncomputable def F123 : T123 := P123 
abbrev s123 : List (Bool × List CK) := [(true, [.int .i64, .int .i64, .str, .int .i64, .bool, .str])]
noncomputable def G123 (F : T123) (β : Type) (e : (Int × Int × List UInt8 × Int × Bool × List UInt8 × Unit) × Unit) (k : V → Option β) : Option β := F β e.1.1 e.1.2.1 e.1.2.2.1 e.1.2.2.2.1 e.1.2.2.2.2.1 e.1.2.2.2.2.2.1 (fun y1 y2 y3 y4 y5 y6 => k (.agg [.int .i64 y1, .int .i64 y2, .str y3, .int .i64 y4, .bool y5, .str y6]))
noncomputable abbrev W123 (F : T123) : (β : Type) → List V → (V → Option β) → Option β := wrap s123 (G123 F)
theorem k123 (β : Type) (e : argsT s123) (k : V → Option β) : fnK cfg (tabL []) noX 123 Try.f123 β (argsEnc s123 e) k = G123 (P123 ) β e k := by kernel_rfl
theorem ok123 : FnOk D 123 (W123 F123) := fn_okW [] noX (fun _ => rfl) Try.func123 rfl (tabL_nil) (k123 )

/-- laws.toFile -/
abbrev T145 : Type 1 := (β : Type) → List UInt8 → Int → Int → List UInt8 → Int → Bool → List UInt8 → (List UInt8 → Int → Int → List UInt8 → Int → Bool → List UInt8 → Option β) → Option β
noncomputable def P145 (F123 : T123) : T145 := fun β a_Path a_Response_Status a_Response_Kind a_Response_Body a_Response_Age a_Response_Shares a_Response_Policy k =>
  F123 _ a_Response_Status a_Response_Kind a_Response_Body a_Response_Age a_Response_Shares a_Response_Policy fun n1 n2 t3 n4 b5 t6 =>
  k a_Path n1 n2 t3 n4 b5 t6
noncomputable def F145 : T145 := P145 F123 
abbrev s145 : List (Bool × List CK) := [(true, [.str, .int .i64, .int .i64, .str, .int .i64, .bool, .str])]
noncomputable def G145 (F : T145) (β : Type) (e : (List UInt8 × Int × Int × List UInt8 × Int × Bool × List UInt8 × Unit) × Unit) (k : V → Option β) : Option β := F β e.1.1 e.1.2.1 e.1.2.2.1 e.1.2.2.2.1 e.1.2.2.2.2.1 e.1.2.2.2.2.2.1 e.1.2.2.2.2.2.2.1 (fun y1 y2 y3 y4 y5 y6 y7 => k (.agg [.str y1, .int .i64 y2, .int .i64 y3, .str y4, .int .i64 y5, .bool y6, .str y7]))
noncomputable abbrev W145 (F : T145) : (β : Type) → List V → (V → Option β) → Option β := wrap s145 (G145 F)
theorem k145 (F123 : T123) (β : Type) (e : argsT s145) (k : V → Option β) : fnK cfg (tabL [(123, W123 F123)]) noX 145 Try.f145 β (argsEnc s145 e) k = G145 (P145 F123 ) β e k := by kernel_rfl
theorem ok145 : FnOk D 145 (W145 F145) := fn_okW [(123, W123 F123)] noX (fun _ => rfl) Try.func145 rfl (tabL_cons ok123 tabL_nil) (k145 F123 )

/-- laws.toFileS -/
abbrev T130 : Type 1 := (β : Type) → List V → (List V → Option β) → Option β
noncomputable def P130 (F145 : T145) : T130 := fun β a k =>
  chk (0 ≤ (a.length : Int) ∧ (a.length : Int) ≤ (a.length : Int) ∧ (a.length : Int) * 80 ≤ 140737488355328 ∧ (a.length : Int) ≤ 140737488355328) <|
  whileK (fun s1 =>
    br (decide ((lI s1 2) < ((lL s1 0).length : Int))) (
      chk (0 ≤ (lI s1 2)) <|
      idx true [.str, .int .i64, .int .i64, .str, .int .i64, .bool, .str] (lL s1 0) ((lI s1 2).toNat) fun (e2 : List UInt8 × Int × Int × List UInt8 × Int × Bool × List UInt8 × Unit) =>
      F145 _ e2.1 e2.2.1 e2.2.2.1 e2.2.2.2.1 e2.2.2.2.2.1 e2.2.2.2.2.2.1 e2.2.2.2.2.2.2.1 fun t3 n4 n5 t6 n7 b8 t9 =>
      chk (0 ≤ (lI s1 2) ∧ (lI s1 2).toNat < (lL s1 1).length) <|
      storeO (lL s1 1) ((lI s1 2).toNat) 0 [.str t3, .int .i64 n4, .int .i64 n5, .str t6, .int .i64 n7, .bool b8, .str t9] fun l10 =>
      some (.inl [.l (lL s1 0), .l l10, .i (IntKind.wrap .i64 ((lI s1 2) + 1))])) (
      some (.inr (0, [.l (lL s1 1)])))) [.l a, .l (List.replicate ((a.length : Int).toNat) (.agg [.str [], .int .i64 0, .int .i64 0, .str [], .int .i64 0, .bool false, .str []])), .i 0] fun (r11 : Nat × List Leaf) =>
  k (lL r11.2 0)
noncomputable def F130 : T130 := P130 F145 
def X130 : Exits := fun i => lookN i [] [(3, [(.exit 0, xk 23 [(3, .own 1000000 7 .flat [])] [])])]
abbrev s130 : List (Bool × List CK) := [(false, [.sl 7 true])]
noncomputable def G130 (F : T130) (β : Type) (e : (List V × Unit) × Unit) (k : V → Option β) : Option β := F β e.1.1 (fun y1 => k (.own 0 7 .flat y1))
noncomputable abbrev W130 (F : T130) : (β : Type) → List V → (V → Option β) → Option β := wrap s130 (G130 F)
theorem k130 (F145 : T145) (β : Type) (e : argsT s130) (k : V → Option β) : fnK cfg (tabL [(145, W145 F145)]) X130 130 Try.f130 β (argsEnc s130 e) k = G130 (P130 F145 ) β e k := by kernel_rfl
theorem ok130 : FnOk D 130 (W130 F130) := fn_okW [(145, W145 F145)] X130 (fun _ => rfl) Try.func130 rfl (tabL_cons ok145 tabL_nil) (k130 F145 )

/-- laws.toServer -/
abbrev T98 : Type 1 := (β : Type) → List UInt8 → List V → (List UInt8 → List V → Option β) → Option β
noncomputable def P98 (F130 : T130) : T98 := fun β a_Host a_Files k =>
  F130 _ a_Files fun l1 =>
  k a_Host l1
noncomputable def F98 : T98 := P98 F130 
abbrev s98 : List (Bool × List CK) := [(true, [.str, .sl 7 true])]
noncomputable def G98 (F : T98) (β : Type) (e : (List UInt8 × List V × Unit) × Unit) (k : V → Option β) : Option β := F β e.1.1 e.1.2.1 (fun y1 y2 => k (.agg [.str y1, .own 1 7 .flat y2]))
noncomputable abbrev W98 (F : T98) : (β : Type) → List V → (V → Option β) → Option β := wrap s98 (G98 F)
theorem k98 (F130 : T130) (β : Type) (e : argsT s98) (k : V → Option β) : fnK cfg (tabL [(130, W130 F130)]) noX 98 Try.f98 β (argsEnc s98 e) k = G98 (P98 F130 ) β e k := by kernel_rfl
theorem ok98 : FnOk D 98 (W98 F98) := fn_okW [(130, W130 F130)] noX (fun _ => rfl) Try.func98 rfl (tabL_cons ok130 tabL_nil) (k98 F130 )

/-- laws.toServerS -/
abbrev T60 : Type 1 := (β : Type) → List V → (List V → Option β) → Option β
noncomputable def P60 (F98 : T98) : T60 := fun β a k =>
  chk (0 ≤ (a.length : Int) ∧ (a.length : Int) ≤ (a.length : Int) ∧ (a.length : Int) * 40 ≤ 140737488355328 ∧ (a.length : Int) ≤ 140737488355328) <|
  whileK (fun s1 =>
    br (decide ((lI s1 2) < ((lL s1 0).length : Int))) (
      chk (0 ≤ (lI s1 2)) <|
      idx true [.str, .sl 7 true] (lL s1 0) ((lI s1 2).toNat) fun (e2 : List UInt8 × List V × Unit) =>
      F98 _ e2.1 e2.2.1 fun t3 l4 =>
      chk (0 ≤ (lI s1 2) ∧ (lI s1 2).toNat < (lL s1 1).length) <|
      storeO (lL s1 1) ((lI s1 2).toNat) 0 [.str t3, .sl 7 true l4] fun l5 =>
      some (.inl [.l (lL s1 0), .l l5, .i (IntKind.wrap .i64 ((lI s1 2) + 1))])) (
      some (.inr (0, [.l (lL s1 1)])))) [.l a, .l (List.replicate ((a.length : Int).toNat) (.agg [.str [], .sl 7 true []])), .i 0] fun (r6 : Nat × List Leaf) =>
  k (lL r6.2 0)
noncomputable def F60 : T60 := P60 F98 
def X60 : Exits := fun i => lookN i [] [(3, [(.exit 0, xk 23 [(3, .own 1000000 2 .clean [])] [])])]
abbrev s60 : List (Bool × List CK) := [(false, [.sl 2 false])]
noncomputable def G60 (F : T60) (β : Type) (e : (List V × Unit) × Unit) (k : V → Option β) : Option β := F β e.1.1 (fun y1 => k (.own 0 2 .clean y1))
noncomputable abbrev W60 (F : T60) : (β : Type) → List V → (V → Option β) → Option β := wrap s60 (G60 F)
theorem k60 (F98 : T98) (β : Type) (e : argsT s60) (k : V → Option β) : fnK cfg (tabL [(98, W98 F98)]) X60 60 Try.f60 β (argsEnc s60 e) k = G60 (P60 F98 ) β e k := by kernel_rfl
theorem ok60 : FnOk D 60 (W60 F60) := fn_okW [(98, W98 F98)] X60 (fun _ => rfl) Try.func60 rfl (tabL_cons ok98 tabL_nil) (k60 F98 )

/-- laws.toAddr -/
abbrev T122 : Type 1 := (β : Type) → List UInt8 → List UInt8 → (List UInt8 → List UInt8 → Option β) → Option β
noncomputable def P122 : T122 := fun β a_Host a_Path k =>
  k a_Host a_Path
noncomputable def F122 : T122 := P122 
abbrev s122 : List (Bool × List CK) := [(true, [.str, .str])]
noncomputable def G122 (F : T122) (β : Type) (e : (List UInt8 × List UInt8 × Unit) × Unit) (k : V → Option β) : Option β := F β e.1.1 e.1.2.1 (fun y1 y2 => k (.agg [.str y1, .str y2]))
noncomputable abbrev W122 (F : T122) : (β : Type) → List V → (V → Option β) → Option β := wrap s122 (G122 F)
theorem k122 (β : Type) (e : argsT s122) (k : V → Option β) : fnK cfg (tabL []) noX 122 Try.f122 β (argsEnc s122 e) k = G122 (P122 ) β e k := by kernel_rfl
theorem ok122 : FnOk D 122 (W122 F122) := fn_okW [] noX (fun _ => rfl) Try.func122 rfl (tabL_nil) (k122 )

/-- laws.toEntry -/
abbrev T88 : Type 1 := (β : Type) → List UInt8 → List UInt8 → List UInt8 → Int → Int → List UInt8 → Int → Bool → List UInt8 → Int → (List UInt8 → List UInt8 → List UInt8 → Int → Int → List UInt8 → Int → Bool → List UInt8 → Int → Option β) → Option β
noncomputable def P88 (F122 : T122) (F123 : T123) : T88 := fun β a_Top a_To_Host a_To_Path a_Response_Status a_Response_Kind a_Response_Body a_Response_Age a_Response_Shares a_Response_Policy a_Until k =>
  F122 _ a_To_Host a_To_Path fun t1 t2 =>
  F123 _ a_Response_Status a_Response_Kind a_Response_Body a_Response_Age a_Response_Shares a_Response_Policy fun n3 n4 t5 n6 b7 t8 =>
  k a_Top t1 t2 n3 n4 t5 n6 b7 t8 a_Until
noncomputable def F88 : T88 := P88 F122 F123 
abbrev s88 : List (Bool × List CK) := [(true, [.str, .str, .str, .int .i64, .int .i64, .str, .int .i64, .bool, .str, .int .i64])]
noncomputable def G88 (F : T88) (β : Type) (e : (List UInt8 × List UInt8 × List UInt8 × Int × Int × List UInt8 × Int × Bool × List UInt8 × Int × Unit) × Unit) (k : V → Option β) : Option β := F β e.1.1 e.1.2.1 e.1.2.2.1 e.1.2.2.2.1 e.1.2.2.2.2.1 e.1.2.2.2.2.2.1 e.1.2.2.2.2.2.2.1 e.1.2.2.2.2.2.2.2.1 e.1.2.2.2.2.2.2.2.2.1 e.1.2.2.2.2.2.2.2.2.2.1 (fun y1 y2 y3 y4 y5 y6 y7 y8 y9 y10 => k (.agg [.str y1, .str y2, .str y3, .int .i64 y4, .int .i64 y5, .str y6, .int .i64 y7, .bool y8, .str y9, .int .i64 y10]))
noncomputable abbrev W88 (F : T88) : (β : Type) → List V → (V → Option β) → Option β := wrap s88 (G88 F)
theorem k88 (F122 : T122) (F123 : T123) (β : Type) (e : argsT s88) (k : V → Option β) : fnK cfg (tabL [(122, W122 F122), (123, W123 F123)]) noX 88 Try.f88 β (argsEnc s88 e) k = G88 (P88 F122 F123 ) β e k := by kernel_rfl
theorem ok88 : FnOk D 88 (W88 F88) := fn_okW [(122, W122 F122), (123, W123 F123)] noX (fun _ => rfl) Try.func88 rfl (tabL_cons ok122 (tabL_cons ok123 tabL_nil)) (k88 F122 F123 )

/-- laws.toEntryS -/
abbrev T48 : Type 1 := (β : Type) → List V → (List V → Option β) → Option β
noncomputable def P48 (F88 : T88) : T48 := fun β a k =>
  chk (0 ≤ (a.length : Int) ∧ (a.length : Int) ≤ (a.length : Int) ∧ (a.length : Int) * 120 ≤ 140737488355328 ∧ (a.length : Int) ≤ 140737488355328) <|
  whileK (fun s1 =>
    br (decide ((lI s1 2) < ((lL s1 0).length : Int))) (
      chk (0 ≤ (lI s1 2)) <|
      idx true [.str, .str, .str, .int .i64, .int .i64, .str, .int .i64, .bool, .str, .int .i64] (lL s1 0) ((lI s1 2).toNat) fun (e2 : List UInt8 × List UInt8 × List UInt8 × Int × Int × List UInt8 × Int × Bool × List UInt8 × Int × Unit) =>
      F88 _ e2.1 e2.2.1 e2.2.2.1 e2.2.2.2.1 e2.2.2.2.2.1 e2.2.2.2.2.2.1 e2.2.2.2.2.2.2.1 e2.2.2.2.2.2.2.2.1 e2.2.2.2.2.2.2.2.2.1 e2.2.2.2.2.2.2.2.2.2.1 fun t3 t4 t5 n6 n7 t8 n9 b10 t11 n12 =>
      chk (0 ≤ (lI s1 2) ∧ (lI s1 2).toNat < (lL s1 1).length) <|
      storeO (lL s1 1) ((lI s1 2).toNat) 0 [.str t3, .str t4, .str t5, .int .i64 n6, .int .i64 n7, .str t8, .int .i64 n9, .bool b10, .str t11, .int .i64 n12] fun l13 =>
      some (.inl [.l (lL s1 0), .l l13, .i (IntKind.wrap .i64 ((lI s1 2) + 1))])) (
      some (.inr (0, [.l (lL s1 1)])))) [.l a, .l (List.replicate ((a.length : Int).toNat) (.agg [.str [], .str [], .str [], .int .i64 0, .int .i64 0, .str [], .int .i64 0, .bool false, .str [], .int .i64 0])), .i 0] fun (r14 : Nat × List Leaf) =>
  k (lL r14.2 0)
noncomputable def F48 : T48 := P48 F88 
def X48 : Exits := fun i => lookN i [] [(3, [(.exit 0, xk 23 [(3, .own 1000000 10 .flat [])] [])])]
abbrev s48 : List (Bool × List CK) := [(false, [.sl 10 true])]
noncomputable def G48 (F : T48) (β : Type) (e : (List V × Unit) × Unit) (k : V → Option β) : Option β := F β e.1.1 (fun y1 => k (.own 0 10 .flat y1))
noncomputable abbrev W48 (F : T48) : (β : Type) → List V → (V → Option β) → Option β := wrap s48 (G48 F)
theorem k48 (F88 : T88) (β : Type) (e : argsT s48) (k : V → Option β) : fnK cfg (tabL [(88, W88 F88)]) X48 48 Try.f48 β (argsEnc s48 e) k = G48 (P48 F88 ) β e k := by kernel_rfl
theorem ok48 : FnOk D 48 (W48 F48) := fn_okW [(88, W88 F88)] X48 (fun _ => rfl) Try.func48 rfl (tabL_cons ok88 tabL_nil) (k48 F88 )

/-- laws.toCache -/
abbrev T13 : Type 1 := (β : Type) → List V → (List V → Option β) → Option β
noncomputable def P13 (F48 : T48) : T13 := fun β a_Entries k =>
  F48 _ a_Entries fun l1 =>
  k l1
noncomputable def F13 : T13 := P13 F48 
abbrev s13 : List (Bool × List CK) := [(true, [.sl 10 true])]
noncomputable def G13 (F : T13) (β : Type) (e : (List V × Unit) × Unit) (k : V → Option β) : Option β := F β e.1.1 (fun y1 => k (.agg [.own 0 10 .flat y1]))
noncomputable abbrev W13 (F : T13) : (β : Type) → List V → (V → Option β) → Option β := wrap s13 (G13 F)
theorem k13 (F48 : T48) (β : Type) (e : argsT s13) (k : V → Option β) : fnK cfg (tabL [(48, W48 F48)]) noX 13 Try.f13 β (argsEnc s13 e) k = G13 (P13 F48 ) β e k := by kernel_rfl
theorem ok13 : FnOk D 13 (W13 F13) := fn_okW [(48, W48 F48)] noX (fun _ => rfl) Try.func13 rfl (tabL_cons ok48 tabL_nil) (k13 F48 )

/-- laws.toSent -/
abbrev T99 : Type 1 := (β : Type) → List UInt8 → List UInt8 → List UInt8 → Bool → (List UInt8 → List UInt8 → List UInt8 → Bool → Option β) → Option β
noncomputable def P99 (F122 : T122) : T99 := fun β a_Top a_To_Host a_To_Path a_Guess k =>
  F122 _ a_To_Host a_To_Path fun t1 t2 =>
  k a_Top t1 t2 a_Guess
noncomputable def F99 : T99 := P99 F122 
abbrev s99 : List (Bool × List CK) := [(true, [.str, .str, .str, .bool])]
noncomputable def G99 (F : T99) (β : Type) (e : (List UInt8 × List UInt8 × List UInt8 × Bool × Unit) × Unit) (k : V → Option β) : Option β := F β e.1.1 e.1.2.1 e.1.2.2.1 e.1.2.2.2.1 (fun y1 y2 y3 y4 => k (.agg [.str y1, .str y2, .str y3, .bool y4]))
noncomputable abbrev W99 (F : T99) : (β : Type) → List V → (V → Option β) → Option β := wrap s99 (G99 F)
theorem k99 (F122 : T122) (β : Type) (e : argsT s99) (k : V → Option β) : fnK cfg (tabL [(122, W122 F122)]) noX 99 Try.f99 β (argsEnc s99 e) k = G99 (P99 F122 ) β e k := by kernel_rfl
theorem ok99 : FnOk D 99 (W99 F99) := fn_okW [(122, W122 F122)] noX (fun _ => rfl) Try.func99 rfl (tabL_cons ok122 tabL_nil) (k99 F122 )

/-- laws.toSentS -/
abbrev T61 : Type 1 := (β : Type) → List V → (List V → Option β) → Option β
noncomputable def P61 (F99 : T99) : T61 := fun β a k =>
  chk (0 ≤ (a.length : Int) ∧ (a.length : Int) ≤ (a.length : Int) ∧ (a.length : Int) * 56 ≤ 140737488355328 ∧ (a.length : Int) ≤ 140737488355328) <|
  whileK (fun s1 =>
    br (decide ((lI s1 2) < ((lL s1 0).length : Int))) (
      chk (0 ≤ (lI s1 2)) <|
      idx true [.str, .str, .str, .bool] (lL s1 0) ((lI s1 2).toNat) fun (e2 : List UInt8 × List UInt8 × List UInt8 × Bool × Unit) =>
      F99 _ e2.1 e2.2.1 e2.2.2.1 e2.2.2.2.1 fun t3 t4 t5 b6 =>
      chk (0 ≤ (lI s1 2) ∧ (lI s1 2).toNat < (lL s1 1).length) <|
      storeO (lL s1 1) ((lI s1 2).toNat) 0 [.str t3, .str t4, .str t5, .bool b6] fun l7 =>
      some (.inl [.l (lL s1 0), .l l7, .i (IntKind.wrap .i64 ((lI s1 2) + 1))])) (
      some (.inr (0, [.l (lL s1 1)])))) [.l a, .l (List.replicate ((a.length : Int).toNat) (.agg [.str [], .str [], .str [], .bool false])), .i 0] fun (r8 : Nat × List Leaf) =>
  k (lL r8.2 0)
noncomputable def F61 : T61 := P61 F99 
def X61 : Exits := fun i => lookN i [] [(3, [(.exit 0, xk 23 [(3, .own 1000000 4 .flat [])] [])])]
abbrev s61 : List (Bool × List CK) := [(false, [.sl 4 true])]
noncomputable def G61 (F : T61) (β : Type) (e : (List V × Unit) × Unit) (k : V → Option β) : Option β := F β e.1.1 (fun y1 => k (.own 0 4 .flat y1))
noncomputable abbrev W61 (F : T61) : (β : Type) → List V → (V → Option β) → Option β := wrap s61 (G61 F)
theorem k61 (F99 : T99) (β : Type) (e : argsT s61) (k : V → Option β) : fnK cfg (tabL [(99, W99 F99)]) X61 61 Try.f61 β (argsEnc s61 e) k = G61 (P61 F99 ) β e k := by kernel_rfl
theorem ok61 : FnOk D 61 (W61 F61) := fn_okW [(99, W99 F99)] X61 (fun _ => rfl) Try.func61 rfl (tabL_cons ok99 tabL_nil) (k61 F99 )

/-- laws.toNet -/
abbrev T23 : Type 1 := (β : Type) → List V → List V → List V → Int → (List V → List V → List V → Int → Option β) → Option β
noncomputable def P23 (F60 : T60) (F13 : T13) (F61 : T61) : T23 := fun β a_Servers a_Cache_Entries a_Log a_Now k =>
  F60 _ a_Servers fun l1 =>
  F13 _ a_Cache_Entries fun l2 =>
  F61 _ a_Log fun l3 =>
  k l1 l2 l3 a_Now
noncomputable def F23 : T23 := P23 F60 F13 F61 
abbrev s23 : List (Bool × List CK) := [(true, [.sl 2 false, .sl 10 true, .sl 4 true, .int .i64])]
noncomputable def G23 (F : T23) (β : Type) (e : (List V × List V × List V × Int × Unit) × Unit) (k : V → Option β) : Option β := F β e.1.1 e.1.2.1 e.1.2.2.1 e.1.2.2.2.1 (fun y1 y2 y3 y4 => k (.agg [.own 0 2 .clean y1, .own 1 10 .flat y2, .own 2 4 .flat y3, .int .i64 y4]))
noncomputable abbrev W23 (F : T23) : (β : Type) → List V → (V → Option β) → Option β := wrap s23 (G23 F)
theorem k23 (F60 : T60) (F13 : T13) (F61 : T61) (β : Type) (e : argsT s23) (k : V → Option β) : fnK cfg (tabL [(60, W60 F60), (13, W13 F13), (61, W61 F61)]) noX 23 Try.f23 β (argsEnc s23 e) k = G23 (P23 F60 F13 F61 ) β e k := by kernel_rfl
theorem ok23 : FnOk D 23 (W23 F23) := fn_okW [(60, W60 F60), (13, W13 F13), (61, W61 F61)] noX (fun _ => rfl) Try.func23 rfl (tabL_cons ok60 (tabL_cons ok13 (tabL_cons ok61 tabL_nil))) (k23 F60 F13 F61 )

/-- spec.IsOwnGuess -/
abbrev T59 : Type 1 := (β : Type) → List UInt8 → List UInt8 → List UInt8 → Bool → (Bool → Option β) → Option β
noncomputable def P59 : T59 := fun β s_Top s_To_Host s_To_Path s_Guess k =>
  br (!s_Guess) (
    k true) (
    k (s_To_Host == s_Top))
noncomputable def F59 : T59 := P59 
abbrev s59 : List (Bool × List CK) := [(true, [.str, .str, .str, .bool])]
noncomputable def G59 (F : T59) (β : Type) (e : (List UInt8 × List UInt8 × List UInt8 × Bool × Unit) × Unit) (k : V → Option β) : Option β := F β e.1.1 e.1.2.1 e.1.2.2.1 e.1.2.2.2.1 (fun y1 => k (.bool y1))
noncomputable abbrev W59 (F : T59) : (β : Type) → List V → (V → Option β) → Option β := wrap s59 (G59 F)
theorem k59 (β : Type) (e : argsT s59) (k : V → Option β) : fnK cfg (tabL []) noX 59 Try.f59 β (argsEnc s59 e) k = G59 (P59 ) β e k := by kernel_rfl
theorem ok59 : FnOk D 59 (W59 F59) := fn_okW [] noX (fun _ => rfl) Try.func59 rfl (tabL_nil) (k59 )

/-- spec.GuessesSound -/
abbrev T22 : Type 1 := (β : Type) → List V → List V → List V → Int → (Bool → Option β) → Option β
noncomputable def P22 (F59 : T59) : T22 := fun β n_Servers n_Cache_Entries n_Log n_Now k =>
  whileK (fun s1 =>
    br (decide ((lI s1 0) < ((lL s1 3).length : Int))) (
      chk (0 ≤ (lI s1 0)) <|
      idx true [.str, .str, .str, .bool] (lL s1 3) ((lI s1 0).toNat) fun (e2 : List UInt8 × List UInt8 × List UInt8 × Bool × Unit) =>
      F59 _ e2.1 e2.2.1 e2.2.2.1 e2.2.2.2.1 fun b3 =>
      br (!b3) (
        some (.inr (0, [.b false]))) (
        some (.inl [.i (IntKind.wrap .i64 ((lI s1 0) + 1)), .l (lL s1 1), .l (lL s1 2), .l (lL s1 3), .i (lI s1 4)]))) (
      some (.inr (1, [])))) [.i 0, .l n_Servers, .l n_Cache_Entries, .l n_Log, .i n_Now] fun (r4 : Nat × List Leaf) =>
  if r4.1 = 0 then
    k (lB r4.2 0)
  else
    k true
noncomputable def F22 : T22 := P22 F59 
def X22 : Exits := fun i => lookN i [] [(2, [(.ret, xk 18 [(2, .bool false)] []), (.exit 0, xk 18 [] [])])]
abbrev s22 : List (Bool × List CK) := [(true, [.sl 2 false, .sl 10 true, .sl 4 true, .int .i64])]
noncomputable def G22 (F : T22) (β : Type) (e : (List V × List V × List V × Int × Unit) × Unit) (k : V → Option β) : Option β := F β e.1.1 e.1.2.1 e.1.2.2.1 e.1.2.2.2.1 (fun y1 => k (.bool y1))
noncomputable abbrev W22 (F : T22) : (β : Type) → List V → (V → Option β) → Option β := wrap s22 (G22 F)
theorem k22 (F59 : T59) (β : Type) (e : argsT s22) (k : V → Option β) : fnK cfg (tabL [(59, W59 F59)]) X22 22 Try.f22 β (argsEnc s22 e) k = G22 (P22 F59 ) β e k := by kernel_rfl
theorem ok22 : FnOk D 22 (W22 F22) := fn_okW [(59, W59 F59)] X22 (fun _ => rfl) Try.func22 rfl (tabL_cons ok59 tabL_nil) (k22 F59 )

/-- impl.IsOwnGuess -/
abbrev T64 : Type 1 := (β : Type) → List UInt8 → List UInt8 → List UInt8 → Bool → (Bool → Option β) → Option β
noncomputable def P64 : T64 := fun β s_Top s_To_Host s_To_Path s_Guess k =>
  br (!s_Guess) (
    k true) (
    k (s_To_Host == s_Top))
noncomputable def F64 : T64 := P64 
abbrev s64 : List (Bool × List CK) := [(true, [.str, .str, .str, .bool])]
noncomputable def G64 (F : T64) (β : Type) (e : (List UInt8 × List UInt8 × List UInt8 × Bool × Unit) × Unit) (k : V → Option β) : Option β := F β e.1.1 e.1.2.1 e.1.2.2.1 e.1.2.2.2.1 (fun y1 => k (.bool y1))
noncomputable abbrev W64 (F : T64) : (β : Type) → List V → (V → Option β) → Option β := wrap s64 (G64 F)
theorem k64 (β : Type) (e : argsT s64) (k : V → Option β) : fnK cfg (tabL []) noX 64 Try.f64 β (argsEnc s64 e) k = G64 (P64 ) β e k := by kernel_rfl
theorem ok64 : FnOk D 64 (W64 F64) := fn_okW [] noX (fun _ => rfl) Try.func64 rfl (tabL_nil) (k64 )

/-- impl.GuessesSound$1 -/
abbrev T63 : Type 1 := (β : Type) → List UInt8 → List UInt8 → List UInt8 → Bool → (Bool → Option β) → Option β
noncomputable def P63 (F64 : T64) : T63 := fun β s_Top s_To_Host s_To_Path s_Guess k =>
  F64 _ s_Top s_To_Host s_To_Path s_Guess fun b1 =>
  k (!b1)
noncomputable def F63 : T63 := P63 F64 
abbrev s63 : List (Bool × List CK) := [(true, [.str, .str, .str, .bool])]
noncomputable def G63 (F : T63) (β : Type) (e : (List UInt8 × List UInt8 × List UInt8 × Bool × Unit) × Unit) (k : V → Option β) : Option β := F β e.1.1 e.1.2.1 e.1.2.2.1 e.1.2.2.2.1 (fun y1 => k (.bool y1))
noncomputable abbrev W63 (F : T63) : (β : Type) → List V → (V → Option β) → Option β := wrap s63 (G63 F)
theorem k63 (F64 : T64) (β : Type) (e : argsT s63) (k : V → Option β) : fnK cfg (tabL [(64, W64 F64)]) noX 63 Try.f63 β (argsEnc s63 e) k = G63 (P63 F64 ) β e k := by kernel_rfl
theorem ok63 : FnOk D 63 (W63 F63) := fn_okW [(64, W64 F64)] noX (fun _ => rfl) Try.func63 rfl (tabL_cons ok64 tabL_nil) (k63 F64 )

/-- slices.IndexFunc[[]impl.Sent,impl.Sent] -/
abbrev T100c63 : Type 1 := (β : Type) → List V → (Int → Option β) → Option β
noncomputable def P100c63 (F63 : T63) : T100c63 := fun β s k =>
  whileK (fun s1 =>
    br (decide ((lI s1 2) < (lI s1 1))) (
      chk (0 ≤ (lI s1 2)) <|
      idx true [.str, .str, .str, .bool] (lL s1 0) ((lI s1 2).toNat) fun (e2 : List UInt8 × List UInt8 × List UInt8 × Bool × Unit) =>
      F63 _ e2.1 e2.2.1 e2.2.2.1 e2.2.2.2.1 fun b3 =>
      br b3 (
        some (.inr (0, [.i (lI s1 2)]))) (
        some (.inl [.l (lL s1 0), .i (lI s1 1), .i (IntKind.wrap .i64 ((lI s1 2) + 1))]))) (
      some (.inr (1, [])))) [.l s, .i (s.length : Int), .i 0] fun (r4 : Nat × List Leaf) =>
  if r4.1 = 0 then
    k (lI r4.2 0)
  else
    k (-1)
noncomputable def F100c63 : T100c63 := P100c63 F63 
def X100c63 : Exits := fun i => lookN i [] [(2, [(.ret, xk 19 [(4, .int .i64 0)] []), (.exit 0, xk 19 [] [])])]
noncomputable def W100c63 (F : T100c63) : (β : Type) → List V → (V → Option β) → Option β := fun β args k => match args with
  | [.sl 4 true s, .clo 63 []] => F β s (fun y1 => k (.int .i64 y1))
  | _ => none
theorem k100c63 (F63 : T63) {β : Type} (s : List V) (k : V → Option β) : fnK cfg (tabL [(63, W63 F63)]) X100c63 100 Try.f100 β [.sl 4 true s, .clo 63 []] k = P100c63 F63 β s (fun y1 => k (.int .i64 y1)) := by kernel_rfl
theorem ok100c63 : FnOk D 100 (W100c63 F100c63) := fn_ok (l := [(63, W63 F63)]) (X := X100c63) (fun _ => rfl) Try.func100 rfl (tabL_cons ok63 tabL_nil) (fun β args k r h => by
  unfold W100c63 at h
  split at h
  · rw [← h]; exact k100c63 F63 _ k
  · cases h)

/-- slices.ContainsFunc[[]impl.Sent,impl.Sent] -/
abbrev T62c63 : Type 1 := (β : Type) → List V → (Bool → Option β) → Option β
noncomputable def P62c63 (F100c63 : T100c63) : T62c63 := fun β s k =>
  F100c63 _ s fun n1 =>
  k (decide (n1 ≥ 0))
noncomputable def F62c63 : T62c63 := P62c63 F100c63 
noncomputable def W62c63 (F : T62c63) : (β : Type) → List V → (V → Option β) → Option β := fun β args k => match args with
  | [.sl 4 true s, .clo 63 []] => F β s (fun y1 => k (.bool y1))
  | _ => none
theorem k62c63 (F100c63 : T100c63) {β : Type} (s : List V) (k : V → Option β) : fnK cfg (tabL [(100, W100c63 F100c63)]) noX 62 Try.f62 β [.sl 4 true s, .clo 63 []] k = P62c63 F100c63 β s (fun y1 => k (.bool y1)) := by kernel_rfl
theorem ok62c63 : FnOk D 62 (W62c63 F62c63) := fn_ok (l := [(100, W100c63 F100c63)]) (X := noX) (fun _ => rfl) Try.func62 rfl (tabL_cons ok100c63 tabL_nil) (fun β args k r h => by
  unfold W62c63 at h
  split at h
  · rw [← h]; exact k62c63 F100c63 _ k
  · cases h)

/-- impl.GuessesSound -/
abbrev T24 : Type 1 := (β : Type) → List V → List V → List V → Int → (Bool → Option β) → Option β
noncomputable def P24 (F62c63 : T62c63) : T24 := fun β n_Servers n_Cache_Entries n_Log n_Now k =>
  F62c63 _ n_Log fun b1 =>
  k (!b1)
noncomputable def F24 : T24 := P24 F62c63 
abbrev s24 : List (Bool × List CK) := [(true, [.sl 2 false, .sl 10 true, .sl 4 true, .int .i64])]
noncomputable def G24 (F : T24) (β : Type) (e : (List V × List V × List V × Int × Unit) × Unit) (k : V → Option β) : Option β := F β e.1.1 e.1.2.1 e.1.2.2.1 e.1.2.2.2.1 (fun y1 => k (.bool y1))
noncomputable abbrev W24 (F : T24) : (β : Type) → List V → (V → Option β) → Option β := wrap s24 (G24 F)
theorem k24 (F62c63 : T62c63) (β : Type) (e : argsT s24) (k : V → Option β) : fnK cfg (tabL [(62, W62c63 F62c63)]) noX 24 Try.f24 β (argsEnc s24 e) k = G24 (P24 F62c63 ) β e k := by kernel_rfl
theorem ok24 : FnOk D 24 (W24 F24) := fn_okW [(62, W62c63 F62c63)] noX (fun _ => rfl) Try.func24 rfl (tabL_cons ok62c63 tabL_nil) (k24 F62c63 )

/-- laws.eqResponse -/
abbrev T125 : Type 1 := (β : Type) → Int → Int → List UInt8 → Int → Bool → List UInt8 → Int → Int → List UInt8 → Int → Bool → List UInt8 → (Bool → Option β) → Option β
noncomputable def P125 : T125 := fun β a_Status a_Kind a_Body a_Age a_Shares a_Policy b_Status b_Kind b_Body b_Age b_Shares b_Policy k =>
  br (a_Status != b_Status) (
    k false) (
    br (a_Kind != b_Kind) (
      k false) (
      br (!(a_Body == b_Body)) (
        k false) (
        br (a_Age != b_Age) (
          k false) (
          br (!(a_Shares == b_Shares)) (
            k false) (
            br (!(a_Policy == b_Policy)) (
              k false) (
              k true))))))
noncomputable def F125 : T125 := P125 
abbrev s125 : List (Bool × List CK) := [(true, [.int .i64, .int .i64, .str, .int .i64, .bool, .str]), (true, [.int .i64, .int .i64, .str, .int .i64, .bool, .str])]
noncomputable def G125 (F : T125) (β : Type) (e : (Int × Int × List UInt8 × Int × Bool × List UInt8 × Unit) × (Int × Int × List UInt8 × Int × Bool × List UInt8 × Unit) × Unit) (k : V → Option β) : Option β := F β e.1.1 e.1.2.1 e.1.2.2.1 e.1.2.2.2.1 e.1.2.2.2.2.1 e.1.2.2.2.2.2.1 e.2.1.1 e.2.1.2.1 e.2.1.2.2.1 e.2.1.2.2.2.1 e.2.1.2.2.2.2.1 e.2.1.2.2.2.2.2.1 (fun y1 => k (.bool y1))
noncomputable abbrev W125 (F : T125) : (β : Type) → List V → (V → Option β) → Option β := wrap s125 (G125 F)
theorem k125 (β : Type) (e : argsT s125) (k : V → Option β) : fnK cfg (tabL []) noX 125 Try.f125 β (argsEnc s125 e) k = G125 (P125 ) β e k := by kernel_rfl
theorem ok125 : FnOk D 125 (W125 F125) := fn_okW [] noX (fun _ => rfl) Try.func125 rfl (tabL_nil) (k125 )

/-- laws.eqFile -/
abbrev T128 : Type 1 := (β : Type) → List UInt8 → Int → Int → List UInt8 → Int → Bool → List UInt8 → List UInt8 → Int → Int → List UInt8 → Int → Bool → List UInt8 → (Bool → Option β) → Option β
noncomputable def P128 (F125 : T125) : T128 := fun β a_Path a_Response_Status a_Response_Kind a_Response_Body a_Response_Age a_Response_Shares a_Response_Policy b_Path b_Response_Status b_Response_Kind b_Response_Body b_Response_Age b_Response_Shares b_Response_Policy k =>
  br (!(a_Path == b_Path)) (
    k false) (
    F125 _ a_Response_Status a_Response_Kind a_Response_Body a_Response_Age a_Response_Shares a_Response_Policy b_Response_Status b_Response_Kind b_Response_Body b_Response_Age b_Response_Shares b_Response_Policy fun b1 =>
    br (!b1) (
      k false) (
      k true))
noncomputable def F128 : T128 := P128 F125 
abbrev s128 : List (Bool × List CK) := [(true, [.str, .int .i64, .int .i64, .str, .int .i64, .bool, .str]), (true, [.str, .int .i64, .int .i64, .str, .int .i64, .bool, .str])]
noncomputable def G128 (F : T128) (β : Type) (e : (List UInt8 × Int × Int × List UInt8 × Int × Bool × List UInt8 × Unit) × (List UInt8 × Int × Int × List UInt8 × Int × Bool × List UInt8 × Unit) × Unit) (k : V → Option β) : Option β := F β e.1.1 e.1.2.1 e.1.2.2.1 e.1.2.2.2.1 e.1.2.2.2.2.1 e.1.2.2.2.2.2.1 e.1.2.2.2.2.2.2.1 e.2.1.1 e.2.1.2.1 e.2.1.2.2.1 e.2.1.2.2.2.1 e.2.1.2.2.2.2.1 e.2.1.2.2.2.2.2.1 e.2.1.2.2.2.2.2.2.1 (fun y1 => k (.bool y1))
noncomputable abbrev W128 (F : T128) : (β : Type) → List V → (V → Option β) → Option β := wrap s128 (G128 F)
theorem k128 (F125 : T125) (β : Type) (e : argsT s128) (k : V → Option β) : fnK cfg (tabL [(125, W125 F125)]) noX 128 Try.f128 β (argsEnc s128 e) k = G128 (P128 F125 ) β e k := by kernel_rfl
theorem ok128 : FnOk D 128 (W128 F128) := fn_okW [(125, W125 F125)] noX (fun _ => rfl) Try.func128 rfl (tabL_cons ok125 tabL_nil) (k128 F125 )

/-- laws.eqFileS -/
abbrev T95 : Type 1 := (β : Type) → List V → List V → (Bool → Option β) → Option β
noncomputable def P95 (F128 : T128) : T95 := fun β a b k =>
  br ((a.length : Int) != (b.length : Int)) (
    k false) (
    whileK (fun s1 =>
      br (decide ((lI s1 2) < ((lL s1 0).length : Int))) (
        chk (0 ≤ (lI s1 2)) <|
        idx true [.str, .int .i64, .int .i64, .str, .int .i64, .bool, .str] (lL s1 0) ((lI s1 2).toNat) fun (e2 : List UInt8 × Int × Int × List UInt8 × Int × Bool × List UInt8 × Unit) =>
        chk (0 ≤ (lI s1 2)) <|
        idx true [.str, .int .i64, .int .i64, .str, .int .i64, .bool, .str] (lL s1 1) ((lI s1 2).toNat) fun (e3 : List UInt8 × Int × Int × List UInt8 × Int × Bool × List UInt8 × Unit) =>
        F128 _ e2.1 e2.2.1 e2.2.2.1 e2.2.2.2.1 e2.2.2.2.2.1 e2.2.2.2.2.2.1 e2.2.2.2.2.2.2.1 e3.1 e3.2.1 e3.2.2.1 e3.2.2.2.1 e3.2.2.2.2.1 e3.2.2.2.2.2.1 e3.2.2.2.2.2.2.1 fun b4 =>
        br (!b4) (
          some (.inr (0, [.b false]))) (
          some (.inl [.l (lL s1 0), .l (lL s1 1), .i (IntKind.wrap .i64 ((lI s1 2) + 1))]))) (
        some (.inr (1, [])))) [.l a, .l b, .i 0] fun (r5 : Nat × List Leaf) =>
    if r5.1 = 0 then
      k (lB r5.2 0)
    else
      k true)
noncomputable def F95 : T95 := P95 F128 
def X95 : Exits := fun i => lookN i [] [(4, [(.ret, xk 27 [(4, .bool false)] []), (.exit 0, xk 27 [] [])])]
abbrev s95 : List (Bool × List CK) := [(false, [.sl 7 true]), (false, [.sl 7 true])]
noncomputable def G95 (F : T95) (β : Type) (e : (List V × Unit) × (List V × Unit) × Unit) (k : V → Option β) : Option β := F β e.1.1 e.2.1.1 (fun y1 => k (.bool y1))
noncomputable abbrev W95 (F : T95) : (β : Type) → List V → (V → Option β) → Option β := wrap s95 (G95 F)
theorem k95 (F128 : T128) (β : Type) (e : argsT s95) (k : V → Option β) : fnK cfg (tabL [(128, W128 F128)]) X95 95 Try.f95 β (argsEnc s95 e) k = G95 (P95 F128 ) β e k := by kernel_rfl
theorem ok95 : FnOk D 95 (W95 F95) := fn_okW [(128, W128 F128)] X95 (fun _ => rfl) Try.func95 rfl (tabL_cons ok128 tabL_nil) (k95 F128 )

/-- laws.eqServer -/
abbrev T53 : Type 1 := (β : Type) → List UInt8 → List V → List UInt8 → List V → (Bool → Option β) → Option β
noncomputable def P53 (F95 : T95) : T53 := fun β a_Host a_Files b_Host b_Files k =>
  br (!(a_Host == b_Host)) (
    k false) (
    F95 _ a_Files b_Files fun b1 =>
    br (!b1) (
      k false) (
      k true))
noncomputable def F53 : T53 := P53 F95 
abbrev s53 : List (Bool × List CK) := [(true, [.str, .sl 7 true]), (true, [.str, .sl 7 true])]
noncomputable def G53 (F : T53) (β : Type) (e : (List UInt8 × List V × Unit) × (List UInt8 × List V × Unit) × Unit) (k : V → Option β) : Option β := F β e.1.1 e.1.2.1 e.2.1.1 e.2.1.2.1 (fun y1 => k (.bool y1))
noncomputable abbrev W53 (F : T53) : (β : Type) → List V → (V → Option β) → Option β := wrap s53 (G53 F)
theorem k53 (F95 : T95) (β : Type) (e : argsT s53) (k : V → Option β) : fnK cfg (tabL [(95, W95 F95)]) noX 53 Try.f53 β (argsEnc s53 e) k = G53 (P53 F95 ) β e k := by kernel_rfl
theorem ok53 : FnOk D 53 (W53 F53) := fn_okW [(95, W95 F95)] noX (fun _ => rfl) Try.func53 rfl (tabL_cons ok95 tabL_nil) (k53 F95 )

/-- laws.eqServerS -/
abbrev T18 : Type 1 := (β : Type) → List V → List V → (Bool → Option β) → Option β
noncomputable def P18 (F53 : T53) : T18 := fun β a b k =>
  br ((a.length : Int) != (b.length : Int)) (
    k false) (
    whileK (fun s1 =>
      br (decide ((lI s1 2) < ((lL s1 0).length : Int))) (
        chk (0 ≤ (lI s1 2)) <|
        idx true [.str, .sl 7 true] (lL s1 0) ((lI s1 2).toNat) fun (e2 : List UInt8 × List V × Unit) =>
        chk (0 ≤ (lI s1 2)) <|
        idx true [.str, .sl 7 true] (lL s1 1) ((lI s1 2).toNat) fun (e3 : List UInt8 × List V × Unit) =>
        F53 _ e2.1 e2.2.1 e3.1 e3.2.1 fun b4 =>
        br (!b4) (
          some (.inr (0, [.b false]))) (
          some (.inl [.l (lL s1 0), .l (lL s1 1), .i (IntKind.wrap .i64 ((lI s1 2) + 1))]))) (
        some (.inr (1, [])))) [.l a, .l b, .i 0] fun (r5 : Nat × List Leaf) =>
    if r5.1 = 0 then
      k (lB r5.2 0)
    else
      k true)
noncomputable def F18 : T18 := P18 F53 
def X18 : Exits := fun i => lookN i [] [(4, [(.ret, xk 27 [(4, .bool false)] []), (.exit 0, xk 27 [] [])])]
abbrev s18 : List (Bool × List CK) := [(false, [.sl 2 false]), (false, [.sl 2 false])]
noncomputable def G18 (F : T18) (β : Type) (e : (List V × Unit) × (List V × Unit) × Unit) (k : V → Option β) : Option β := F β e.1.1 e.2.1.1 (fun y1 => k (.bool y1))
noncomputable abbrev W18 (F : T18) : (β : Type) → List V → (V → Option β) → Option β := wrap s18 (G18 F)
theorem k18 (F53 : T53) (β : Type) (e : argsT s18) (k : V → Option β) : fnK cfg (tabL [(53, W53 F53)]) X18 18 Try.f18 β (argsEnc s18 e) k = G18 (P18 F53 ) β e k := by kernel_rfl
theorem ok18 : FnOk D 18 (W18 F18) := fn_okW [(53, W53 F53)] X18 (fun _ => rfl) Try.func18 rfl (tabL_cons ok53 tabL_nil) (k18 F53 )

/-- laws.eqAddr -/
abbrev T86 : Type 1 := (β : Type) → List UInt8 → List UInt8 → List UInt8 → List UInt8 → (Bool → Option β) → Option β
noncomputable def P86 : T86 := fun β a_Host a_Path b_Host b_Path k =>
  br (!(a_Host == b_Host)) (
    k false) (
    br (!(a_Path == b_Path)) (
      k false) (
      k true))
noncomputable def F86 : T86 := P86 
abbrev s86 : List (Bool × List CK) := [(true, [.str, .str]), (true, [.str, .str])]
noncomputable def G86 (F : T86) (β : Type) (e : (List UInt8 × List UInt8 × Unit) × (List UInt8 × List UInt8 × Unit) × Unit) (k : V → Option β) : Option β := F β e.1.1 e.1.2.1 e.2.1.1 e.2.1.2.1 (fun y1 => k (.bool y1))
noncomputable abbrev W86 (F : T86) : (β : Type) → List V → (V → Option β) → Option β := wrap s86 (G86 F)
theorem k86 (β : Type) (e : argsT s86) (k : V → Option β) : fnK cfg (tabL []) noX 86 Try.f86 β (argsEnc s86 e) k = G86 (P86 ) β e k := by kernel_rfl
theorem ok86 : FnOk D 86 (W86 F86) := fn_okW [] noX (fun _ => rfl) Try.func86 rfl (tabL_nil) (k86 )

/-- laws.eqEntry -/
abbrev T90 : Type 1 := (β : Type) → List UInt8 → List UInt8 → List UInt8 → Int → Int → List UInt8 → Int → Bool → List UInt8 → Int → List UInt8 → List UInt8 → List UInt8 → Int → Int → List UInt8 → Int → Bool → List UInt8 → Int → (Bool → Option β) → Option β
noncomputable def P90 (F86 : T86) (F125 : T125) : T90 := fun β a_Top a_To_Host a_To_Path a_Response_Status a_Response_Kind a_Response_Body a_Response_Age a_Response_Shares a_Response_Policy a_Until b_Top b_To_Host b_To_Path b_Response_Status b_Response_Kind b_Response_Body b_Response_Age b_Response_Shares b_Response_Policy b_Until k =>
  br (!(a_Top == b_Top)) (
    k false) (
    F86 _ a_To_Host a_To_Path b_To_Host b_To_Path fun b1 =>
    br (!b1) (
      k false) (
      F125 _ a_Response_Status a_Response_Kind a_Response_Body a_Response_Age a_Response_Shares a_Response_Policy b_Response_Status b_Response_Kind b_Response_Body b_Response_Age b_Response_Shares b_Response_Policy fun b2 =>
      br (!b2) (
        k false) (
        br (a_Until != b_Until) (
          k false) (
          k true))))
noncomputable def F90 : T90 := P90 F86 F125 
abbrev s90 : List (Bool × List CK) := [(true, [.str, .str, .str, .int .i64, .int .i64, .str, .int .i64, .bool, .str, .int .i64]), (true, [.str, .str, .str, .int .i64, .int .i64, .str, .int .i64, .bool, .str, .int .i64])]
noncomputable def G90 (F : T90) (β : Type) (e : (List UInt8 × List UInt8 × List UInt8 × Int × Int × List UInt8 × Int × Bool × List UInt8 × Int × Unit) × (List UInt8 × List UInt8 × List UInt8 × Int × Int × List UInt8 × Int × Bool × List UInt8 × Int × Unit) × Unit) (k : V → Option β) : Option β := F β e.1.1 e.1.2.1 e.1.2.2.1 e.1.2.2.2.1 e.1.2.2.2.2.1 e.1.2.2.2.2.2.1 e.1.2.2.2.2.2.2.1 e.1.2.2.2.2.2.2.2.1 e.1.2.2.2.2.2.2.2.2.1 e.1.2.2.2.2.2.2.2.2.2.1 e.2.1.1 e.2.1.2.1 e.2.1.2.2.1 e.2.1.2.2.2.1 e.2.1.2.2.2.2.1 e.2.1.2.2.2.2.2.1 e.2.1.2.2.2.2.2.2.1 e.2.1.2.2.2.2.2.2.2.1 e.2.1.2.2.2.2.2.2.2.2.1 e.2.1.2.2.2.2.2.2.2.2.2.1 (fun y1 => k (.bool y1))
noncomputable abbrev W90 (F : T90) : (β : Type) → List V → (V → Option β) → Option β := wrap s90 (G90 F)
theorem k90 (F86 : T86) (F125 : T125) (β : Type) (e : argsT s90) (k : V → Option β) : fnK cfg (tabL [(86, W86 F86), (125, W125 F125)]) noX 90 Try.f90 β (argsEnc s90 e) k = G90 (P90 F86 F125 ) β e k := by kernel_rfl
theorem ok90 : FnOk D 90 (W90 F90) := fn_okW [(86, W86 F86), (125, W125 F125)] noX (fun _ => rfl) Try.func90 rfl (tabL_cons ok86 (tabL_cons ok125 tabL_nil)) (k90 F86 F125 )

/-- laws.eqEntryS -/
abbrev T50 : Type 1 := (β : Type) → List V → List V → (Bool → Option β) → Option β
noncomputable def P50 (F90 : T90) : T50 := fun β a b k =>
  br ((a.length : Int) != (b.length : Int)) (
    k false) (
    whileK (fun s1 =>
      br (decide ((lI s1 2) < ((lL s1 0).length : Int))) (
        chk (0 ≤ (lI s1 2)) <|
        idx true [.str, .str, .str, .int .i64, .int .i64, .str, .int .i64, .bool, .str, .int .i64] (lL s1 0) ((lI s1 2).toNat) fun (e2 : List UInt8 × List UInt8 × List UInt8 × Int × Int × List UInt8 × Int × Bool × List UInt8 × Int × Unit) =>
        chk (0 ≤ (lI s1 2)) <|
        idx true [.str, .str, .str, .int .i64, .int .i64, .str, .int .i64, .bool, .str, .int .i64] (lL s1 1) ((lI s1 2).toNat) fun (e3 : List UInt8 × List UInt8 × List UInt8 × Int × Int × List UInt8 × Int × Bool × List UInt8 × Int × Unit) =>
        F90 _ e2.1 e2.2.1 e2.2.2.1 e2.2.2.2.1 e2.2.2.2.2.1 e2.2.2.2.2.2.1 e2.2.2.2.2.2.2.1 e2.2.2.2.2.2.2.2.1 e2.2.2.2.2.2.2.2.2.1 e2.2.2.2.2.2.2.2.2.2.1 e3.1 e3.2.1 e3.2.2.1 e3.2.2.2.1 e3.2.2.2.2.1 e3.2.2.2.2.2.1 e3.2.2.2.2.2.2.1 e3.2.2.2.2.2.2.2.1 e3.2.2.2.2.2.2.2.2.1 e3.2.2.2.2.2.2.2.2.2.1 fun b4 =>
        br (!b4) (
          some (.inr (0, [.b false]))) (
          some (.inl [.l (lL s1 0), .l (lL s1 1), .i (IntKind.wrap .i64 ((lI s1 2) + 1))]))) (
        some (.inr (1, [])))) [.l a, .l b, .i 0] fun (r5 : Nat × List Leaf) =>
    if r5.1 = 0 then
      k (lB r5.2 0)
    else
      k true)
noncomputable def F50 : T50 := P50 F90 
def X50 : Exits := fun i => lookN i [] [(4, [(.ret, xk 27 [(4, .bool false)] []), (.exit 0, xk 27 [] [])])]
abbrev s50 : List (Bool × List CK) := [(false, [.sl 10 true]), (false, [.sl 10 true])]
noncomputable def G50 (F : T50) (β : Type) (e : (List V × Unit) × (List V × Unit) × Unit) (k : V → Option β) : Option β := F β e.1.1 e.2.1.1 (fun y1 => k (.bool y1))
noncomputable abbrev W50 (F : T50) : (β : Type) → List V → (V → Option β) → Option β := wrap s50 (G50 F)
theorem k50 (F90 : T90) (β : Type) (e : argsT s50) (k : V → Option β) : fnK cfg (tabL [(90, W90 F90)]) X50 50 Try.f50 β (argsEnc s50 e) k = G50 (P50 F90 ) β e k := by kernel_rfl
theorem ok50 : FnOk D 50 (W50 F50) := fn_okW [(90, W90 F90)] X50 (fun _ => rfl) Try.func50 rfl (tabL_cons ok90 tabL_nil) (k50 F90 )

/-- laws.eqCache -/
abbrev T15 : Type 1 := (β : Type) → List V → List V → (Bool → Option β) → Option β
noncomputable def P15 (F50 : T50) : T15 := fun β a_Entries b_Entries k =>
  F50 _ a_Entries b_Entries fun b1 =>
  br (!b1) (
    k false) (
    k true)
noncomputable def F15 : T15 := P15 F50 
abbrev s15 : List (Bool × List CK) := [(true, [.sl 10 true]), (true, [.sl 10 true])]
noncomputable def G15 (F : T15) (β : Type) (e : (List V × Unit) × (List V × Unit) × Unit) (k : V → Option β) : Option β := F β e.1.1 e.2.1.1 (fun y1 => k (.bool y1))
noncomputable abbrev W15 (F : T15) : (β : Type) → List V → (V → Option β) → Option β := wrap s15 (G15 F)
theorem k15 (F50 : T50) (β : Type) (e : argsT s15) (k : V → Option β) : fnK cfg (tabL [(50, W50 F50)]) noX 15 Try.f15 β (argsEnc s15 e) k = G15 (P15 F50 ) β e k := by kernel_rfl
theorem ok15 : FnOk D 15 (W15 F15) := fn_okW [(50, W50 F50)] noX (fun _ => rfl) Try.func15 rfl (tabL_cons ok50 tabL_nil) (k15 F50 )

/-- laws.eqSent -/
abbrev T101 : Type 1 := (β : Type) → List UInt8 → List UInt8 → List UInt8 → Bool → List UInt8 → List UInt8 → List UInt8 → Bool → (Bool → Option β) → Option β
noncomputable def P101 (F86 : T86) : T101 := fun β a_Top a_To_Host a_To_Path a_Guess b_Top b_To_Host b_To_Path b_Guess k =>
  br (!(a_Top == b_Top)) (
    k false) (
    F86 _ a_To_Host a_To_Path b_To_Host b_To_Path fun b1 =>
    br (!b1) (
      k false) (
      br (!(a_Guess == b_Guess)) (
        k false) (
        k true)))
noncomputable def F101 : T101 := P101 F86 
abbrev s101 : List (Bool × List CK) := [(true, [.str, .str, .str, .bool]), (true, [.str, .str, .str, .bool])]
noncomputable def G101 (F : T101) (β : Type) (e : (List UInt8 × List UInt8 × List UInt8 × Bool × Unit) × (List UInt8 × List UInt8 × List UInt8 × Bool × Unit) × Unit) (k : V → Option β) : Option β := F β e.1.1 e.1.2.1 e.1.2.2.1 e.1.2.2.2.1 e.2.1.1 e.2.1.2.1 e.2.1.2.2.1 e.2.1.2.2.2.1 (fun y1 => k (.bool y1))
noncomputable abbrev W101 (F : T101) : (β : Type) → List V → (V → Option β) → Option β := wrap s101 (G101 F)
theorem k101 (F86 : T86) (β : Type) (e : argsT s101) (k : V → Option β) : fnK cfg (tabL [(86, W86 F86)]) noX 101 Try.f101 β (argsEnc s101 e) k = G101 (P101 F86 ) β e k := by kernel_rfl
theorem ok101 : FnOk D 101 (W101 F101) := fn_okW [(86, W86 F86)] noX (fun _ => rfl) Try.func101 rfl (tabL_cons ok86 tabL_nil) (k101 F86 )

/-- laws.eqSentS -/
abbrev T65 : Type 1 := (β : Type) → List V → List V → (Bool → Option β) → Option β
noncomputable def P65 (F101 : T101) : T65 := fun β a b k =>
  br ((a.length : Int) != (b.length : Int)) (
    k false) (
    whileK (fun s1 =>
      br (decide ((lI s1 2) < ((lL s1 0).length : Int))) (
        chk (0 ≤ (lI s1 2)) <|
        idx true [.str, .str, .str, .bool] (lL s1 0) ((lI s1 2).toNat) fun (e2 : List UInt8 × List UInt8 × List UInt8 × Bool × Unit) =>
        chk (0 ≤ (lI s1 2)) <|
        idx true [.str, .str, .str, .bool] (lL s1 1) ((lI s1 2).toNat) fun (e3 : List UInt8 × List UInt8 × List UInt8 × Bool × Unit) =>
        F101 _ e2.1 e2.2.1 e2.2.2.1 e2.2.2.2.1 e3.1 e3.2.1 e3.2.2.1 e3.2.2.2.1 fun b4 =>
        br (!b4) (
          some (.inr (0, [.b false]))) (
          some (.inl [.l (lL s1 0), .l (lL s1 1), .i (IntKind.wrap .i64 ((lI s1 2) + 1))]))) (
        some (.inr (1, [])))) [.l a, .l b, .i 0] fun (r5 : Nat × List Leaf) =>
    if r5.1 = 0 then
      k (lB r5.2 0)
    else
      k true)
noncomputable def F65 : T65 := P65 F101 
def X65 : Exits := fun i => lookN i [] [(4, [(.ret, xk 27 [(4, .bool false)] []), (.exit 0, xk 27 [] [])])]
abbrev s65 : List (Bool × List CK) := [(false, [.sl 4 true]), (false, [.sl 4 true])]
noncomputable def G65 (F : T65) (β : Type) (e : (List V × Unit) × (List V × Unit) × Unit) (k : V → Option β) : Option β := F β e.1.1 e.2.1.1 (fun y1 => k (.bool y1))
noncomputable abbrev W65 (F : T65) : (β : Type) → List V → (V → Option β) → Option β := wrap s65 (G65 F)
theorem k65 (F101 : T101) (β : Type) (e : argsT s65) (k : V → Option β) : fnK cfg (tabL [(101, W101 F101)]) X65 65 Try.f65 β (argsEnc s65 e) k = G65 (P65 F101 ) β e k := by kernel_rfl
theorem ok65 : FnOk D 65 (W65 F65) := fn_okW [(101, W101 F101)] X65 (fun _ => rfl) Try.func65 rfl (tabL_cons ok101 tabL_nil) (k65 F101 )

/-- laws.eqNet -/
abbrev T25 : Type 1 := (β : Type) → List V → List V → List V → Int → List V → List V → List V → Int → (Bool → Option β) → Option β
noncomputable def P25 (F18 : T18) (F15 : T15) (F65 : T65) : T25 := fun β a_Servers a_Cache_Entries a_Log a_Now b_Servers b_Cache_Entries b_Log b_Now k =>
  F18 _ a_Servers b_Servers fun b1 =>
  br (!b1) (
    k false) (
    F15 _ a_Cache_Entries b_Cache_Entries fun b2 =>
    br (!b2) (
      k false) (
      F65 _ a_Log b_Log fun b3 =>
      br (!b3) (
        k false) (
        br (a_Now != b_Now) (
          k false) (
          k true))))
noncomputable def F25 : T25 := P25 F18 F15 F65 
abbrev s25 : List (Bool × List CK) := [(true, [.sl 2 false, .sl 10 true, .sl 4 true, .int .i64]), (true, [.sl 2 false, .sl 10 true, .sl 4 true, .int .i64])]
noncomputable def G25 (F : T25) (β : Type) (e : (List V × List V × List V × Int × Unit) × (List V × List V × List V × Int × Unit) × Unit) (k : V → Option β) : Option β := F β e.1.1 e.1.2.1 e.1.2.2.1 e.1.2.2.2.1 e.2.1.1 e.2.1.2.1 e.2.1.2.2.1 e.2.1.2.2.2.1 (fun y1 => k (.bool y1))
noncomputable abbrev W25 (F : T25) : (β : Type) → List V → (V → Option β) → Option β := wrap s25 (G25 F)
theorem k25 (F18 : T18) (F15 : T15) (F65 : T65) (β : Type) (e : argsT s25) (k : V → Option β) : fnK cfg (tabL [(18, W18 F18), (15, W15 F15), (65, W65 F65)]) noX 25 Try.f25 β (argsEnc s25 e) k = G25 (P25 F18 F15 F65 ) β e k := by kernel_rfl
theorem ok25 : FnOk D 25 (W25 F25) := fn_okW [(18, W18 F18), (15, W15 F15), (65, W65 F65)] noX (fun _ => rfl) Try.func25 rfl (tabL_cons ok18 (tabL_cons ok15 (tabL_cons ok65 tabL_nil))) (k25 F18 F15 F65 )

/-- laws.FnExactGuessesSound -/
abbrev T5 : Type 1 := (β : Type) → List V → List V → List V → Int → (Bool → Option β) → Option β
noncomputable def P5 (F21 : T21) (F23 : T23) (F22 : T22) (F24 : T24) (F25 : T25) : T5 := fun β aN_Servers aN_Cache_Entries aN_Log aN_Now k =>
  F21 _ aN_Servers aN_Cache_Entries aN_Log aN_Now 1048576 fun n1 =>
  br (decide (n1 < 0)) (
    k true) (
    F23 _ aN_Servers aN_Cache_Entries aN_Log aN_Now fun l2 l3 l4 n5 =>
    F22 _ l2 l3 l4 n5 fun b6 =>
    F23 _ aN_Servers aN_Cache_Entries aN_Log aN_Now fun l7 l8 l9 n10 =>
    F24 _ l7 l8 l9 n10 fun b11 =>
    br (!(b11 == b6)) (
      k false) (
      F23 _ aN_Servers aN_Cache_Entries aN_Log aN_Now fun l12 l13 l14 n15 =>
      F25 _ l7 l8 l9 n10 l12 l13 l14 n15 fun b16 =>
      br (!b16) (
        k false) (
        k true)))
noncomputable def F5 : T5 := P5 F21 F23 F22 F24 F25 
abbrev s5 : List (Bool × List CK) := [(true, [.sl 2 false, .sl 10 true, .sl 4 true, .int .i64])]
noncomputable def G5 (F : T5) (β : Type) (e : (List V × List V × List V × Int × Unit) × Unit) (k : V → Option β) : Option β := F β e.1.1 e.1.2.1 e.1.2.2.1 e.1.2.2.2.1 (fun y1 => k (.bool y1))
noncomputable abbrev W5 (F : T5) : (β : Type) → List V → (V → Option β) → Option β := wrap s5 (G5 F)
theorem k5 (F21 : T21) (F23 : T23) (F22 : T22) (F24 : T24) (F25 : T25) (β : Type) (e : argsT s5) (k : V → Option β) : fnK cfg (tabL [(21, W21 F21), (23, W23 F23), (22, W22 F22), (24, W24 F24), (25, W25 F25)]) noX 5 Try.f5 β (argsEnc s5 e) k = G5 (P5 F21 F23 F22 F24 F25 ) β e k := by kernel_rfl
theorem ok5 : FnOk D 5 (W5 F5) := fn_okW [(21, W21 F21), (23, W23 F23), (22, W22 F22), (24, W24 F24), (25, W25 F25)] noX (fun _ => rfl) Try.func5 rfl (tabL_cons ok21 (tabL_cons ok23 (tabL_cons ok22 (tabL_cons ok24 (tabL_cons ok25 tabL_nil))))) (k5 F21 F23 F22 F24 F25 )

/-- spec.SentTo -/
abbrev T66 : Type 1 := (β : Type) → List V → List V → List V → Int → List UInt8 → (List V → Option β) → Option β
noncomputable def P66 : T66 := fun β n_Servers n_Cache_Entries n_Log n_Now host k =>
  whileK (fun s1 =>
    br (decide ((lI s1 2) < ((lL s1 5).length : Int))) (
      chk (0 ≤ (lI s1 2)) <|
      idx true [.str, .str, .str, .bool] (lL s1 5) ((lI s1 2).toNat) fun (e2 : List UInt8 × List UInt8 × List UInt8 × Bool × Unit) =>
      br (e2.2.1 == (lS s1 0)) (
        chk (0 ≤ (lI s1 2)) <|
        idx true [.str, .str, .str, .bool] (lL s1 5) ((lI s1 2).toNat) fun (e3 : List UInt8 × List UInt8 × List UInt8 × Bool × Unit) =>
        chk (((lL s1 1).length + ([.agg [.str e3.1, .str e3.2.1, .str e3.2.2.1, .bool e3.2.2.2.1]] : List V).length) * 56 ≤ 140737488355328 ∧ (lL s1 1).length + ([.agg [.str e3.1, .str e3.2.1, .str e3.2.2.1, .bool e3.2.2.2.1]] : List V).length ≤ 140737488355328) <|
        some (.inl [.s (lS s1 0), .l ((lL s1 1) ++ [.agg [.str e3.1, .str e3.2.1, .str e3.2.2.1, .bool e3.2.2.2.1]]), .i (IntKind.wrap .i64 ((lI s1 2) + 1)), .l (lL s1 3), .l (lL s1 4), .l (lL s1 5), .i (lI s1 6)])) (
        some (.inl [.s (lS s1 0), .l (lL s1 1), .i (IntKind.wrap .i64 ((lI s1 2) + 1)), .l (lL s1 3), .l (lL s1 4), .l (lL s1 5), .i (lI s1 6)]))) (
      some (.inr (0, [.l (lL s1 1)])))) [.s host, .l [], .i 0, .l n_Servers, .l n_Cache_Entries, .l n_Log, .i n_Now] fun (r4 : Nat × List Leaf) =>
  k (lL r4.2 0)
noncomputable def F66 : T66 := P66 
def X66 : Exits := fun i => lookN i [] [(3, [(.exit 0, xk 33 [(5, .own 1000000 4 .flat [])] [])])]
abbrev s66 : List (Bool × List CK) := [(true, [.sl 2 false, .sl 10 true, .sl 4 true, .int .i64]), (false, [.str])]
noncomputable def G66 (F : T66) (β : Type) (e : (List V × List V × List V × Int × Unit) × (List UInt8 × Unit) × Unit) (k : V → Option β) : Option β := F β e.1.1 e.1.2.1 e.1.2.2.1 e.1.2.2.2.1 e.2.1.1 (fun y1 => k (.own 0 4 .flat y1))
noncomputable abbrev W66 (F : T66) : (β : Type) → List V → (V → Option β) → Option β := wrap s66 (G66 F)
theorem k66 (β : Type) (e : argsT s66) (k : V → Option β) : fnK cfg (tabL []) X66 66 Try.f66 β (argsEnc s66 e) k = G66 (P66 ) β e k := by kernel_rfl
theorem ok66 : FnOk D 66 (W66 F66) := fn_okW [] X66 (fun _ => rfl) Try.func66 rfl (tabL_nil) (k66 )

/-- spec.GuessedFor -/
abbrev T26 : Type 1 := (β : Type) → List V → List V → List V → Int → List UInt8 → (Int → Option β) → Option β
noncomputable def P26 (F66 : T66) : T26 := fun β n_Servers n_Cache_Entries n_Log n_Now host k =>
  F66 _ n_Servers n_Cache_Entries n_Log n_Now host fun l1 =>
  whileK (fun s2 =>
    br (decide ((lI s2 2) < ((lL s2 1).length : Int))) (
      chk (0 ≤ (lI s2 2) ∧ (lI s2 2).toNat < (lL s2 1).length) <|
      idxAt [.bool] (lL s2 1) ((lI s2 2).toNat) 3 fun (e3 : Bool × Unit) =>
      br e3.1 (
        some (.inl [.i (IntKind.wrap .i64 ((lI s2 0) + 1)), .l (lL s2 1), .i (IntKind.wrap .i64 ((lI s2 2) + 1))])) (
        some (.inl [.i (lI s2 0), .l (lL s2 1), .i (IntKind.wrap .i64 ((lI s2 2) + 1))]))) (
      some (.inr (0, [.i (lI s2 0)])))) [.i 0, .l l1, .i 0] fun (r4 : Nat × List Leaf) =>
  k (lI r4.2 0)
noncomputable def F26 : T26 := P26 F66 
def X26 : Exits := fun i => lookN i [] [(4, [(.exit 0, xk 25 [(5, .int .i64 0)] [])])]
abbrev s26 : List (Bool × List CK) := [(true, [.sl 2 false, .sl 10 true, .sl 4 true, .int .i64]), (false, [.str])]
noncomputable def G26 (F : T26) (β : Type) (e : (List V × List V × List V × Int × Unit) × (List UInt8 × Unit) × Unit) (k : V → Option β) : Option β := F β e.1.1 e.1.2.1 e.1.2.2.1 e.1.2.2.2.1 e.2.1.1 (fun y1 => k (.int .i64 y1))
noncomputable abbrev W26 (F : T26) : (β : Type) → List V → (V → Option β) → Option β := wrap s26 (G26 F)
theorem k26 (F66 : T66) (β : Type) (e : argsT s26) (k : V → Option β) : fnK cfg (tabL [(66, W66 F66)]) X26 26 Try.f26 β (argsEnc s26 e) k = G26 (P26 F66 ) β e k := by kernel_rfl
theorem ok26 : FnOk D 26 (W26 F26) := fn_okW [(66, W66 F66)] X26 (fun _ => rfl) Try.func26 rfl (tabL_cons ok66 tabL_nil) (k26 F66 )

/-- impl.SentTo -/
abbrev T68 : Type 1 := (β : Type) → List V → List V → List V → Int → List UInt8 → (List V → Option β) → Option β
noncomputable def P68 : T68 := fun β n_Servers n_Cache_Entries n_Log n_Now host k =>
  whileK (fun s1 =>
    br (decide ((lI s1 4) < (lI s1 3))) (
      chk (0 ≤ (lI s1 4)) <|
      idx true [.str, .str, .str, .bool] (lL s1 2) ((lI s1 4).toNat) fun (e2 : List UInt8 × List UInt8 × List UInt8 × Bool × Unit) =>
      br (e2.2.1 == (lS s1 0)) (
        chk (((lL s1 1).length + ([.agg [.str e2.1, .str e2.2.1, .str e2.2.2.1, .bool e2.2.2.2.1]] : List V).length) * 56 ≤ 140737488355328 ∧ (lL s1 1).length + ([.agg [.str e2.1, .str e2.2.1, .str e2.2.2.1, .bool e2.2.2.2.1]] : List V).length ≤ 140737488355328) <|
        some (.inl [.s (lS s1 0), .l ((lL s1 1) ++ [.agg [.str e2.1, .str e2.2.1, .str e2.2.2.1, .bool e2.2.2.2.1]]), .l (lL s1 2), .i (lI s1 3), .i (IntKind.wrap .i64 ((lI s1 4) + 1))])) (
        some (.inl [.s (lS s1 0), .l (lL s1 1), .l (lL s1 2), .i (lI s1 3), .i (IntKind.wrap .i64 ((lI s1 4) + 1))]))) (
      some (.inr (0, [.l (lL s1 1)])))) [.s host, .l [], .l n_Log, .i (n_Log.length : Int), .i 0] fun (r3 : Nat × List Leaf) =>
  k (lL r3.2 0)
noncomputable def F68 : T68 := P68 
def X68 : Exits := fun i => lookN i [] [(3, [(.exit 0, xk 27 [(5, .own 1000000 4 .flat [])] [])])]
abbrev s68 : List (Bool × List CK) := [(true, [.sl 2 false, .sl 10 true, .sl 4 true, .int .i64]), (false, [.str])]
noncomputable def G68 (F : T68) (β : Type) (e : (List V × List V × List V × Int × Unit) × (List UInt8 × Unit) × Unit) (k : V → Option β) : Option β := F β e.1.1 e.1.2.1 e.1.2.2.1 e.1.2.2.2.1 e.2.1.1 (fun y1 => k (.own 0 4 .flat y1))
noncomputable abbrev W68 (F : T68) : (β : Type) → List V → (V → Option β) → Option β := wrap s68 (G68 F)
theorem k68 (β : Type) (e : argsT s68) (k : V → Option β) : fnK cfg (tabL []) X68 68 Try.f68 β (argsEnc s68 e) k = G68 (P68 ) β e k := by kernel_rfl
theorem ok68 : FnOk D 68 (W68 F68) := fn_okW [] X68 (fun _ => rfl) Try.func68 rfl (tabL_nil) (k68 )

/-- impl.countGuesses -/
abbrev T67 : Type 1 := (β : Type) → List V → (Int → Option β) → Option β
noncomputable def P67 : T67 := fun β l k =>
  whileK (fun s1 =>
    br (decide ((lI s1 3) < (lI s1 2))) (
      chk (0 ≤ (lI s1 3)) <|
      idx true [.str, .str, .str, .bool] (lL s1 1) ((lI s1 3).toNat) fun (e2 : List UInt8 × List UInt8 × List UInt8 × Bool × Unit) =>
      br e2.2.2.2.1 (
        some (.inl [.i (IntKind.wrap .i64 ((lI s1 0) + 1)), .l (lL s1 1), .i (lI s1 2), .i (IntKind.wrap .i64 ((lI s1 3) + 1))])) (
        some (.inl [.i (lI s1 0), .l (lL s1 1), .i (lI s1 2), .i (IntKind.wrap .i64 ((lI s1 3) + 1))]))) (
      some (.inr (0, [.i (lI s1 0)])))) [.i 0, .l l, .i (l.length : Int), .i 0] fun (r3 : Nat × List Leaf) =>
  k (lI r3.2 0)
noncomputable def F67 : T67 := P67 
def X67 : Exits := fun i => lookN i [] [(3, [(.exit 0, xk 18 [(3, .int .i64 0)] [])])]
abbrev s67 : List (Bool × List CK) := [(false, [.sl 4 true])]
noncomputable def G67 (F : T67) (β : Type) (e : (List V × Unit) × Unit) (k : V → Option β) : Option β := F β e.1.1 (fun y1 => k (.int .i64 y1))
noncomputable abbrev W67 (F : T67) : (β : Type) → List V → (V → Option β) → Option β := wrap s67 (G67 F)
theorem k67 (β : Type) (e : argsT s67) (k : V → Option β) : fnK cfg (tabL []) X67 67 Try.f67 β (argsEnc s67 e) k = G67 (P67 ) β e k := by kernel_rfl
theorem ok67 : FnOk D 67 (W67 F67) := fn_okW [] X67 (fun _ => rfl) Try.func67 rfl (tabL_nil) (k67 )

/-- impl.GuessedFor -/
abbrev T27 : Type 1 := (β : Type) → List V → List V → List V → Int → List UInt8 → (Int → Option β) → Option β
noncomputable def P27 (F68 : T68) (F67 : T67) : T27 := fun β n_Servers n_Cache_Entries n_Log n_Now host k =>
  F68 _ n_Servers n_Cache_Entries n_Log n_Now host fun l1 =>
  F67 _ l1 fun n2 =>
  k n2
noncomputable def F27 : T27 := P27 F68 F67 
abbrev s27 : List (Bool × List CK) := [(true, [.sl 2 false, .sl 10 true, .sl 4 true, .int .i64]), (false, [.str])]
noncomputable def G27 (F : T27) (β : Type) (e : (List V × List V × List V × Int × Unit) × (List UInt8 × Unit) × Unit) (k : V → Option β) : Option β := F β e.1.1 e.1.2.1 e.1.2.2.1 e.1.2.2.2.1 e.2.1.1 (fun y1 => k (.int .i64 y1))
noncomputable abbrev W27 (F : T27) : (β : Type) → List V → (V → Option β) → Option β := wrap s27 (G27 F)
theorem k27 (F68 : T68) (F67 : T67) (β : Type) (e : argsT s27) (k : V → Option β) : fnK cfg (tabL [(68, W68 F68), (67, W67 F67)]) noX 27 Try.f27 β (argsEnc s27 e) k = G27 (P27 F68 F67 ) β e k := by kernel_rfl
theorem ok27 : FnOk D 27 (W27 F27) := fn_okW [(68, W68 F68), (67, W67 F67)] noX (fun _ => rfl) Try.func27 rfl (tabL_cons ok68 (tabL_cons ok67 tabL_nil)) (k27 F68 F67 )

/-- laws.FnExactGuessedFor -/
abbrev T6 : Type 1 := (β : Type) → List V → List V → List V → Int → List UInt8 → (Bool → Option β) → Option β
noncomputable def P6 (F21 : T21) (F23 : T23) (F26 : T26) (F27 : T27) (F25 : T25) : T6 := fun β aN_Servers aN_Cache_Entries aN_Log aN_Now aHost k =>
  br (decide ((aHost.length : Int) > 1048576)) (
    k true) (
    F21 _ aN_Servers aN_Cache_Entries aN_Log aN_Now 1048576 fun n1 =>
    br (decide (n1 < 0)) (
      k true) (
      F23 _ aN_Servers aN_Cache_Entries aN_Log aN_Now fun l2 l3 l4 n5 =>
      F26 _ l2 l3 l4 n5 aHost fun n6 =>
      F23 _ aN_Servers aN_Cache_Entries aN_Log aN_Now fun l7 l8 l9 n10 =>
      F27 _ l7 l8 l9 n10 aHost fun n11 =>
      br (n11 != n6) (
        k false) (
        F23 _ aN_Servers aN_Cache_Entries aN_Log aN_Now fun l12 l13 l14 n15 =>
        F25 _ l7 l8 l9 n10 l12 l13 l14 n15 fun b16 =>
        br (!b16) (
          k false) (
          k true))))
noncomputable def F6 : T6 := P6 F21 F23 F26 F27 F25 
abbrev s6 : List (Bool × List CK) := [(true, [.sl 2 false, .sl 10 true, .sl 4 true, .int .i64]), (false, [.str])]
noncomputable def G6 (F : T6) (β : Type) (e : (List V × List V × List V × Int × Unit) × (List UInt8 × Unit) × Unit) (k : V → Option β) : Option β := F β e.1.1 e.1.2.1 e.1.2.2.1 e.1.2.2.2.1 e.2.1.1 (fun y1 => k (.bool y1))
noncomputable abbrev W6 (F : T6) : (β : Type) → List V → (V → Option β) → Option β := wrap s6 (G6 F)
theorem k6 (F21 : T21) (F23 : T23) (F26 : T26) (F27 : T27) (F25 : T25) (β : Type) (e : argsT s6) (k : V → Option β) : fnK cfg (tabL [(21, W21 F21), (23, W23 F23), (26, W26 F26), (27, W27 F27), (25, W25 F25)]) noX 6 Try.f6 β (argsEnc s6 e) k = G6 (P6 F21 F23 F26 F27 F25 ) β e k := by kernel_rfl
theorem ok6 : FnOk D 6 (W6 F6) := fn_okW [(21, W21 F21), (23, W23 F23), (26, W26 F26), (27, W27 F27), (25, W25 F25)] noX (fun _ => rfl) Try.func6 rfl (tabL_cons ok21 (tabL_cons ok23 (tabL_cons ok26 (tabL_cons ok27 (tabL_cons ok25 tabL_nil))))) (k6 F21 F23 F26 F27 F25 )

end Go.Am

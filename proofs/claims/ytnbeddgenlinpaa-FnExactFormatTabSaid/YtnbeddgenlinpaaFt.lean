/-
  Functions of the program, extracted by program (sym.py) out of their code: what each computes, and, by the kernel's reckoning, that the machine's looking form computes just that; so what the machine answers.
-/
import Derived.Test.YtnbeddgenlinpaaAmCfg
import Derived.Test.YtnbeddgenlinpaaAmEvOk2
import Derived.KernelRfl
set_option maxRecDepth 10000
set_option linter.unusedVariables false
namespace Go.Am
open Go Go.Proofs
/-- laws.szAddr -/
abbrev T120 : Type 1 := (β : Type) → List UInt8 → List UInt8 → Int → (Int → Option β) → Option β
noncomputable def P120 : T120 := fun β a_Host a_Path left k =>
  br (decide (IntKind.wrap .i64 (left - (a_Host.length : Int)) < 0)) (
    k (-1)) (
    br (decide (IntKind.wrap .i64 ((IntKind.wrap .i64 (left - (a_Host.length : Int))) - (a_Path.length : Int)) < 0)) (
      k (-1)) (
      k (IntKind.wrap .i64 ((IntKind.wrap .i64 (left - (a_Host.length : Int))) - (a_Path.length : Int)))))
noncomputable def F120 : T120 := P120 
abbrev s120 : List (Bool × List CK) := [(true, [.str, .str]), (false, [.int .i64])]
noncomputable def G120 (F : T120) (β : Type) (e : (List UInt8 × List UInt8 × Unit) × (Int × Unit) × Unit) (k : V → Option β) : Option β := F β e.1.1 e.1.2.1 e.2.1.1 (fun y1 => k (.int .i64 y1))
noncomputable abbrev W120 (F : T120) : (β : Type) → List V → (V → Option β) → Option β := wrap s120 (G120 F)
theorem k120 (β : Type) (e : argsT s120) (k : V → Option β) : fnK cfg (tabL []) noX 120 Try.f120 β (argsEnc s120 e) k = G120 (P120 ) β e k := by kernel_rfl
theorem ok120 : FnOk D 120 (W120 F120) := fn_okW [] noX (fun _ => rfl) Try.func120 rfl (tabL_nil) (k120 )

/-- laws.szStringS -/
abbrev T153 : Type 1 := (β : Type) → List V → Int → (Int → Option β) → Option β
noncomputable def P153 : T153 := fun β a left k =>
  br (decide (IntKind.wrap .i64 (left - (a.length : Int)) < 0)) (
    k (-1)) (
    whileK (fun s1 =>
      br (decide ((lI s1 2) < ((lL s1 0).length : Int))) (
        chk (0 ≤ (lI s1 2)) <|
        idx false [.str] (lL s1 0) ((lI s1 2).toNat) fun (e2 : List UInt8 × Unit) =>
        br (decide (IntKind.wrap .i64 ((lI s1 1) - (e2.1.length : Int)) < 0)) (
          some (.inr (0, [.i (IntKind.wrap .i64 ((lI s1 1) - (e2.1.length : Int))), .i (-1)]))) (
          some (.inl [.l (lL s1 0), .i (IntKind.wrap .i64 ((lI s1 1) - (e2.1.length : Int))), .i (IntKind.wrap .i64 ((lI s1 2) + 1))]))) (
        some (.inr (1, [.i (lI s1 1)])))) [.l a, .i (IntKind.wrap .i64 (left - (a.length : Int))), .i 0] fun (r3 : Nat × List Leaf) =>
    if r3.1 = 0 then
      k (lI r3.2 1)
    else
      k (lI r3.2 0))
noncomputable def F153 : T153 := P153 
def X153 : Exits := fun i => lookN i [] [(5, [(.ret, xk 28 [(1, .int .i64 0), (4, .int .i64 0)] []), (.exit 0, xk 28 [(1, .int .i64 0)] [])])]
abbrev s153 : List (Bool × List CK) := [(false, [.sl 1 true]), (false, [.int .i64])]
noncomputable def G153 (F : T153) (β : Type) (e : (List V × Unit) × (Int × Unit) × Unit) (k : V → Option β) : Option β := F β e.1.1 e.2.1.1 (fun y1 => k (.int .i64 y1))
noncomputable abbrev W153 (F : T153) : (β : Type) → List V → (V → Option β) → Option β := wrap s153 (G153 F)
theorem k153 (β : Type) (e : argsT s153) (k : V → Option β) : fnK cfg (tabL []) X153 153 Try.f153 β (argsEnc s153 e) k = G153 (P153 ) β e k := by kernel_rfl
theorem ok153 : FnOk D 153 (W153 F153) := fn_okW [] X153 (fun _ => rfl) Try.func153 rfl (tabL_nil) (k153 )

/-- laws.szPolicy -/
abbrev T146 : Type 1 := (β : Type) → Bool → List V → List V → List V → List UInt8 → Int → (Int → Option β) → Option β
noncomputable def P146 (F153 : T153) : T146 := fun β a_Set a_Scripts a_Styles a_Images a_Nonce left k =>
  F153 _ a_Scripts left fun n1 =>
  br (decide (n1 < 0)) (
    k (-1)) (
    F153 _ a_Styles n1 fun n2 =>
    br (decide (n2 < 0)) (
      k (-1)) (
      F153 _ a_Images n2 fun n3 =>
      br (decide (n3 < 0)) (
        k (-1)) (
        br (decide (IntKind.wrap .i64 (n3 - (a_Nonce.length : Int)) < 0)) (
          k (-1)) (
          k (IntKind.wrap .i64 (n3 - (a_Nonce.length : Int)))))))
noncomputable def F146 : T146 := P146 F153 
abbrev s146 : List (Bool × List CK) := [(true, [.bool, .sl 1 true, .sl 1 true, .sl 1 true, .str]), (false, [.int .i64])]
noncomputable def G146 (F : T146) (β : Type) (e : (Bool × List V × List V × List V × List UInt8 × Unit) × (Int × Unit) × Unit) (k : V → Option β) : Option β := F β e.1.1 e.1.2.1 e.1.2.2.1 e.1.2.2.2.1 e.1.2.2.2.2.1 e.2.1.1 (fun y1 => k (.int .i64 y1))
noncomputable abbrev W146 (F : T146) : (β : Type) → List V → (V → Option β) → Option β := wrap s146 (G146 F)
theorem k146 (F153 : T153) (β : Type) (e : argsT s146) (k : V → Option β) : fnK cfg (tabL [(153, W153 F153)]) noX 146 Try.f146 β (argsEnc s146 e) k = G146 (P146 F153 ) β e k := by kernel_rfl
theorem ok146 : FnOk D 146 (W146 F146) := fn_okW [(153, W153 F153)] noX (fun _ => rfl) Try.func146 rfl (tabL_cons ok153 tabL_nil) (k146 F153 )

/-- laws.szTokenizer -/
abbrev T147 : Type 1 := (β : Type) → List UInt8 → Int → (Int → Option β) → Option β
noncomputable def P147 : T147 := fun β a_Rest left k =>
  br (decide (IntKind.wrap .i64 (left - (a_Rest.length : Int)) < 0)) (
    k (-1)) (
    k (IntKind.wrap .i64 (left - (a_Rest.length : Int))))
noncomputable def F147 : T147 := P147 
abbrev s147 : List (Bool × List CK) := [(true, [.str]), (false, [.int .i64])]
noncomputable def G147 (F : T147) (β : Type) (e : (List UInt8 × Unit) × (Int × Unit) × Unit) (k : V → Option β) : Option β := F β e.1.1 e.2.1.1 (fun y1 => k (.int .i64 y1))
noncomputable abbrev W147 (F : T147) : (β : Type) → List V → (V → Option β) → Option β := wrap s147 (G147 F)
theorem k147 (β : Type) (e : argsT s147) (k : V → Option β) : fnK cfg (tabL []) noX 147 Try.f147 β (argsEnc s147 e) k = G147 (P147 ) β e k := by kernel_rfl
theorem ok147 : FnOk D 147 (W147 F147) := fn_okW [] noX (fun _ => rfl) Try.func147 rfl (tabL_nil) (k147 )

/-- laws.szAttr -/
abbrev T231 : Type 1 := (β : Type) → List UInt8 → List UInt8 → Int → (Int → Option β) → Option β
noncomputable def P231 : T231 := fun β a_Name a_Value left k =>
  br (decide (IntKind.wrap .i64 (left - (a_Name.length : Int)) < 0)) (
    k (-1)) (
    br (decide (IntKind.wrap .i64 ((IntKind.wrap .i64 (left - (a_Name.length : Int))) - (a_Value.length : Int)) < 0)) (
      k (-1)) (
      k (IntKind.wrap .i64 ((IntKind.wrap .i64 (left - (a_Name.length : Int))) - (a_Value.length : Int)))))
noncomputable def F231 : T231 := P231 
abbrev s231 : List (Bool × List CK) := [(true, [.str, .str]), (false, [.int .i64])]
noncomputable def G231 (F : T231) (β : Type) (e : (List UInt8 × List UInt8 × Unit) × (Int × Unit) × Unit) (k : V → Option β) : Option β := F β e.1.1 e.1.2.1 e.2.1.1 (fun y1 => k (.int .i64 y1))
noncomputable abbrev W231 (F : T231) : (β : Type) → List V → (V → Option β) → Option β := wrap s231 (G231 F)
theorem k231 (β : Type) (e : argsT s231) (k : V → Option β) : fnK cfg (tabL []) noX 231 Try.f231 β (argsEnc s231 e) k = G231 (P231 ) β e k := by kernel_rfl
theorem ok231 : FnOk D 231 (W231 F231) := fn_okW [] noX (fun _ => rfl) Try.func231 rfl (tabL_nil) (k231 )

/-- laws.szAttrS -/
abbrev T221 : Type 1 := (β : Type) → List V → Int → (Int → Option β) → Option β
noncomputable def P221 (F231 : T231) : T221 := fun β a left k =>
  br (decide (IntKind.wrap .i64 (left - (a.length : Int)) < 0)) (
    k (-1)) (
    whileK (fun s1 =>
      br (decide ((lI s1 2) < ((lL s1 0).length : Int))) (
        chk (0 ≤ (lI s1 2)) <|
        idx true [.str, .str] (lL s1 0) ((lI s1 2).toNat) fun (e2 : List UInt8 × List UInt8 × Unit) =>
        F231 _ e2.1 e2.2.1 (lI s1 1) fun n3 =>
        br (decide (n3 < 0)) (
          some (.inr (0, [.i n3, .i (-1)]))) (
          some (.inl [.l (lL s1 0), .i n3, .i (IntKind.wrap .i64 ((lI s1 2) + 1))]))) (
        some (.inr (1, [.i (lI s1 1)])))) [.l a, .i (IntKind.wrap .i64 (left - (a.length : Int))), .i 0] fun (r4 : Nat × List Leaf) =>
    if r4.1 = 0 then
      k (lI r4.2 1)
    else
      k (lI r4.2 0))
noncomputable def F221 : T221 := P221 F231 
def X221 : Exits := fun i => lookN i [] [(5, [(.ret, xk 27 [(1, .int .i64 0), (4, .int .i64 0)] []), (.exit 0, xk 27 [(1, .int .i64 0)] [])])]
abbrev s221 : List (Bool × List CK) := [(false, [.sl 2 true]), (false, [.int .i64])]
noncomputable def G221 (F : T221) (β : Type) (e : (List V × Unit) × (Int × Unit) × Unit) (k : V → Option β) : Option β := F β e.1.1 e.2.1.1 (fun y1 => k (.int .i64 y1))
noncomputable abbrev W221 (F : T221) : (β : Type) → List V → (V → Option β) → Option β := wrap s221 (G221 F)
theorem k221 (F231 : T231) (β : Type) (e : argsT s221) (k : V → Option β) : fnK cfg (tabL [(231, W231 F231)]) X221 221 Try.f221 β (argsEnc s221 e) k = G221 (P221 F231 ) β e k := by kernel_rfl
theorem ok221 : FnOk D 221 (W221 F221) := fn_okW [(231, W231 F231)] X221 (fun _ => rfl) Try.func221 rfl (tabL_cons ok231 tabL_nil) (k221 F231 )

/-- laws.szToken -/
abbrev T194 : Type 1 := (β : Type) → Int → List UInt8 → List V → List UInt8 → Int → (Int → Option β) → Option β
noncomputable def P194 (F221 : T221) : T194 := fun β a_Kind a_Name a_Attrs a_Text left k =>
  br (decide (IntKind.wrap .i64 (left - (a_Name.length : Int)) < 0)) (
    k (-1)) (
    F221 _ a_Attrs (IntKind.wrap .i64 (left - (a_Name.length : Int))) fun n1 =>
    br (decide (n1 < 0)) (
      k (-1)) (
      br (decide (IntKind.wrap .i64 (n1 - (a_Text.length : Int)) < 0)) (
        k (-1)) (
        k (IntKind.wrap .i64 (n1 - (a_Text.length : Int))))))
noncomputable def F194 : T194 := P194 F221 
abbrev s194 : List (Bool × List CK) := [(true, [.int .i64, .str, .sl 2 true, .str]), (false, [.int .i64])]
noncomputable def G194 (F : T194) (β : Type) (e : (Int × List UInt8 × List V × List UInt8 × Unit) × (Int × Unit) × Unit) (k : V → Option β) : Option β := F β e.1.1 e.1.2.1 e.1.2.2.1 e.1.2.2.2.1 e.2.1.1 (fun y1 => k (.int .i64 y1))
noncomputable abbrev W194 (F : T194) : (β : Type) → List V → (V → Option β) → Option β := wrap s194 (G194 F)
theorem k194 (F221 : T221) (β : Type) (e : argsT s194) (k : V → Option β) : fnK cfg (tabL [(221, W221 F221)]) noX 194 Try.f194 β (argsEnc s194 e) k = G194 (P194 F221 ) β e k := by kernel_rfl
theorem ok194 : FnOk D 194 (W194 F194) := fn_okW [(221, W221 F221)] noX (fun _ => rfl) Try.func194 rfl (tabL_cons ok221 tabL_nil) (k194 F221 )

/-- laws.szTokenS -/
abbrev T148 : Type 1 := (β : Type) → List V → Int → (Int → Option β) → Option β
noncomputable def P148 (F194 : T194) : T148 := fun β a left k =>
  br (decide (IntKind.wrap .i64 (left - (a.length : Int)) < 0)) (
    k (-1)) (
    whileK (fun s1 =>
      br (decide ((lI s1 2) < ((lL s1 0).length : Int))) (
        chk (0 ≤ (lI s1 2)) <|
        idx true [.int .i64, .str, .sl 2 true, .str] (lL s1 0) ((lI s1 2).toNat) fun (e2 : Int × List UInt8 × List V × List UInt8 × Unit) =>
        F194 _ e2.1 e2.2.1 e2.2.2.1 e2.2.2.2.1 (lI s1 1) fun n3 =>
        br (decide (n3 < 0)) (
          some (.inr (0, [.i n3, .i (-1)]))) (
          some (.inl [.l (lL s1 0), .i n3, .i (IntKind.wrap .i64 ((lI s1 2) + 1))]))) (
        some (.inr (1, [.i (lI s1 1)])))) [.l a, .i (IntKind.wrap .i64 (left - (a.length : Int))), .i 0] fun (r4 : Nat × List Leaf) =>
    if r4.1 = 0 then
      k (lI r4.2 1)
    else
      k (lI r4.2 0))
noncomputable def F148 : T148 := P148 F194 
def X148 : Exits := fun i => lookN i [] [(5, [(.ret, xk 27 [(1, .int .i64 0), (4, .int .i64 0)] []), (.exit 0, xk 27 [(1, .int .i64 0)] [])])]
abbrev s148 : List (Bool × List CK) := [(false, [.sl 4 false]), (false, [.int .i64])]
noncomputable def G148 (F : T148) (β : Type) (e : (List V × Unit) × (Int × Unit) × Unit) (k : V → Option β) : Option β := F β e.1.1 e.2.1.1 (fun y1 => k (.int .i64 y1))
noncomputable abbrev W148 (F : T148) : (β : Type) → List V → (V → Option β) → Option β := wrap s148 (G148 F)
theorem k148 (F194 : T194) (β : Type) (e : argsT s148) (k : V → Option β) : fnK cfg (tabL [(194, W194 F194)]) X148 148 Try.f148 β (argsEnc s148 e) k = G148 (P148 F194 ) β e k := by kernel_rfl
theorem ok148 : FnOk D 148 (W148 F148) := fn_okW [(194, W194 F194)] X148 (fun _ => rfl) Try.func148 rfl (tabL_cons ok194 tabL_nil) (k148 F194 )

/-- laws.szNode -/
abbrev T222 : Type 1 := (β : Type) → List UInt8 → List UInt8 → Int → List V → Int → (Int → Option β) → Option β
noncomputable def P222 (F221 : T221) : T222 := fun β a_Name a_Text a_Parent a_Attrs left k =>
  br (decide (IntKind.wrap .i64 (left - (a_Name.length : Int)) < 0)) (
    k (-1)) (
    br (decide (IntKind.wrap .i64 ((IntKind.wrap .i64 (left - (a_Name.length : Int))) - (a_Text.length : Int)) < 0)) (
      k (-1)) (
      F221 _ a_Attrs (IntKind.wrap .i64 ((IntKind.wrap .i64 (left - (a_Name.length : Int))) - (a_Text.length : Int))) fun n1 =>
      br (decide (n1 < 0)) (
        k (-1)) (
        k n1)))
noncomputable def F222 : T222 := P222 F221 
abbrev s222 : List (Bool × List CK) := [(true, [.str, .str, .int .i64, .sl 2 true]), (false, [.int .i64])]
noncomputable def G222 (F : T222) (β : Type) (e : (List UInt8 × List UInt8 × Int × List V × Unit) × (Int × Unit) × Unit) (k : V → Option β) : Option β := F β e.1.1 e.1.2.1 e.1.2.2.1 e.1.2.2.2.1 e.2.1.1 (fun y1 => k (.int .i64 y1))
noncomputable abbrev W222 (F : T222) : (β : Type) → List V → (V → Option β) → Option β := wrap s222 (G222 F)
theorem k222 (F221 : T221) (β : Type) (e : argsT s222) (k : V → Option β) : fnK cfg (tabL [(221, W221 F221)]) noX 222 Try.f222 β (argsEnc s222 e) k = G222 (P222 F221 ) β e k := by kernel_rfl
theorem ok222 : FnOk D 222 (W222 F222) := fn_okW [(221, W221 F221)] noX (fun _ => rfl) Try.func222 rfl (tabL_cons ok221 tabL_nil) (k222 F221 )

/-- laws.szNodeS -/
abbrev T195 : Type 1 := (β : Type) → List V → Int → (Int → Option β) → Option β
noncomputable def P195 (F222 : T222) : T195 := fun β a left k =>
  br (decide (IntKind.wrap .i64 (left - (a.length : Int)) < 0)) (
    k (-1)) (
    whileK (fun s1 =>
      br (decide ((lI s1 2) < ((lL s1 0).length : Int))) (
        chk (0 ≤ (lI s1 2)) <|
        idx true [.str, .str, .int .i64, .sl 2 true] (lL s1 0) ((lI s1 2).toNat) fun (e2 : List UInt8 × List UInt8 × Int × List V × Unit) =>
        F222 _ e2.1 e2.2.1 e2.2.2.1 e2.2.2.2.1 (lI s1 1) fun n3 =>
        br (decide (n3 < 0)) (
          some (.inr (0, [.i n3, .i (-1)]))) (
          some (.inl [.l (lL s1 0), .i n3, .i (IntKind.wrap .i64 ((lI s1 2) + 1))]))) (
        some (.inr (1, [.i (lI s1 1)])))) [.l a, .i (IntKind.wrap .i64 (left - (a.length : Int))), .i 0] fun (r4 : Nat × List Leaf) =>
    if r4.1 = 0 then
      k (lI r4.2 1)
    else
      k (lI r4.2 0))
noncomputable def F195 : T195 := P195 F222 
def X195 : Exits := fun i => lookN i [] [(5, [(.ret, xk 27 [(1, .int .i64 0), (4, .int .i64 0)] []), (.exit 0, xk 27 [(1, .int .i64 0)] [])])]
abbrev s195 : List (Bool × List CK) := [(false, [.sl 4 false]), (false, [.int .i64])]
noncomputable def G195 (F : T195) (β : Type) (e : (List V × Unit) × (Int × Unit) × Unit) (k : V → Option β) : Option β := F β e.1.1 e.2.1.1 (fun y1 => k (.int .i64 y1))
noncomputable abbrev W195 (F : T195) : (β : Type) → List V → (V → Option β) → Option β := wrap s195 (G195 F)
theorem k195 (F222 : T222) (β : Type) (e : argsT s195) (k : V → Option β) : fnK cfg (tabL [(222, W222 F222)]) X195 195 Try.f195 β (argsEnc s195 e) k = G195 (P195 F222 ) β e k := by kernel_rfl
theorem ok195 : FnOk D 195 (W195 F195) := fn_okW [(222, W222 F222)] X195 (fun _ => rfl) Try.func195 rfl (tabL_cons ok222 tabL_nil) (k195 F222 )

/-- laws.szIntS -/
abbrev T196 : Type 1 := (β : Type) → List V → Int → (Int → Option β) → Option β
noncomputable def P196 : T196 := fun β a left k =>
  br (decide (IntKind.wrap .i64 (left - (a.length : Int)) < 0)) (
    k (-1)) (
    k (IntKind.wrap .i64 (left - (a.length : Int))))
noncomputable def F196 : T196 := P196 
abbrev s196 : List (Bool × List CK) := [(false, [.sl 1 true]), (false, [.int .i64])]
noncomputable def G196 (F : T196) (β : Type) (e : (List V × Unit) × (Int × Unit) × Unit) (k : V → Option β) : Option β := F β e.1.1 e.2.1.1 (fun y1 => k (.int .i64 y1))
noncomputable abbrev W196 (F : T196) : (β : Type) → List V → (V → Option β) → Option β := wrap s196 (G196 F)
theorem k196 (β : Type) (e : argsT s196) (k : V → Option β) : fnK cfg (tabL []) noX 196 Try.f196 β (argsEnc s196 e) k = G196 (P196 ) β e k := by kernel_rfl
theorem ok196 : FnOk D 196 (W196 F196) := fn_okW [] noX (fun _ => rfl) Try.func196 rfl (tabL_nil) (k196 )

/-- laws.szBuilder -/
abbrev T149 : Type 1 := (β : Type) → List V → List V → Int → (Int → Option β) → Option β
noncomputable def P149 (F195 : T195) (F196 : T196) : T149 := fun β a_Nodes a_Open left k =>
  F195 _ a_Nodes left fun n1 =>
  br (decide (n1 < 0)) (
    k (-1)) (
    F196 _ a_Open n1 fun n2 =>
    br (decide (n2 < 0)) (
      k (-1)) (
      k n2))
noncomputable def F149 : T149 := P149 F195 F196 
abbrev s149 : List (Bool × List CK) := [(true, [.sl 4 false, .sl 1 true]), (false, [.int .i64])]
noncomputable def G149 (F : T149) (β : Type) (e : (List V × List V × Unit) × (Int × Unit) × Unit) (k : V → Option β) : Option β := F β e.1.1 e.1.2.1 e.2.1.1 (fun y1 => k (.int .i64 y1))
noncomputable abbrev W149 (F : T149) : (β : Type) → List V → (V → Option β) → Option β := wrap s149 (G149 F)
theorem k149 (F195 : T195) (F196 : T196) (β : Type) (e : argsT s149) (k : V → Option β) : fnK cfg (tabL [(195, W195 F195), (196, W196 F196)]) noX 149 Try.f149 β (argsEnc s149 e) k = G149 (P149 F195 F196 ) β e k := by kernel_rfl
theorem ok149 : FnOk D 149 (W149 F149) := fn_okW [(195, W195 F195), (196, W196 F196)] noX (fun _ => rfl) Try.func149 rfl (tabL_cons ok195 (tabL_cons ok196 tabL_nil)) (k149 F195 F196 )

/-- laws.szSlot -/
abbrev T197 : Type 1 := (β : Type) → Int → List UInt8 → List UInt8 → List UInt8 → Int → Bool → Int → List UInt8 → Int → (Int → Option β) → Option β
noncomputable def P197 (F120 : T120) : T197 := fun β a_Mode a_To_Host a_To_Path a_Digest a_Node a_Done a_Code a_Body left k =>
  F120 _ a_To_Host a_To_Path left fun n1 =>
  br (decide (n1 < 0)) (
    k (-1)) (
    br (decide (IntKind.wrap .i64 (n1 - (a_Digest.length : Int)) < 0)) (
      k (-1)) (
      br (decide (IntKind.wrap .i64 ((IntKind.wrap .i64 (n1 - (a_Digest.length : Int))) - (a_Body.length : Int)) < 0)) (
        k (-1)) (
        k (IntKind.wrap .i64 ((IntKind.wrap .i64 (n1 - (a_Digest.length : Int))) - (a_Body.length : Int))))))
noncomputable def F197 : T197 := P197 F120 
abbrev s197 : List (Bool × List CK) := [(true, [.int .i64, .str, .str, .str, .int .i64, .bool, .int .i64, .str]), (false, [.int .i64])]
noncomputable def G197 (F : T197) (β : Type) (e : (Int × List UInt8 × List UInt8 × List UInt8 × Int × Bool × Int × List UInt8 × Unit) × (Int × Unit) × Unit) (k : V → Option β) : Option β := F β e.1.1 e.1.2.1 e.1.2.2.1 e.1.2.2.2.1 e.1.2.2.2.2.1 e.1.2.2.2.2.2.1 e.1.2.2.2.2.2.2.1 e.1.2.2.2.2.2.2.2.1 e.2.1.1 (fun y1 => k (.int .i64 y1))
noncomputable abbrev W197 (F : T197) : (β : Type) → List V → (V → Option β) → Option β := wrap s197 (G197 F)
theorem k197 (F120 : T120) (β : Type) (e : argsT s197) (k : V → Option β) : fnK cfg (tabL [(120, W120 F120)]) noX 197 Try.f197 β (argsEnc s197 e) k = G197 (P197 F120 ) β e k := by kernel_rfl
theorem ok197 : FnOk D 197 (W197 F197) := fn_okW [(120, W120 F120)] noX (fun _ => rfl) Try.func197 rfl (tabL_cons ok120 tabL_nil) (k197 F120 )

/-- laws.szSlotS -/
abbrev T150 : Type 1 := (β : Type) → List V → Int → (Int → Option β) → Option β
noncomputable def P150 (F197 : T197) : T150 := fun β a left k =>
  br (decide (IntKind.wrap .i64 (left - (a.length : Int)) < 0)) (
    k (-1)) (
    whileK (fun s1 =>
      br (decide ((lI s1 2) < ((lL s1 0).length : Int))) (
        chk (0 ≤ (lI s1 2)) <|
        idx true [.int .i64, .str, .str, .str, .int .i64, .bool, .int .i64, .str] (lL s1 0) ((lI s1 2).toNat) fun (e2 : Int × List UInt8 × List UInt8 × List UInt8 × Int × Bool × Int × List UInt8 × Unit) =>
        F197 _ e2.1 e2.2.1 e2.2.2.1 e2.2.2.2.1 e2.2.2.2.2.1 e2.2.2.2.2.2.1 e2.2.2.2.2.2.2.1 e2.2.2.2.2.2.2.2.1 (lI s1 1) fun n3 =>
        br (decide (n3 < 0)) (
          some (.inr (0, [.i n3, .i (-1)]))) (
          some (.inl [.l (lL s1 0), .i n3, .i (IntKind.wrap .i64 ((lI s1 2) + 1))]))) (
        some (.inr (1, [.i (lI s1 1)])))) [.l a, .i (IntKind.wrap .i64 (left - (a.length : Int))), .i 0] fun (r4 : Nat × List Leaf) =>
    if r4.1 = 0 then
      k (lI r4.2 1)
    else
      k (lI r4.2 0))
noncomputable def F150 : T150 := P150 F197 
def X150 : Exits := fun i => lookN i [] [(5, [(.ret, xk 27 [(1, .int .i64 0), (4, .int .i64 0)] []), (.exit 0, xk 27 [(1, .int .i64 0)] [])])]
abbrev s150 : List (Bool × List CK) := [(false, [.sl 8 true]), (false, [.int .i64])]
noncomputable def G150 (F : T150) (β : Type) (e : (List V × Unit) × (Int × Unit) × Unit) (k : V → Option β) : Option β := F β e.1.1 e.2.1.1 (fun y1 => k (.int .i64 y1))
noncomputable abbrev W150 (F : T150) : (β : Type) → List V → (V → Option β) → Option β := wrap s150 (G150 F)
theorem k150 (F197 : T197) (β : Type) (e : argsT s150) (k : V → Option β) : fnK cfg (tabL [(197, W197 F197)]) X150 150 Try.f150 β (argsEnc s150 e) k = G150 (P150 F197 ) β e k := by kernel_rfl
theorem ok150 : FnOk D 150 (W150 F150) := fn_okW [(197, W197 F197)] X150 (fun _ => rfl) Try.func150 rfl (tabL_cons ok197 tabL_nil) (k150 F197 )

/-- laws.szModule -/
abbrev T198 : Type 1 := (β : Type) → List UInt8 → List UInt8 → Bool → Int → List UInt8 → Int → (Int → Option β) → Option β
noncomputable def P198 (F120 : T120) : T198 := fun β a_To_Host a_To_Path a_Done a_Code a_Body left k =>
  F120 _ a_To_Host a_To_Path left fun n1 =>
  br (decide (n1 < 0)) (
    k (-1)) (
    br (decide (IntKind.wrap .i64 (n1 - (a_Body.length : Int)) < 0)) (
      k (-1)) (
      k (IntKind.wrap .i64 (n1 - (a_Body.length : Int)))))
noncomputable def F198 : T198 := P198 F120 
abbrev s198 : List (Bool × List CK) := [(true, [.str, .str, .bool, .int .i64, .str]), (false, [.int .i64])]
noncomputable def G198 (F : T198) (β : Type) (e : (List UInt8 × List UInt8 × Bool × Int × List UInt8 × Unit) × (Int × Unit) × Unit) (k : V → Option β) : Option β := F β e.1.1 e.1.2.1 e.1.2.2.1 e.1.2.2.2.1 e.1.2.2.2.2.1 e.2.1.1 (fun y1 => k (.int .i64 y1))
noncomputable abbrev W198 (F : T198) : (β : Type) → List V → (V → Option β) → Option β := wrap s198 (G198 F)
theorem k198 (F120 : T120) (β : Type) (e : argsT s198) (k : V → Option β) : fnK cfg (tabL [(120, W120 F120)]) noX 198 Try.f198 β (argsEnc s198 e) k = G198 (P198 F120 ) β e k := by kernel_rfl
theorem ok198 : FnOk D 198 (W198 F198) := fn_okW [(120, W120 F120)] noX (fun _ => rfl) Try.func198 rfl (tabL_cons ok120 tabL_nil) (k198 F120 )

/-- laws.szModuleS -/
abbrev T151 : Type 1 := (β : Type) → List V → Int → (Int → Option β) → Option β
noncomputable def P151 (F198 : T198) : T151 := fun β a left k =>
  br (decide (IntKind.wrap .i64 (left - (a.length : Int)) < 0)) (
    k (-1)) (
    whileK (fun s1 =>
      br (decide ((lI s1 2) < ((lL s1 0).length : Int))) (
        chk (0 ≤ (lI s1 2)) <|
        idx true [.str, .str, .bool, .int .i64, .str] (lL s1 0) ((lI s1 2).toNat) fun (e2 : List UInt8 × List UInt8 × Bool × Int × List UInt8 × Unit) =>
        F198 _ e2.1 e2.2.1 e2.2.2.1 e2.2.2.2.1 e2.2.2.2.2.1 (lI s1 1) fun n3 =>
        br (decide (n3 < 0)) (
          some (.inr (0, [.i n3, .i (-1)]))) (
          some (.inl [.l (lL s1 0), .i n3, .i (IntKind.wrap .i64 ((lI s1 2) + 1))]))) (
        some (.inr (1, [.i (lI s1 1)])))) [.l a, .i (IntKind.wrap .i64 (left - (a.length : Int))), .i 0] fun (r4 : Nat × List Leaf) =>
    if r4.1 = 0 then
      k (lI r4.2 1)
    else
      k (lI r4.2 0))
noncomputable def F151 : T151 := P151 F198 
def X151 : Exits := fun i => lookN i [] [(5, [(.ret, xk 27 [(1, .int .i64 0), (4, .int .i64 0)] []), (.exit 0, xk 27 [(1, .int .i64 0)] [])])]
abbrev s151 : List (Bool × List CK) := [(false, [.sl 5 true]), (false, [.int .i64])]
noncomputable def G151 (F : T151) (β : Type) (e : (List V × Unit) × (Int × Unit) × Unit) (k : V → Option β) : Option β := F β e.1.1 e.2.1.1 (fun y1 => k (.int .i64 y1))
noncomputable abbrev W151 (F : T151) : (β : Type) → List V → (V → Option β) → Option β := wrap s151 (G151 F)
theorem k151 (F198 : T198) (β : Type) (e : argsT s151) (k : V → Option β) : fnK cfg (tabL [(198, W198 F198)]) X151 151 Try.f151 β (argsEnc s151 e) k = G151 (P151 F198 ) β e k := by kernel_rfl
theorem ok151 : FnOk D 151 (W151 F151) := fn_okW [(198, W198 F198)] X151 (fun _ => rfl) Try.func151 rfl (tabL_cons ok198 tabL_nil) (k151 F198 )

/-- laws.szAddrS -/
abbrev T152 : Type 1 := (β : Type) → List V → Int → (Int → Option β) → Option β
noncomputable def P152 (F120 : T120) : T152 := fun β a left k =>
  br (decide (IntKind.wrap .i64 (left - (a.length : Int)) < 0)) (
    k (-1)) (
    whileK (fun s1 =>
      br (decide ((lI s1 2) < ((lL s1 0).length : Int))) (
        chk (0 ≤ (lI s1 2)) <|
        idx true [.str, .str] (lL s1 0) ((lI s1 2).toNat) fun (e2 : List UInt8 × List UInt8 × Unit) =>
        F120 _ e2.1 e2.2.1 (lI s1 1) fun n3 =>
        br (decide (n3 < 0)) (
          some (.inr (0, [.i n3, .i (-1)]))) (
          some (.inl [.l (lL s1 0), .i n3, .i (IntKind.wrap .i64 ((lI s1 2) + 1))]))) (
        some (.inr (1, [.i (lI s1 1)])))) [.l a, .i (IntKind.wrap .i64 (left - (a.length : Int))), .i 0] fun (r4 : Nat × List Leaf) =>
    if r4.1 = 0 then
      k (lI r4.2 1)
    else
      k (lI r4.2 0))
noncomputable def F152 : T152 := P152 F120 
def X152 : Exits := fun i => lookN i [] [(5, [(.ret, xk 27 [(1, .int .i64 0), (4, .int .i64 0)] []), (.exit 0, xk 27 [(1, .int .i64 0)] [])])]
abbrev s152 : List (Bool × List CK) := [(false, [.sl 2 true]), (false, [.int .i64])]
noncomputable def G152 (F : T152) (β : Type) (e : (List V × Unit) × (Int × Unit) × Unit) (k : V → Option β) : Option β := F β e.1.1 e.2.1.1 (fun y1 => k (.int .i64 y1))
noncomputable abbrev W152 (F : T152) : (β : Type) → List V → (V → Option β) → Option β := wrap s152 (G152 F)
theorem k152 (F120 : T120) (β : Type) (e : argsT s152) (k : V → Option β) : fnK cfg (tabL [(120, W120 F120)]) X152 152 Try.f152 β (argsEnc s152 e) k = G152 (P152 F120 ) β e k := by kernel_rfl
theorem ok152 : FnOk D 152 (W152 F152) := fn_okW [(120, W120 F120)] X152 (fun _ => rfl) Try.func152 rfl (tabL_cons ok120 tabL_nil) (k152 F120 )

/-- laws.szPage -/
abbrev T131 : Type 1 := (β : Type) → List UInt8 → List UInt8 → Bool → List V → List V → List V → List UInt8 → List UInt8 → List V → Bool → List V → List V → List V → List V → List V → Int → Int → Int → Int → List V → List V → Bool → Int → (Int → Option β) → Option β
noncomputable def P131 (F120 : T120) (F146 : T146) (F147 : T147) (F148 : T148) (F149 : T149) (F150 : T150) (F151 : T151) (F152 : T152) (F153 : T153) : T131 := fun β a_Addr_Host a_Addr_Path a_Policy_Set a_Policy_Scripts a_Policy_Styles a_Policy_Images a_Policy_Nonce a_Tok_Rest a_Queue a_Ended a_Builder_Nodes a_Builder_Open a_Slots a_Mods a_Entries a_Block a_Inline a_Deferred a_Entered a_Ran a_Log a_Loaded left k =>
  F120 _ a_Addr_Host a_Addr_Path left fun n1 =>
  br (decide (n1 < 0)) (
    k (-1)) (
    F146 _ a_Policy_Set a_Policy_Scripts a_Policy_Styles a_Policy_Images a_Policy_Nonce n1 fun n2 =>
    br (decide (n2 < 0)) (
      k (-1)) (
      F147 _ a_Tok_Rest n2 fun n3 =>
      br (decide (n3 < 0)) (
        k (-1)) (
        F148 _ a_Queue n3 fun n4 =>
        br (decide (n4 < 0)) (
          k (-1)) (
          F149 _ a_Builder_Nodes a_Builder_Open n4 fun n5 =>
          br (decide (n5 < 0)) (
            k (-1)) (
            F150 _ a_Slots n5 fun n6 =>
            br (decide (n6 < 0)) (
              k (-1)) (
              F151 _ a_Mods n6 fun n7 =>
              br (decide (n7 < 0)) (
                k (-1)) (
                F152 _ a_Entries n7 fun n8 =>
                br (decide (n8 < 0)) (
                  k (-1)) (
                  F152 _ a_Ran n8 fun n9 =>
                  br (decide (n9 < 0)) (
                    k (-1)) (
                    F153 _ a_Log n9 fun n10 =>
                    br (decide (n10 < 0)) (
                      k (-1)) (
                      k n10))))))))))
noncomputable def F131 : T131 := P131 F120 F146 F147 F148 F149 F150 F151 F152 F153 
abbrev s131 : List (Bool × List CK) := [(true, [.str, .str, .bool, .sl 1 true, .sl 1 true, .sl 1 true, .str, .str, .sl 4 false, .bool, .sl 4 false, .sl 1 true, .sl 8 true, .sl 5 true, .sl 2 true, .int .i64, .int .i64, .int .i64, .int .i64, .sl 2 true, .sl 1 true, .bool]), (false, [.int .i64])]
noncomputable def G131 (F : T131) (β : Type) (e : (List UInt8 × List UInt8 × Bool × List V × List V × List V × List UInt8 × List UInt8 × List V × Bool × List V × List V × List V × List V × List V × Int × Int × Int × Int × List V × List V × Bool × Unit) × (Int × Unit) × Unit) (k : V → Option β) : Option β := F β e.1.1 e.1.2.1 e.1.2.2.1 e.1.2.2.2.1 e.1.2.2.2.2.1 e.1.2.2.2.2.2.1 e.1.2.2.2.2.2.2.1 e.1.2.2.2.2.2.2.2.1 e.1.2.2.2.2.2.2.2.2.1 e.1.2.2.2.2.2.2.2.2.2.1 e.1.2.2.2.2.2.2.2.2.2.2.1 e.1.2.2.2.2.2.2.2.2.2.2.2.1 e.1.2.2.2.2.2.2.2.2.2.2.2.2.1 e.1.2.2.2.2.2.2.2.2.2.2.2.2.2.1 e.1.2.2.2.2.2.2.2.2.2.2.2.2.2.2.1 e.1.2.2.2.2.2.2.2.2.2.2.2.2.2.2.2.1 e.1.2.2.2.2.2.2.2.2.2.2.2.2.2.2.2.2.1 e.1.2.2.2.2.2.2.2.2.2.2.2.2.2.2.2.2.2.1 e.1.2.2.2.2.2.2.2.2.2.2.2.2.2.2.2.2.2.2.1 e.1.2.2.2.2.2.2.2.2.2.2.2.2.2.2.2.2.2.2.2.1 e.1.2.2.2.2.2.2.2.2.2.2.2.2.2.2.2.2.2.2.2.2.1 e.1.2.2.2.2.2.2.2.2.2.2.2.2.2.2.2.2.2.2.2.2.2.1 e.2.1.1 (fun y1 => k (.int .i64 y1))
noncomputable abbrev W131 (F : T131) : (β : Type) → List V → (V → Option β) → Option β := wrap s131 (G131 F)
theorem k131 (F120 : T120) (F146 : T146) (F147 : T147) (F148 : T148) (F149 : T149) (F150 : T150) (F151 : T151) (F152 : T152) (F153 : T153) (β : Type) (e : argsT s131) (k : V → Option β) : fnK cfg (tabL [(120, W120 F120), (146, W146 F146), (147, W147 F147), (148, W148 F148), (149, W149 F149), (150, W150 F150), (151, W151 F151), (152, W152 F152), (153, W153 F153)]) noX 131 Try.f131 β (argsEnc s131 e) k = G131 (P131 F120 F146 F147 F148 F149 F150 F151 F152 F153 ) β e k := by kernel_rfl
theorem ok131 : FnOk D 131 (W131 F131) := fn_okW [(120, W120 F120), (146, W146 F146), (147, W147 F147), (148, W148 F148), (149, W149 F149), (150, W150 F150), (151, W151 F151), (152, W152 F152), (153, W153 F153)] noX (fun _ => rfl) Try.func131 rfl (tabL_cons ok120 (tabL_cons ok146 (tabL_cons ok147 (tabL_cons ok148 (tabL_cons ok149 (tabL_cons ok150 (tabL_cons ok151 (tabL_cons ok152 (tabL_cons ok153 tabL_nil))))))))) (k131 F120 F146 F147 F148 F149 F150 F151 F152 F153 )

/-- laws.szVisit -/
abbrev T102 : Type 1 := (β : Type) → List UInt8 → List UInt8 → List UInt8 → List UInt8 → Bool → List V → List V → List V → List UInt8 → List UInt8 → List V → Bool → List V → List V → List V → List V → List V → Int → Int → Int → Int → List V → List V → Bool → Bool → Int → (Int → Option β) → Option β
noncomputable def P102 (F120 : T120) (F131 : T131) : T102 := fun β a_Addr_Host a_Addr_Path a_Page_Addr_Host a_Page_Addr_Path a_Page_Policy_Set a_Page_Policy_Scripts a_Page_Policy_Styles a_Page_Policy_Images a_Page_Policy_Nonce a_Page_Tok_Rest a_Page_Queue a_Page_Ended a_Page_Builder_Nodes a_Page_Builder_Open a_Page_Slots a_Page_Mods a_Page_Entries a_Page_Block a_Page_Inline a_Page_Deferred a_Page_Entered a_Page_Ran a_Page_Log a_Page_Loaded a_Kept left k =>
  F120 _ a_Addr_Host a_Addr_Path left fun n1 =>
  br (decide (n1 < 0)) (
    k (-1)) (
    F131 _ a_Page_Addr_Host a_Page_Addr_Path a_Page_Policy_Set a_Page_Policy_Scripts a_Page_Policy_Styles a_Page_Policy_Images a_Page_Policy_Nonce a_Page_Tok_Rest a_Page_Queue a_Page_Ended a_Page_Builder_Nodes a_Page_Builder_Open a_Page_Slots a_Page_Mods a_Page_Entries a_Page_Block a_Page_Inline a_Page_Deferred a_Page_Entered a_Page_Ran a_Page_Log a_Page_Loaded n1 fun n2 =>
    br (decide (n2 < 0)) (
      k (-1)) (
      k n2))
noncomputable def F102 : T102 := P102 F120 F131 
abbrev s102 : List (Bool × List CK) := [(true, [.str, .str, .str, .str, .bool, .sl 1 true, .sl 1 true, .sl 1 true, .str, .str, .sl 4 false, .bool, .sl 4 false, .sl 1 true, .sl 8 true, .sl 5 true, .sl 2 true, .int .i64, .int .i64, .int .i64, .int .i64, .sl 2 true, .sl 1 true, .bool, .bool]), (false, [.int .i64])]
noncomputable def G102 (F : T102) (β : Type) (e : (List UInt8 × List UInt8 × List UInt8 × List UInt8 × Bool × List V × List V × List V × List UInt8 × List UInt8 × List V × Bool × List V × List V × List V × List V × List V × Int × Int × Int × Int × List V × List V × Bool × Bool × Unit) × (Int × Unit) × Unit) (k : V → Option β) : Option β := F β e.1.1 e.1.2.1 e.1.2.2.1 e.1.2.2.2.1 e.1.2.2.2.2.1 e.1.2.2.2.2.2.1 e.1.2.2.2.2.2.2.1 e.1.2.2.2.2.2.2.2.1 e.1.2.2.2.2.2.2.2.2.1 e.1.2.2.2.2.2.2.2.2.2.1 e.1.2.2.2.2.2.2.2.2.2.2.1 e.1.2.2.2.2.2.2.2.2.2.2.2.1 e.1.2.2.2.2.2.2.2.2.2.2.2.2.1 e.1.2.2.2.2.2.2.2.2.2.2.2.2.2.1 e.1.2.2.2.2.2.2.2.2.2.2.2.2.2.2.1 e.1.2.2.2.2.2.2.2.2.2.2.2.2.2.2.2.1 e.1.2.2.2.2.2.2.2.2.2.2.2.2.2.2.2.2.1 e.1.2.2.2.2.2.2.2.2.2.2.2.2.2.2.2.2.2.1 e.1.2.2.2.2.2.2.2.2.2.2.2.2.2.2.2.2.2.2.1 e.1.2.2.2.2.2.2.2.2.2.2.2.2.2.2.2.2.2.2.2.1 e.1.2.2.2.2.2.2.2.2.2.2.2.2.2.2.2.2.2.2.2.2.1 e.1.2.2.2.2.2.2.2.2.2.2.2.2.2.2.2.2.2.2.2.2.2.1 e.1.2.2.2.2.2.2.2.2.2.2.2.2.2.2.2.2.2.2.2.2.2.2.1 e.1.2.2.2.2.2.2.2.2.2.2.2.2.2.2.2.2.2.2.2.2.2.2.2.1 e.1.2.2.2.2.2.2.2.2.2.2.2.2.2.2.2.2.2.2.2.2.2.2.2.2.1 e.2.1.1 (fun y1 => k (.int .i64 y1))
noncomputable abbrev W102 (F : T102) : (β : Type) → List V → (V → Option β) → Option β := wrap s102 (G102 F)
theorem k102 (F120 : T120) (F131 : T131) (β : Type) (e : argsT s102) (k : V → Option β) : fnK cfg (tabL [(120, W120 F120), (131, W131 F131)]) noX 102 Try.f102 β (argsEnc s102 e) k = G102 (P102 F120 F131 ) β e k := by kernel_rfl
theorem ok102 : FnOk D 102 (W102 F102) := fn_okW [(120, W120 F120), (131, W131 F131)] noX (fun _ => rfl) Try.func102 rfl (tabL_cons ok120 (tabL_cons ok131 tabL_nil)) (k102 F120 F131 )

/-- laws.szVisitS -/
abbrev T69 : Type 1 := (β : Type) → List V → Int → (Int → Option β) → Option β
noncomputable def P69 (F102 : T102) : T69 := fun β a left k =>
  br (decide (IntKind.wrap .i64 (left - (a.length : Int)) < 0)) (
    k (-1)) (
    whileK (fun s1 =>
      br (decide ((lI s1 2) < ((lL s1 0).length : Int))) (
        chk (0 ≤ (lI s1 2)) <|
        idx true [.str, .str, .str, .str, .bool, .sl 1 true, .sl 1 true, .sl 1 true, .str, .str, .sl 4 false, .bool, .sl 4 false, .sl 1 true, .sl 8 true, .sl 5 true, .sl 2 true, .int .i64, .int .i64, .int .i64, .int .i64, .sl 2 true, .sl 1 true, .bool, .bool] (lL s1 0) ((lI s1 2).toNat) fun (e2 : List UInt8 × List UInt8 × List UInt8 × List UInt8 × Bool × List V × List V × List V × List UInt8 × List UInt8 × List V × Bool × List V × List V × List V × List V × List V × Int × Int × Int × Int × List V × List V × Bool × Bool × Unit) =>
        F102 _ e2.1 e2.2.1 e2.2.2.1 e2.2.2.2.1 e2.2.2.2.2.1 e2.2.2.2.2.2.1 e2.2.2.2.2.2.2.1 e2.2.2.2.2.2.2.2.1 e2.2.2.2.2.2.2.2.2.1 e2.2.2.2.2.2.2.2.2.2.1 e2.2.2.2.2.2.2.2.2.2.2.1 e2.2.2.2.2.2.2.2.2.2.2.2.1 e2.2.2.2.2.2.2.2.2.2.2.2.2.1 e2.2.2.2.2.2.2.2.2.2.2.2.2.2.1 e2.2.2.2.2.2.2.2.2.2.2.2.2.2.2.1 e2.2.2.2.2.2.2.2.2.2.2.2.2.2.2.2.1 e2.2.2.2.2.2.2.2.2.2.2.2.2.2.2.2.2.1 e2.2.2.2.2.2.2.2.2.2.2.2.2.2.2.2.2.2.1 e2.2.2.2.2.2.2.2.2.2.2.2.2.2.2.2.2.2.2.1 e2.2.2.2.2.2.2.2.2.2.2.2.2.2.2.2.2.2.2.2.1 e2.2.2.2.2.2.2.2.2.2.2.2.2.2.2.2.2.2.2.2.2.1 e2.2.2.2.2.2.2.2.2.2.2.2.2.2.2.2.2.2.2.2.2.2.1 e2.2.2.2.2.2.2.2.2.2.2.2.2.2.2.2.2.2.2.2.2.2.2.1 e2.2.2.2.2.2.2.2.2.2.2.2.2.2.2.2.2.2.2.2.2.2.2.2.1 e2.2.2.2.2.2.2.2.2.2.2.2.2.2.2.2.2.2.2.2.2.2.2.2.2.1 (lI s1 1) fun n3 =>
        br (decide (n3 < 0)) (
          some (.inr (0, [.i n3, .i (-1)]))) (
          some (.inl [.l (lL s1 0), .i n3, .i (IntKind.wrap .i64 ((lI s1 2) + 1))]))) (
        some (.inr (1, [.i (lI s1 1)])))) [.l a, .i (IntKind.wrap .i64 (left - (a.length : Int))), .i 0] fun (r4 : Nat × List Leaf) =>
    if r4.1 = 0 then
      k (lI r4.2 1)
    else
      k (lI r4.2 0))
noncomputable def F69 : T69 := P69 F102 
def X69 : Exits := fun i => lookN i [] [(5, [(.ret, xk 27 [(1, .int .i64 0), (4, .int .i64 0)] []), (.exit 0, xk 27 [(1, .int .i64 0)] [])])]
abbrev s69 : List (Bool × List CK) := [(false, [.sl 25 false]), (false, [.int .i64])]
noncomputable def G69 (F : T69) (β : Type) (e : (List V × Unit) × (Int × Unit) × Unit) (k : V → Option β) : Option β := F β e.1.1 e.2.1.1 (fun y1 => k (.int .i64 y1))
noncomputable abbrev W69 (F : T69) : (β : Type) → List V → (V → Option β) → Option β := wrap s69 (G69 F)
theorem k69 (F102 : T102) (β : Type) (e : argsT s69) (k : V → Option β) : fnK cfg (tabL [(102, W102 F102)]) X69 69 Try.f69 β (argsEnc s69 e) k = G69 (P69 F102 ) β e k := by kernel_rfl
theorem ok69 : FnOk D 69 (W69 F69) := fn_okW [(102, W102 F102)] X69 (fun _ => rfl) Try.func69 rfl (tabL_cons ok102 tabL_nil) (k69 F102 )

/-- laws.szTab -/
abbrev T28 : Type 1 := (β : Type) → List V → Int → Int → (Int → Option β) → Option β
noncomputable def P28 (F69 : T69) : T28 := fun β a_Visits a_At left k =>
  F69 _ a_Visits left fun n1 =>
  br (decide (n1 < 0)) (
    k (-1)) (
    k n1)
noncomputable def F28 : T28 := P28 F69 
abbrev s28 : List (Bool × List CK) := [(true, [.sl 25 false, .int .i64]), (false, [.int .i64])]
noncomputable def G28 (F : T28) (β : Type) (e : (List V × Int × Unit) × (Int × Unit) × Unit) (k : V → Option β) : Option β := F β e.1.1 e.1.2.1 e.2.1.1 (fun y1 => k (.int .i64 y1))
noncomputable abbrev W28 (F : T28) : (β : Type) → List V → (V → Option β) → Option β := wrap s28 (G28 F)
theorem k28 (F69 : T69) (β : Type) (e : argsT s28) (k : V → Option β) : fnK cfg (tabL [(69, W69 F69)]) noX 28 Try.f28 β (argsEnc s28 e) k = G28 (P28 F69 ) β e k := by kernel_rfl
theorem ok28 : FnOk D 28 (W28 F28) := fn_okW [(69, W69 F69)] noX (fun _ => rfl) Try.func28 rfl (tabL_cons ok69 tabL_nil) (k28 F69 )

/-- laws.toAddr -/
abbrev T122 : Type 1 := (β : Type) → List UInt8 → List UInt8 → (List UInt8 → List UInt8 → Option β) → Option β
noncomputable def P122 : T122 := fun β a_Host a_Path k =>
  k a_Host a_Path
noncomputable def F122 : T122 := P122 
abbrev s122 : List (Bool × List CK) := [(true, [.str, .str])]
noncomputable def G122 (F : T122) (β : Type) (e : (List UInt8 × List UInt8 × Unit) × Unit) (k : V → Option β) : Option β := F β e.1.1 e.1.2.1 (fun y1 y2 => k (.agg [.str y1, .str y2]))
noncomputable abbrev W122 (F : T122) : (β : Type) → List V → (V → Option β) → Option β := wrap s122 (G122 F)
theorem k122 (β : Type) (e : argsT s122) (k : V → Option β) : fnK cfg (tabL []) noX 122 Try.f122 β (argsEnc s122 e) k = G122 (P122 ) β e k := by kernel_rfl
theorem ok122 : FnOk D 122 (W122 F122) := fn_okW [] noX (fun _ => rfl) Try.func122 rfl (tabL_nil) (k122 )

/-- laws.toStringS -/
abbrev T161 : Type 1 := (β : Type) → List V → (List V → Option β) → Option β
noncomputable def P161 : T161 := fun β a k =>
  chk (0 ≤ (a.length : Int) ∧ (a.length : Int) ≤ (a.length : Int) ∧ (a.length : Int) * 16 ≤ 140737488355328 ∧ (a.length : Int) ≤ 140737488355328) <|
  whileK (fun s1 =>
    br (decide ((lI s1 2) < ((lL s1 0).length : Int))) (
      chk (0 ≤ (lI s1 2)) <|
      idx false [.str] (lL s1 0) ((lI s1 2).toNat) fun (e2 : List UInt8 × Unit) =>
      chk (0 ≤ (lI s1 2) ∧ (lI s1 2).toNat < (lL s1 1).length) <|
      storeO (lL s1 1) ((lI s1 2).toNat) 0 [.str e2.1] fun l3 =>
      some (.inl [.l (lL s1 0), .l l3, .i (IntKind.wrap .i64 ((lI s1 2) + 1))])) (
      some (.inr (0, [.l (lL s1 1)])))) [.l a, .l (List.replicate ((a.length : Int).toNat) (.str [])), .i 0] fun (r4 : Nat × List Leaf) =>
  k (lL r4.2 0)
noncomputable def F161 : T161 := P161 
def X161 : Exits := fun i => lookN i [] [(3, [(.exit 0, xk 22 [(3, .own 1000000 1 .flat [])] [])])]
abbrev s161 : List (Bool × List CK) := [(false, [.sl 1 true])]
noncomputable def G161 (F : T161) (β : Type) (e : (List V × Unit) × Unit) (k : V → Option β) : Option β := F β e.1.1 (fun y1 => k (.own 0 1 .flat y1))
noncomputable abbrev W161 (F : T161) : (β : Type) → List V → (V → Option β) → Option β := wrap s161 (G161 F)
theorem k161 (β : Type) (e : argsT s161) (k : V → Option β) : fnK cfg (tabL []) X161 161 Try.f161 β (argsEnc s161 e) k = G161 (P161 ) β e k := by kernel_rfl
theorem ok161 : FnOk D 161 (W161 F161) := fn_okW [] X161 (fun _ => rfl) Try.func161 rfl (tabL_nil) (k161 )

/-- laws.toPolicy -/
abbrev T154 : Type 1 := (β : Type) → Bool → List V → List V → List V → List UInt8 → (Bool → List V → List V → List V → List UInt8 → Option β) → Option β
noncomputable def P154 (F161 : T161) : T154 := fun β a_Set a_Scripts a_Styles a_Images a_Nonce k =>
  F161 _ a_Scripts fun l1 =>
  F161 _ a_Styles fun l2 =>
  F161 _ a_Images fun l3 =>
  k a_Set l1 l2 l3 a_Nonce
noncomputable def F154 : T154 := P154 F161 
abbrev s154 : List (Bool × List CK) := [(true, [.bool, .sl 1 true, .sl 1 true, .sl 1 true, .str])]
noncomputable def G154 (F : T154) (β : Type) (e : (Bool × List V × List V × List V × List UInt8 × Unit) × Unit) (k : V → Option β) : Option β := F β e.1.1 e.1.2.1 e.1.2.2.1 e.1.2.2.2.1 e.1.2.2.2.2.1 (fun y1 y2 y3 y4 y5 => k (.agg [.bool y1, .own 1 1 .flat y2, .own 2 1 .flat y3, .own 3 1 .flat y4, .str y5]))
noncomputable abbrev W154 (F : T154) : (β : Type) → List V → (V → Option β) → Option β := wrap s154 (G154 F)
theorem k154 (F161 : T161) (β : Type) (e : argsT s154) (k : V → Option β) : fnK cfg (tabL [(161, W161 F161)]) noX 154 Try.f154 β (argsEnc s154 e) k = G154 (P154 F161 ) β e k := by kernel_rfl
theorem ok154 : FnOk D 154 (W154 F154) := fn_okW [(161, W161 F161)] noX (fun _ => rfl) Try.func154 rfl (tabL_cons ok161 tabL_nil) (k154 F161 )

/-- laws.toTokenizer -/
abbrev T155 : Type 1 := (β : Type) → List UInt8 → (List UInt8 → Option β) → Option β
noncomputable def P155 : T155 := fun β a_Rest k =>
  k a_Rest
noncomputable def F155 : T155 := P155 
abbrev s155 : List (Bool × List CK) := [(true, [.str])]
noncomputable def G155 (F : T155) (β : Type) (e : (List UInt8 × Unit) × Unit) (k : V → Option β) : Option β := F β e.1.1 (fun y1 => k (.agg [.str y1]))
noncomputable abbrev W155 (F : T155) : (β : Type) → List V → (V → Option β) → Option β := wrap s155 (G155 F)
theorem k155 (β : Type) (e : argsT s155) (k : V → Option β) : fnK cfg (tabL []) noX 155 Try.f155 β (argsEnc s155 e) k = G155 (P155 ) β e k := by kernel_rfl
theorem ok155 : FnOk D 155 (W155 F155) := fn_okW [] noX (fun _ => rfl) Try.func155 rfl (tabL_nil) (k155 )

/-- laws.toAttr -/
abbrev T232 : Type 1 := (β : Type) → List UInt8 → List UInt8 → (List UInt8 → List UInt8 → Option β) → Option β
noncomputable def P232 : T232 := fun β a_Name a_Value k =>
  k a_Name a_Value
noncomputable def F232 : T232 := P232 
abbrev s232 : List (Bool × List CK) := [(true, [.str, .str])]
noncomputable def G232 (F : T232) (β : Type) (e : (List UInt8 × List UInt8 × Unit) × Unit) (k : V → Option β) : Option β := F β e.1.1 e.1.2.1 (fun y1 y2 => k (.agg [.str y1, .str y2]))
noncomputable abbrev W232 (F : T232) : (β : Type) → List V → (V → Option β) → Option β := wrap s232 (G232 F)
theorem k232 (β : Type) (e : argsT s232) (k : V → Option β) : fnK cfg (tabL []) noX 232 Try.f232 β (argsEnc s232 e) k = G232 (P232 ) β e k := by kernel_rfl
theorem ok232 : FnOk D 232 (W232 F232) := fn_okW [] noX (fun _ => rfl) Try.func232 rfl (tabL_nil) (k232 )

/-- laws.toAttrS -/
abbrev T223 : Type 1 := (β : Type) → List V → (List V → Option β) → Option β
noncomputable def P223 (F232 : T232) : T223 := fun β a k =>
  chk (0 ≤ (a.length : Int) ∧ (a.length : Int) ≤ (a.length : Int) ∧ (a.length : Int) * 32 ≤ 140737488355328 ∧ (a.length : Int) ≤ 140737488355328) <|
  whileK (fun s1 =>
    br (decide ((lI s1 2) < ((lL s1 0).length : Int))) (
      chk (0 ≤ (lI s1 2)) <|
      idx true [.str, .str] (lL s1 0) ((lI s1 2).toNat) fun (e2 : List UInt8 × List UInt8 × Unit) =>
      F232 _ e2.1 e2.2.1 fun t3 t4 =>
      chk (0 ≤ (lI s1 2) ∧ (lI s1 2).toNat < (lL s1 1).length) <|
      storeO (lL s1 1) ((lI s1 2).toNat) 0 [.str t3, .str t4] fun l5 =>
      some (.inl [.l (lL s1 0), .l l5, .i (IntKind.wrap .i64 ((lI s1 2) + 1))])) (
      some (.inr (0, [.l (lL s1 1)])))) [.l a, .l (List.replicate ((a.length : Int).toNat) (.agg [.str [], .str []])), .i 0] fun (r6 : Nat × List Leaf) =>
  k (lL r6.2 0)
noncomputable def F223 : T223 := P223 F232 
def X223 : Exits := fun i => lookN i [] [(3, [(.exit 0, xk 23 [(3, .own 1000000 2 .flat [])] [])])]
abbrev s223 : List (Bool × List CK) := [(false, [.sl 2 true])]
noncomputable def G223 (F : T223) (β : Type) (e : (List V × Unit) × Unit) (k : V → Option β) : Option β := F β e.1.1 (fun y1 => k (.own 0 2 .flat y1))
noncomputable abbrev W223 (F : T223) : (β : Type) → List V → (V → Option β) → Option β := wrap s223 (G223 F)
theorem k223 (F232 : T232) (β : Type) (e : argsT s223) (k : V → Option β) : fnK cfg (tabL [(232, W232 F232)]) X223 223 Try.f223 β (argsEnc s223 e) k = G223 (P223 F232 ) β e k := by kernel_rfl
theorem ok223 : FnOk D 223 (W223 F223) := fn_okW [(232, W232 F232)] X223 (fun _ => rfl) Try.func223 rfl (tabL_cons ok232 tabL_nil) (k223 F232 )

/-- laws.toToken -/
abbrev T199 : Type 1 := (β : Type) → Int → List UInt8 → List V → List UInt8 → (Int → List UInt8 → List V → List UInt8 → Option β) → Option β
noncomputable def P199 (F223 : T223) : T199 := fun β a_Kind a_Name a_Attrs a_Text k =>
  F223 _ a_Attrs fun l1 =>
  k a_Kind a_Name l1 a_Text
noncomputable def F199 : T199 := P199 F223 
abbrev s199 : List (Bool × List CK) := [(true, [.int .i64, .str, .sl 2 true, .str])]
noncomputable def G199 (F : T199) (β : Type) (e : (Int × List UInt8 × List V × List UInt8 × Unit) × Unit) (k : V → Option β) : Option β := F β e.1.1 e.1.2.1 e.1.2.2.1 e.1.2.2.2.1 (fun y1 y2 y3 y4 => k (.agg [.int .i64 y1, .str y2, .own 2 2 .flat y3, .str y4]))
noncomputable abbrev W199 (F : T199) : (β : Type) → List V → (V → Option β) → Option β := wrap s199 (G199 F)
theorem k199 (F223 : T223) (β : Type) (e : argsT s199) (k : V → Option β) : fnK cfg (tabL [(223, W223 F223)]) noX 199 Try.f199 β (argsEnc s199 e) k = G199 (P199 F223 ) β e k := by kernel_rfl
theorem ok199 : FnOk D 199 (W199 F199) := fn_okW [(223, W223 F223)] noX (fun _ => rfl) Try.func199 rfl (tabL_cons ok223 tabL_nil) (k199 F223 )

/-- laws.toTokenS -/
abbrev T156 : Type 1 := (β : Type) → List V → (List V → Option β) → Option β
noncomputable def P156 (F199 : T199) : T156 := fun β a k =>
  chk (0 ≤ (a.length : Int) ∧ (a.length : Int) ≤ (a.length : Int) ∧ (a.length : Int) * 64 ≤ 140737488355328 ∧ (a.length : Int) ≤ 140737488355328) <|
  whileK (fun s1 =>
    br (decide ((lI s1 2) < ((lL s1 0).length : Int))) (
      chk (0 ≤ (lI s1 2)) <|
      idx true [.int .i64, .str, .sl 2 true, .str] (lL s1 0) ((lI s1 2).toNat) fun (e2 : Int × List UInt8 × List V × List UInt8 × Unit) =>
      F199 _ e2.1 e2.2.1 e2.2.2.1 e2.2.2.2.1 fun n3 t4 l5 t6 =>
      chk (0 ≤ (lI s1 2) ∧ (lI s1 2).toNat < (lL s1 1).length) <|
      storeO (lL s1 1) ((lI s1 2).toNat) 0 [.int .i64 n3, .str t4, .sl 2 true l5, .str t6] fun l7 =>
      some (.inl [.l (lL s1 0), .l l7, .i (IntKind.wrap .i64 ((lI s1 2) + 1))])) (
      some (.inr (0, [.l (lL s1 1)])))) [.l a, .l (List.replicate ((a.length : Int).toNat) (.agg [.int .i64 0, .str [], .sl 2 true [], .str []])), .i 0] fun (r8 : Nat × List Leaf) =>
  k (lL r8.2 0)
noncomputable def F156 : T156 := P156 F199 
def X156 : Exits := fun i => lookN i [] [(3, [(.exit 0, xk 23 [(3, .own 1000000 4 .clean [])] [])])]
abbrev s156 : List (Bool × List CK) := [(false, [.sl 4 false])]
noncomputable def G156 (F : T156) (β : Type) (e : (List V × Unit) × Unit) (k : V → Option β) : Option β := F β e.1.1 (fun y1 => k (.own 0 4 .clean y1))
noncomputable abbrev W156 (F : T156) : (β : Type) → List V → (V → Option β) → Option β := wrap s156 (G156 F)
theorem k156 (F199 : T199) (β : Type) (e : argsT s156) (k : V → Option β) : fnK cfg (tabL [(199, W199 F199)]) X156 156 Try.f156 β (argsEnc s156 e) k = G156 (P156 F199 ) β e k := by kernel_rfl
theorem ok156 : FnOk D 156 (W156 F156) := fn_okW [(199, W199 F199)] X156 (fun _ => rfl) Try.func156 rfl (tabL_cons ok199 tabL_nil) (k156 F199 )

/-- laws.toNode -/
abbrev T224 : Type 1 := (β : Type) → List UInt8 → List UInt8 → Int → List V → (List UInt8 → List UInt8 → Int → List V → Option β) → Option β
noncomputable def P224 (F223 : T223) : T224 := fun β a_Name a_Text a_Parent a_Attrs k =>
  F223 _ a_Attrs fun l1 =>
  k a_Name a_Text a_Parent l1
noncomputable def F224 : T224 := P224 F223 
abbrev s224 : List (Bool × List CK) := [(true, [.str, .str, .int .i64, .sl 2 true])]
noncomputable def G224 (F : T224) (β : Type) (e : (List UInt8 × List UInt8 × Int × List V × Unit) × Unit) (k : V → Option β) : Option β := F β e.1.1 e.1.2.1 e.1.2.2.1 e.1.2.2.2.1 (fun y1 y2 y3 y4 => k (.agg [.str y1, .str y2, .int .i64 y3, .own 3 2 .flat y4]))
noncomputable abbrev W224 (F : T224) : (β : Type) → List V → (V → Option β) → Option β := wrap s224 (G224 F)
theorem k224 (F223 : T223) (β : Type) (e : argsT s224) (k : V → Option β) : fnK cfg (tabL [(223, W223 F223)]) noX 224 Try.f224 β (argsEnc s224 e) k = G224 (P224 F223 ) β e k := by kernel_rfl
theorem ok224 : FnOk D 224 (W224 F224) := fn_okW [(223, W223 F223)] noX (fun _ => rfl) Try.func224 rfl (tabL_cons ok223 tabL_nil) (k224 F223 )

/-- laws.toNodeS -/
abbrev T200 : Type 1 := (β : Type) → List V → (List V → Option β) → Option β
noncomputable def P200 (F224 : T224) : T200 := fun β a k =>
  chk (0 ≤ (a.length : Int) ∧ (a.length : Int) ≤ (a.length : Int) ∧ (a.length : Int) * 64 ≤ 140737488355328 ∧ (a.length : Int) ≤ 140737488355328) <|
  whileK (fun s1 =>
    br (decide ((lI s1 2) < ((lL s1 0).length : Int))) (
      chk (0 ≤ (lI s1 2)) <|
      idx true [.str, .str, .int .i64, .sl 2 true] (lL s1 0) ((lI s1 2).toNat) fun (e2 : List UInt8 × List UInt8 × Int × List V × Unit) =>
      F224 _ e2.1 e2.2.1 e2.2.2.1 e2.2.2.2.1 fun t3 t4 n5 l6 =>
      chk (0 ≤ (lI s1 2) ∧ (lI s1 2).toNat < (lL s1 1).length) <|
      storeO (lL s1 1) ((lI s1 2).toNat) 0 [.str t3, .str t4, .int .i64 n5, .sl 2 true l6] fun l7 =>
      some (.inl [.l (lL s1 0), .l l7, .i (IntKind.wrap .i64 ((lI s1 2) + 1))])) (
      some (.inr (0, [.l (lL s1 1)])))) [.l a, .l (List.replicate ((a.length : Int).toNat) (.agg [.str [], .str [], .int .i64 0, .sl 2 true []])), .i 0] fun (r8 : Nat × List Leaf) =>
  k (lL r8.2 0)
noncomputable def F200 : T200 := P200 F224 
def X200 : Exits := fun i => lookN i [] [(3, [(.exit 0, xk 23 [(3, .own 1000000 4 .clean [])] [])])]
abbrev s200 : List (Bool × List CK) := [(false, [.sl 4 false])]
noncomputable def G200 (F : T200) (β : Type) (e : (List V × Unit) × Unit) (k : V → Option β) : Option β := F β e.1.1 (fun y1 => k (.own 0 4 .clean y1))
noncomputable abbrev W200 (F : T200) : (β : Type) → List V → (V → Option β) → Option β := wrap s200 (G200 F)
theorem k200 (F224 : T224) (β : Type) (e : argsT s200) (k : V → Option β) : fnK cfg (tabL [(224, W224 F224)]) X200 200 Try.f200 β (argsEnc s200 e) k = G200 (P200 F224 ) β e k := by kernel_rfl
theorem ok200 : FnOk D 200 (W200 F200) := fn_okW [(224, W224 F224)] X200 (fun _ => rfl) Try.func200 rfl (tabL_cons ok224 tabL_nil) (k200 F224 )

/-- laws.toIntS -/
abbrev T201 : Type 1 := (β : Type) → List V → (List V → Option β) → Option β
noncomputable def P201 : T201 := fun β a k =>
  chk (0 ≤ (a.length : Int) ∧ (a.length : Int) ≤ (a.length : Int) ∧ (a.length : Int) * 8 ≤ 140737488355328 ∧ (a.length : Int) ≤ 140737488355328) <|
  whileK (fun s1 =>
    br (decide ((lI s1 2) < ((lL s1 0).length : Int))) (
      chk (0 ≤ (lI s1 2)) <|
      idx false [.int .i64] (lL s1 0) ((lI s1 2).toNat) fun (e2 : Int × Unit) =>
      chk (0 ≤ (lI s1 2) ∧ (lI s1 2).toNat < (lL s1 1).length) <|
      storeO (lL s1 1) ((lI s1 2).toNat) 0 [.int .i64 e2.1] fun l3 =>
      some (.inl [.l (lL s1 0), .l l3, .i (IntKind.wrap .i64 ((lI s1 2) + 1))])) (
      some (.inr (0, [.l (lL s1 1)])))) [.l a, .l (List.replicate ((a.length : Int).toNat) (.int .i64 0)), .i 0] fun (r4 : Nat × List Leaf) =>
  k (lL r4.2 0)
noncomputable def F201 : T201 := P201 
def X201 : Exits := fun i => lookN i [] [(3, [(.exit 0, xk 22 [(3, .own 1000000 1 .flat [])] [])])]
abbrev s201 : List (Bool × List CK) := [(false, [.sl 1 true])]
noncomputable def G201 (F : T201) (β : Type) (e : (List V × Unit) × Unit) (k : V → Option β) : Option β := F β e.1.1 (fun y1 => k (.own 0 1 .flat y1))
noncomputable abbrev W201 (F : T201) : (β : Type) → List V → (V → Option β) → Option β := wrap s201 (G201 F)
theorem k201 (β : Type) (e : argsT s201) (k : V → Option β) : fnK cfg (tabL []) X201 201 Try.f201 β (argsEnc s201 e) k = G201 (P201 ) β e k := by kernel_rfl
theorem ok201 : FnOk D 201 (W201 F201) := fn_okW [] X201 (fun _ => rfl) Try.func201 rfl (tabL_nil) (k201 )

/-- laws.toBuilder -/
abbrev T157 : Type 1 := (β : Type) → List V → List V → (List V → List V → Option β) → Option β
noncomputable def P157 (F200 : T200) (F201 : T201) : T157 := fun β a_Nodes a_Open k =>
  F200 _ a_Nodes fun l1 =>
  F201 _ a_Open fun l2 =>
  k l1 l2
noncomputable def F157 : T157 := P157 F200 F201 
abbrev s157 : List (Bool × List CK) := [(true, [.sl 4 false, .sl 1 true])]
noncomputable def G157 (F : T157) (β : Type) (e : (List V × List V × Unit) × Unit) (k : V → Option β) : Option β := F β e.1.1 e.1.2.1 (fun y1 y2 => k (.agg [.own 0 4 .clean y1, .own 1 1 .flat y2]))
noncomputable abbrev W157 (F : T157) : (β : Type) → List V → (V → Option β) → Option β := wrap s157 (G157 F)
theorem k157 (F200 : T200) (F201 : T201) (β : Type) (e : argsT s157) (k : V → Option β) : fnK cfg (tabL [(200, W200 F200), (201, W201 F201)]) noX 157 Try.f157 β (argsEnc s157 e) k = G157 (P157 F200 F201 ) β e k := by kernel_rfl
theorem ok157 : FnOk D 157 (W157 F157) := fn_okW [(200, W200 F200), (201, W201 F201)] noX (fun _ => rfl) Try.func157 rfl (tabL_cons ok200 (tabL_cons ok201 tabL_nil)) (k157 F200 F201 )

/-- laws.toSlot -/
abbrev T202 : Type 1 := (β : Type) → Int → List UInt8 → List UInt8 → List UInt8 → Int → Bool → Int → List UInt8 → (Int → List UInt8 → List UInt8 → List UInt8 → Int → Bool → Int → List UInt8 → Option β) → Option β
noncomputable def P202 (F122 : T122) : T202 := fun β a_Mode a_To_Host a_To_Path a_Digest a_Node a_Done a_Code a_Body k =>
  F122 _ a_To_Host a_To_Path fun t1 t2 =>
  k a_Mode t1 t2 a_Digest a_Node a_Done a_Code a_Body
noncomputable def F202 : T202 := P202 F122 
abbrev s202 : List (Bool × List CK) := [(true, [.int .i64, .str, .str, .str, .int .i64, .bool, .int .i64, .str])]
noncomputable def G202 (F : T202) (β : Type) (e : (Int × List UInt8 × List UInt8 × List UInt8 × Int × Bool × Int × List UInt8 × Unit) × Unit) (k : V → Option β) : Option β := F β e.1.1 e.1.2.1 e.1.2.2.1 e.1.2.2.2.1 e.1.2.2.2.2.1 e.1.2.2.2.2.2.1 e.1.2.2.2.2.2.2.1 e.1.2.2.2.2.2.2.2.1 (fun y1 y2 y3 y4 y5 y6 y7 y8 => k (.agg [.int .i64 y1, .str y2, .str y3, .str y4, .int .i64 y5, .bool y6, .int .i64 y7, .str y8]))
noncomputable abbrev W202 (F : T202) : (β : Type) → List V → (V → Option β) → Option β := wrap s202 (G202 F)
theorem k202 (F122 : T122) (β : Type) (e : argsT s202) (k : V → Option β) : fnK cfg (tabL [(122, W122 F122)]) noX 202 Try.f202 β (argsEnc s202 e) k = G202 (P202 F122 ) β e k := by kernel_rfl
theorem ok202 : FnOk D 202 (W202 F202) := fn_okW [(122, W122 F122)] noX (fun _ => rfl) Try.func202 rfl (tabL_cons ok122 tabL_nil) (k202 F122 )

/-- laws.toSlotS -/
abbrev T158 : Type 1 := (β : Type) → List V → (List V → Option β) → Option β
noncomputable def P158 (F202 : T202) : T158 := fun β a k =>
  chk (0 ≤ (a.length : Int) ∧ (a.length : Int) ≤ (a.length : Int) ∧ (a.length : Int) * 96 ≤ 140737488355328 ∧ (a.length : Int) ≤ 140737488355328) <|
  whileK (fun s1 =>
    br (decide ((lI s1 2) < ((lL s1 0).length : Int))) (
      chk (0 ≤ (lI s1 2)) <|
      idx true [.int .i64, .str, .str, .str, .int .i64, .bool, .int .i64, .str] (lL s1 0) ((lI s1 2).toNat) fun (e2 : Int × List UInt8 × List UInt8 × List UInt8 × Int × Bool × Int × List UInt8 × Unit) =>
      F202 _ e2.1 e2.2.1 e2.2.2.1 e2.2.2.2.1 e2.2.2.2.2.1 e2.2.2.2.2.2.1 e2.2.2.2.2.2.2.1 e2.2.2.2.2.2.2.2.1 fun n3 t4 t5 t6 n7 b8 n9 t10 =>
      chk (0 ≤ (lI s1 2) ∧ (lI s1 2).toNat < (lL s1 1).length) <|
      storeO (lL s1 1) ((lI s1 2).toNat) 0 [.int .i64 n3, .str t4, .str t5, .str t6, .int .i64 n7, .bool b8, .int .i64 n9, .str t10] fun l11 =>
      some (.inl [.l (lL s1 0), .l l11, .i (IntKind.wrap .i64 ((lI s1 2) + 1))])) (
      some (.inr (0, [.l (lL s1 1)])))) [.l a, .l (List.replicate ((a.length : Int).toNat) (.agg [.int .i64 0, .str [], .str [], .str [], .int .i64 0, .bool false, .int .i64 0, .str []])), .i 0] fun (r12 : Nat × List Leaf) =>
  k (lL r12.2 0)
noncomputable def F158 : T158 := P158 F202 
def X158 : Exits := fun i => lookN i [] [(3, [(.exit 0, xk 23 [(3, .own 1000000 8 .flat [])] [])])]
abbrev s158 : List (Bool × List CK) := [(false, [.sl 8 true])]
noncomputable def G158 (F : T158) (β : Type) (e : (List V × Unit) × Unit) (k : V → Option β) : Option β := F β e.1.1 (fun y1 => k (.own 0 8 .flat y1))
noncomputable abbrev W158 (F : T158) : (β : Type) → List V → (V → Option β) → Option β := wrap s158 (G158 F)
theorem k158 (F202 : T202) (β : Type) (e : argsT s158) (k : V → Option β) : fnK cfg (tabL [(202, W202 F202)]) X158 158 Try.f158 β (argsEnc s158 e) k = G158 (P158 F202 ) β e k := by kernel_rfl
theorem ok158 : FnOk D 158 (W158 F158) := fn_okW [(202, W202 F202)] X158 (fun _ => rfl) Try.func158 rfl (tabL_cons ok202 tabL_nil) (k158 F202 )

/-- laws.toModule -/
abbrev T203 : Type 1 := (β : Type) → List UInt8 → List UInt8 → Bool → Int → List UInt8 → (List UInt8 → List UInt8 → Bool → Int → List UInt8 → Option β) → Option β
noncomputable def P203 (F122 : T122) : T203 := fun β a_To_Host a_To_Path a_Done a_Code a_Body k =>
  F122 _ a_To_Host a_To_Path fun t1 t2 =>
  k t1 t2 a_Done a_Code a_Body
noncomputable def F203 : T203 := P203 F122 
abbrev s203 : List (Bool × List CK) := [(true, [.str, .str, .bool, .int .i64, .str])]
noncomputable def G203 (F : T203) (β : Type) (e : (List UInt8 × List UInt8 × Bool × Int × List UInt8 × Unit) × Unit) (k : V → Option β) : Option β := F β e.1.1 e.1.2.1 e.1.2.2.1 e.1.2.2.2.1 e.1.2.2.2.2.1 (fun y1 y2 y3 y4 y5 => k (.agg [.str y1, .str y2, .bool y3, .int .i64 y4, .str y5]))
noncomputable abbrev W203 (F : T203) : (β : Type) → List V → (V → Option β) → Option β := wrap s203 (G203 F)
theorem k203 (F122 : T122) (β : Type) (e : argsT s203) (k : V → Option β) : fnK cfg (tabL [(122, W122 F122)]) noX 203 Try.f203 β (argsEnc s203 e) k = G203 (P203 F122 ) β e k := by kernel_rfl
theorem ok203 : FnOk D 203 (W203 F203) := fn_okW [(122, W122 F122)] noX (fun _ => rfl) Try.func203 rfl (tabL_cons ok122 tabL_nil) (k203 F122 )

/-- laws.toModuleS -/
abbrev T159 : Type 1 := (β : Type) → List V → (List V → Option β) → Option β
noncomputable def P159 (F203 : T203) : T159 := fun β a k =>
  chk (0 ≤ (a.length : Int) ∧ (a.length : Int) ≤ (a.length : Int) ∧ (a.length : Int) * 64 ≤ 140737488355328 ∧ (a.length : Int) ≤ 140737488355328) <|
  whileK (fun s1 =>
    br (decide ((lI s1 2) < ((lL s1 0).length : Int))) (
      chk (0 ≤ (lI s1 2)) <|
      idx true [.str, .str, .bool, .int .i64, .str] (lL s1 0) ((lI s1 2).toNat) fun (e2 : List UInt8 × List UInt8 × Bool × Int × List UInt8 × Unit) =>
      F203 _ e2.1 e2.2.1 e2.2.2.1 e2.2.2.2.1 e2.2.2.2.2.1 fun t3 t4 b5 n6 t7 =>
      chk (0 ≤ (lI s1 2) ∧ (lI s1 2).toNat < (lL s1 1).length) <|
      storeO (lL s1 1) ((lI s1 2).toNat) 0 [.str t3, .str t4, .bool b5, .int .i64 n6, .str t7] fun l8 =>
      some (.inl [.l (lL s1 0), .l l8, .i (IntKind.wrap .i64 ((lI s1 2) + 1))])) (
      some (.inr (0, [.l (lL s1 1)])))) [.l a, .l (List.replicate ((a.length : Int).toNat) (.agg [.str [], .str [], .bool false, .int .i64 0, .str []])), .i 0] fun (r9 : Nat × List Leaf) =>
  k (lL r9.2 0)
noncomputable def F159 : T159 := P159 F203 
def X159 : Exits := fun i => lookN i [] [(3, [(.exit 0, xk 23 [(3, .own 1000000 5 .flat [])] [])])]
abbrev s159 : List (Bool × List CK) := [(false, [.sl 5 true])]
noncomputable def G159 (F : T159) (β : Type) (e : (List V × Unit) × Unit) (k : V → Option β) : Option β := F β e.1.1 (fun y1 => k (.own 0 5 .flat y1))
noncomputable abbrev W159 (F : T159) : (β : Type) → List V → (V → Option β) → Option β := wrap s159 (G159 F)
theorem k159 (F203 : T203) (β : Type) (e : argsT s159) (k : V → Option β) : fnK cfg (tabL [(203, W203 F203)]) X159 159 Try.f159 β (argsEnc s159 e) k = G159 (P159 F203 ) β e k := by kernel_rfl
theorem ok159 : FnOk D 159 (W159 F159) := fn_okW [(203, W203 F203)] X159 (fun _ => rfl) Try.func159 rfl (tabL_cons ok203 tabL_nil) (k159 F203 )

/-- laws.toAddrS -/
abbrev T160 : Type 1 := (β : Type) → List V → (List V → Option β) → Option β
noncomputable def P160 (F122 : T122) : T160 := fun β a k =>
  chk (0 ≤ (a.length : Int) ∧ (a.length : Int) ≤ (a.length : Int) ∧ (a.length : Int) * 32 ≤ 140737488355328 ∧ (a.length : Int) ≤ 140737488355328) <|
  whileK (fun s1 =>
    br (decide ((lI s1 2) < ((lL s1 0).length : Int))) (
      chk (0 ≤ (lI s1 2)) <|
      idx true [.str, .str] (lL s1 0) ((lI s1 2).toNat) fun (e2 : List UInt8 × List UInt8 × Unit) =>
      F122 _ e2.1 e2.2.1 fun t3 t4 =>
      chk (0 ≤ (lI s1 2) ∧ (lI s1 2).toNat < (lL s1 1).length) <|
      storeO (lL s1 1) ((lI s1 2).toNat) 0 [.str t3, .str t4] fun l5 =>
      some (.inl [.l (lL s1 0), .l l5, .i (IntKind.wrap .i64 ((lI s1 2) + 1))])) (
      some (.inr (0, [.l (lL s1 1)])))) [.l a, .l (List.replicate ((a.length : Int).toNat) (.agg [.str [], .str []])), .i 0] fun (r6 : Nat × List Leaf) =>
  k (lL r6.2 0)
noncomputable def F160 : T160 := P160 F122 
def X160 : Exits := fun i => lookN i [] [(3, [(.exit 0, xk 23 [(3, .own 1000000 2 .flat [])] [])])]
abbrev s160 : List (Bool × List CK) := [(false, [.sl 2 true])]
noncomputable def G160 (F : T160) (β : Type) (e : (List V × Unit) × Unit) (k : V → Option β) : Option β := F β e.1.1 (fun y1 => k (.own 0 2 .flat y1))
noncomputable abbrev W160 (F : T160) : (β : Type) → List V → (V → Option β) → Option β := wrap s160 (G160 F)
theorem k160 (F122 : T122) (β : Type) (e : argsT s160) (k : V → Option β) : fnK cfg (tabL [(122, W122 F122)]) X160 160 Try.f160 β (argsEnc s160 e) k = G160 (P160 F122 ) β e k := by kernel_rfl
theorem ok160 : FnOk D 160 (W160 F160) := fn_okW [(122, W122 F122)] X160 (fun _ => rfl) Try.func160 rfl (tabL_cons ok122 tabL_nil) (k160 F122 )

/-- laws.toPage -/
abbrev T132 : Type 1 := (β : Type) → List UInt8 → List UInt8 → Bool → List V → List V → List V → List UInt8 → List UInt8 → List V → Bool → List V → List V → List V → List V → List V → Int → Int → Int → Int → List V → List V → Bool → (List UInt8 → List UInt8 → Bool → List V → List V → List V → List UInt8 → List UInt8 → List V → Bool → List V → List V → List V → List V → List V → Int → Int → Int → Int → List V → List V → Bool → Option β) → Option β
noncomputable def P132 (F122 : T122) (F154 : T154) (F155 : T155) (F156 : T156) (F157 : T157) (F158 : T158) (F159 : T159) (F160 : T160) (F161 : T161) : T132 := fun β a_Addr_Host a_Addr_Path a_Policy_Set a_Policy_Scripts a_Policy_Styles a_Policy_Images a_Policy_Nonce a_Tok_Rest a_Queue a_Ended a_Builder_Nodes a_Builder_Open a_Slots a_Mods a_Entries a_Block a_Inline a_Deferred a_Entered a_Ran a_Log a_Loaded k =>
  F122 _ a_Addr_Host a_Addr_Path fun t1 t2 =>
  F154 _ a_Policy_Set a_Policy_Scripts a_Policy_Styles a_Policy_Images a_Policy_Nonce fun b3 l4 l5 l6 t7 =>
  F155 _ a_Tok_Rest fun t8 =>
  F156 _ a_Queue fun l9 =>
  F157 _ a_Builder_Nodes a_Builder_Open fun l10 l11 =>
  F158 _ a_Slots fun l12 =>
  F159 _ a_Mods fun l13 =>
  F160 _ a_Entries fun l14 =>
  F160 _ a_Ran fun l15 =>
  F161 _ a_Log fun l16 =>
  k t1 t2 b3 l4 l5 l6 t7 t8 l9 a_Ended l10 l11 l12 l13 l14 a_Block a_Inline a_Deferred a_Entered l15 l16 a_Loaded
noncomputable def F132 : T132 := P132 F122 F154 F155 F156 F157 F158 F159 F160 F161 
abbrev s132 : List (Bool × List CK) := [(true, [.str, .str, .bool, .sl 1 true, .sl 1 true, .sl 1 true, .str, .str, .sl 4 false, .bool, .sl 4 false, .sl 1 true, .sl 8 true, .sl 5 true, .sl 2 true, .int .i64, .int .i64, .int .i64, .int .i64, .sl 2 true, .sl 1 true, .bool])]
noncomputable def G132 (F : T132) (β : Type) (e : (List UInt8 × List UInt8 × Bool × List V × List V × List V × List UInt8 × List UInt8 × List V × Bool × List V × List V × List V × List V × List V × Int × Int × Int × Int × List V × List V × Bool × Unit) × Unit) (k : V → Option β) : Option β := F β e.1.1 e.1.2.1 e.1.2.2.1 e.1.2.2.2.1 e.1.2.2.2.2.1 e.1.2.2.2.2.2.1 e.1.2.2.2.2.2.2.1 e.1.2.2.2.2.2.2.2.1 e.1.2.2.2.2.2.2.2.2.1 e.1.2.2.2.2.2.2.2.2.2.1 e.1.2.2.2.2.2.2.2.2.2.2.1 e.1.2.2.2.2.2.2.2.2.2.2.2.1 e.1.2.2.2.2.2.2.2.2.2.2.2.2.1 e.1.2.2.2.2.2.2.2.2.2.2.2.2.2.1 e.1.2.2.2.2.2.2.2.2.2.2.2.2.2.2.1 e.1.2.2.2.2.2.2.2.2.2.2.2.2.2.2.2.1 e.1.2.2.2.2.2.2.2.2.2.2.2.2.2.2.2.2.1 e.1.2.2.2.2.2.2.2.2.2.2.2.2.2.2.2.2.2.1 e.1.2.2.2.2.2.2.2.2.2.2.2.2.2.2.2.2.2.2.1 e.1.2.2.2.2.2.2.2.2.2.2.2.2.2.2.2.2.2.2.2.1 e.1.2.2.2.2.2.2.2.2.2.2.2.2.2.2.2.2.2.2.2.2.1 e.1.2.2.2.2.2.2.2.2.2.2.2.2.2.2.2.2.2.2.2.2.2.1 (fun y1 y2 y3 y4 y5 y6 y7 y8 y9 y10 y11 y12 y13 y14 y15 y16 y17 y18 y19 y20 y21 y22 => k (.agg [.str y1, .str y2, .bool y3, .own 3 1 .flat y4, .own 4 1 .flat y5, .own 5 1 .flat y6, .str y7, .str y8, .own 8 4 .clean y9, .bool y10, .own 10 4 .clean y11, .own 11 1 .flat y12, .own 12 8 .flat y13, .own 13 5 .flat y14, .own 14 2 .flat y15, .int .i64 y16, .int .i64 y17, .int .i64 y18, .int .i64 y19, .own 19 2 .flat y20, .own 20 1 .flat y21, .bool y22]))
noncomputable abbrev W132 (F : T132) : (β : Type) → List V → (V → Option β) → Option β := wrap s132 (G132 F)
theorem k132 (F122 : T122) (F154 : T154) (F155 : T155) (F156 : T156) (F157 : T157) (F158 : T158) (F159 : T159) (F160 : T160) (F161 : T161) (β : Type) (e : argsT s132) (k : V → Option β) : fnK cfg (tabL [(122, W122 F122), (154, W154 F154), (155, W155 F155), (156, W156 F156), (157, W157 F157), (158, W158 F158), (159, W159 F159), (160, W160 F160), (161, W161 F161)]) noX 132 Try.f132 β (argsEnc s132 e) k = G132 (P132 F122 F154 F155 F156 F157 F158 F159 F160 F161 ) β e k := by kernel_rfl
theorem ok132 : FnOk D 132 (W132 F132) := fn_okW [(122, W122 F122), (154, W154 F154), (155, W155 F155), (156, W156 F156), (157, W157 F157), (158, W158 F158), (159, W159 F159), (160, W160 F160), (161, W161 F161)] noX (fun _ => rfl) Try.func132 rfl (tabL_cons ok122 (tabL_cons ok154 (tabL_cons ok155 (tabL_cons ok156 (tabL_cons ok157 (tabL_cons ok158 (tabL_cons ok159 (tabL_cons ok160 (tabL_cons ok161 tabL_nil))))))))) (k132 F122 F154 F155 F156 F157 F158 F159 F160 F161 )

/-- laws.toVisit -/
abbrev T103 : Type 1 := (β : Type) → List UInt8 → List UInt8 → List UInt8 → List UInt8 → Bool → List V → List V → List V → List UInt8 → List UInt8 → List V → Bool → List V → List V → List V → List V → List V → Int → Int → Int → Int → List V → List V → Bool → Bool → (List UInt8 → List UInt8 → List UInt8 → List UInt8 → Bool → List V → List V → List V → List UInt8 → List UInt8 → List V → Bool → List V → List V → List V → List V → List V → Int → Int → Int → Int → List V → List V → Bool → Bool → Option β) → Option β
noncomputable def P103 (F122 : T122) (F132 : T132) : T103 := fun β a_Addr_Host a_Addr_Path a_Page_Addr_Host a_Page_Addr_Path a_Page_Policy_Set a_Page_Policy_Scripts a_Page_Policy_Styles a_Page_Policy_Images a_Page_Policy_Nonce a_Page_Tok_Rest a_Page_Queue a_Page_Ended a_Page_Builder_Nodes a_Page_Builder_Open a_Page_Slots a_Page_Mods a_Page_Entries a_Page_Block a_Page_Inline a_Page_Deferred a_Page_Entered a_Page_Ran a_Page_Log a_Page_Loaded a_Kept k =>
  F122 _ a_Addr_Host a_Addr_Path fun t1 t2 =>
  F132 _ a_Page_Addr_Host a_Page_Addr_Path a_Page_Policy_Set a_Page_Policy_Scripts a_Page_Policy_Styles a_Page_Policy_Images a_Page_Policy_Nonce a_Page_Tok_Rest a_Page_Queue a_Page_Ended a_Page_Builder_Nodes a_Page_Builder_Open a_Page_Slots a_Page_Mods a_Page_Entries a_Page_Block a_Page_Inline a_Page_Deferred a_Page_Entered a_Page_Ran a_Page_Log a_Page_Loaded fun t3 t4 b5 l6 l7 l8 t9 t10 l11 b12 l13 l14 l15 l16 l17 n18 n19 n20 n21 l22 l23 b24 =>
  k t1 t2 t3 t4 b5 l6 l7 l8 t9 t10 l11 b12 l13 l14 l15 l16 l17 n18 n19 n20 n21 l22 l23 b24 a_Kept
noncomputable def F103 : T103 := P103 F122 F132 
abbrev s103 : List (Bool × List CK) := [(true, [.str, .str, .str, .str, .bool, .sl 1 true, .sl 1 true, .sl 1 true, .str, .str, .sl 4 false, .bool, .sl 4 false, .sl 1 true, .sl 8 true, .sl 5 true, .sl 2 true, .int .i64, .int .i64, .int .i64, .int .i64, .sl 2 true, .sl 1 true, .bool, .bool])]
noncomputable def G103 (F : T103) (β : Type) (e : (List UInt8 × List UInt8 × List UInt8 × List UInt8 × Bool × List V × List V × List V × List UInt8 × List UInt8 × List V × Bool × List V × List V × List V × List V × List V × Int × Int × Int × Int × List V × List V × Bool × Bool × Unit) × Unit) (k : V → Option β) : Option β := F β e.1.1 e.1.2.1 e.1.2.2.1 e.1.2.2.2.1 e.1.2.2.2.2.1 e.1.2.2.2.2.2.1 e.1.2.2.2.2.2.2.1 e.1.2.2.2.2.2.2.2.1 e.1.2.2.2.2.2.2.2.2.1 e.1.2.2.2.2.2.2.2.2.2.1 e.1.2.2.2.2.2.2.2.2.2.2.1 e.1.2.2.2.2.2.2.2.2.2.2.2.1 e.1.2.2.2.2.2.2.2.2.2.2.2.2.1 e.1.2.2.2.2.2.2.2.2.2.2.2.2.2.1 e.1.2.2.2.2.2.2.2.2.2.2.2.2.2.2.1 e.1.2.2.2.2.2.2.2.2.2.2.2.2.2.2.2.1 e.1.2.2.2.2.2.2.2.2.2.2.2.2.2.2.2.2.1 e.1.2.2.2.2.2.2.2.2.2.2.2.2.2.2.2.2.2.1 e.1.2.2.2.2.2.2.2.2.2.2.2.2.2.2.2.2.2.2.1 e.1.2.2.2.2.2.2.2.2.2.2.2.2.2.2.2.2.2.2.2.1 e.1.2.2.2.2.2.2.2.2.2.2.2.2.2.2.2.2.2.2.2.2.1 e.1.2.2.2.2.2.2.2.2.2.2.2.2.2.2.2.2.2.2.2.2.2.1 e.1.2.2.2.2.2.2.2.2.2.2.2.2.2.2.2.2.2.2.2.2.2.2.1 e.1.2.2.2.2.2.2.2.2.2.2.2.2.2.2.2.2.2.2.2.2.2.2.2.1 e.1.2.2.2.2.2.2.2.2.2.2.2.2.2.2.2.2.2.2.2.2.2.2.2.2.1 (fun y1 y2 y3 y4 y5 y6 y7 y8 y9 y10 y11 y12 y13 y14 y15 y16 y17 y18 y19 y20 y21 y22 y23 y24 y25 => k (.agg [.str y1, .str y2, .str y3, .str y4, .bool y5, .own 5 1 .flat y6, .own 6 1 .flat y7, .own 7 1 .flat y8, .str y9, .str y10, .own 10 4 .clean y11, .bool y12, .own 12 4 .clean y13, .own 13 1 .flat y14, .own 14 8 .flat y15, .own 15 5 .flat y16, .own 16 2 .flat y17, .int .i64 y18, .int .i64 y19, .int .i64 y20, .int .i64 y21, .own 21 2 .flat y22, .own 22 1 .flat y23, .bool y24, .bool y25]))
noncomputable abbrev W103 (F : T103) : (β : Type) → List V → (V → Option β) → Option β := wrap s103 (G103 F)
theorem k103 (F122 : T122) (F132 : T132) (β : Type) (e : argsT s103) (k : V → Option β) : fnK cfg (tabL [(122, W122 F122), (132, W132 F132)]) noX 103 Try.f103 β (argsEnc s103 e) k = G103 (P103 F122 F132 ) β e k := by kernel_rfl
theorem ok103 : FnOk D 103 (W103 F103) := fn_okW [(122, W122 F122), (132, W132 F132)] noX (fun _ => rfl) Try.func103 rfl (tabL_cons ok122 (tabL_cons ok132 tabL_nil)) (k103 F122 F132 )

/-- laws.toVisitS -/
abbrev T71 : Type 1 := (β : Type) → List V → (List V → Option β) → Option β
noncomputable def P71 (F103 : T103) : T71 := fun β a k =>
  chk (0 ≤ (a.length : Int) ∧ (a.length : Int) ≤ (a.length : Int) ∧ (a.length : Int) * 424 ≤ 140737488355328 ∧ (a.length : Int) ≤ 140737488355328) <|
  whileK (fun s1 =>
    br (decide ((lI s1 2) < ((lL s1 0).length : Int))) (
      chk (0 ≤ (lI s1 2)) <|
      idx true [.str, .str, .str, .str, .bool, .sl 1 true, .sl 1 true, .sl 1 true, .str, .str, .sl 4 false, .bool, .sl 4 false, .sl 1 true, .sl 8 true, .sl 5 true, .sl 2 true, .int .i64, .int .i64, .int .i64, .int .i64, .sl 2 true, .sl 1 true, .bool, .bool] (lL s1 0) ((lI s1 2).toNat) fun (e2 : List UInt8 × List UInt8 × List UInt8 × List UInt8 × Bool × List V × List V × List V × List UInt8 × List UInt8 × List V × Bool × List V × List V × List V × List V × List V × Int × Int × Int × Int × List V × List V × Bool × Bool × Unit) =>
      F103 _ e2.1 e2.2.1 e2.2.2.1 e2.2.2.2.1 e2.2.2.2.2.1 e2.2.2.2.2.2.1 e2.2.2.2.2.2.2.1 e2.2.2.2.2.2.2.2.1 e2.2.2.2.2.2.2.2.2.1 e2.2.2.2.2.2.2.2.2.2.1 e2.2.2.2.2.2.2.2.2.2.2.1 e2.2.2.2.2.2.2.2.2.2.2.2.1 e2.2.2.2.2.2.2.2.2.2.2.2.2.1 e2.2.2.2.2.2.2.2.2.2.2.2.2.2.1 e2.2.2.2.2.2.2.2.2.2.2.2.2.2.2.1 e2.2.2.2.2.2.2.2.2.2.2.2.2.2.2.2.1 e2.2.2.2.2.2.2.2.2.2.2.2.2.2.2.2.2.1 e2.2.2.2.2.2.2.2.2.2.2.2.2.2.2.2.2.2.1 e2.2.2.2.2.2.2.2.2.2.2.2.2.2.2.2.2.2.2.1 e2.2.2.2.2.2.2.2.2.2.2.2.2.2.2.2.2.2.2.2.1 e2.2.2.2.2.2.2.2.2.2.2.2.2.2.2.2.2.2.2.2.2.1 e2.2.2.2.2.2.2.2.2.2.2.2.2.2.2.2.2.2.2.2.2.2.1 e2.2.2.2.2.2.2.2.2.2.2.2.2.2.2.2.2.2.2.2.2.2.2.1 e2.2.2.2.2.2.2.2.2.2.2.2.2.2.2.2.2.2.2.2.2.2.2.2.1 e2.2.2.2.2.2.2.2.2.2.2.2.2.2.2.2.2.2.2.2.2.2.2.2.2.1 fun t3 t4 t5 t6 b7 l8 l9 l10 t11 t12 l13 b14 l15 l16 l17 l18 l19 n20 n21 n22 n23 l24 l25 b26 b27 =>
      chk (0 ≤ (lI s1 2) ∧ (lI s1 2).toNat < (lL s1 1).length) <|
      storeO (lL s1 1) ((lI s1 2).toNat) 0 [.str t3, .str t4, .str t5, .str t6, .bool b7, .sl 1 true l8, .sl 1 true l9, .sl 1 true l10, .str t11, .str t12, .sl 4 false l13, .bool b14, .sl 4 false l15, .sl 1 true l16, .sl 8 true l17, .sl 5 true l18, .sl 2 true l19, .int .i64 n20, .int .i64 n21, .int .i64 n22, .int .i64 n23, .sl 2 true l24, .sl 1 true l25, .bool b26, .bool b27] fun l28 =>
      some (.inl [.l (lL s1 0), .l l28, .i (IntKind.wrap .i64 ((lI s1 2) + 1))])) (
      some (.inr (0, [.l (lL s1 1)])))) [.l a, .l (List.replicate ((a.length : Int).toNat) (.agg [.str [], .str [], .str [], .str [], .bool false, .sl 1 true [], .sl 1 true [], .sl 1 true [], .str [], .str [], .sl 4 false [], .bool false, .sl 4 false [], .sl 1 true [], .sl 8 true [], .sl 5 true [], .sl 2 true [], .int .i64 0, .int .i64 0, .int .i64 0, .int .i64 0, .sl 2 true [], .sl 1 true [], .bool false, .bool false])), .i 0] fun (r29 : Nat × List Leaf) =>
  k (lL r29.2 0)
noncomputable def F71 : T71 := P71 F103 
def X71 : Exits := fun i => lookN i [] [(3, [(.exit 0, xk 23 [(3, .own 1000000 25 .clean [])] [])])]
abbrev s71 : List (Bool × List CK) := [(false, [.sl 25 false])]
noncomputable def G71 (F : T71) (β : Type) (e : (List V × Unit) × Unit) (k : V → Option β) : Option β := F β e.1.1 (fun y1 => k (.own 0 25 .clean y1))
noncomputable abbrev W71 (F : T71) : (β : Type) → List V → (V → Option β) → Option β := wrap s71 (G71 F)
theorem k71 (F103 : T103) (β : Type) (e : argsT s71) (k : V → Option β) : fnK cfg (tabL [(103, W103 F103)]) X71 71 Try.f71 β (argsEnc s71 e) k = G71 (P71 F103 ) β e k := by kernel_rfl
theorem ok71 : FnOk D 71 (W71 F71) := fn_okW [(103, W103 F103)] X71 (fun _ => rfl) Try.func71 rfl (tabL_cons ok103 tabL_nil) (k71 F103 )

/-- laws.toTab -/
abbrev T30 : Type 1 := (β : Type) → List V → Int → (List V → Int → Option β) → Option β
noncomputable def P30 (F71 : T71) : T30 := fun β a_Visits a_At k =>
  F71 _ a_Visits fun l1 =>
  k l1 a_At
noncomputable def F30 : T30 := P30 F71 
abbrev s30 : List (Bool × List CK) := [(true, [.sl 25 false, .int .i64])]
noncomputable def G30 (F : T30) (β : Type) (e : (List V × Int × Unit) × Unit) (k : V → Option β) : Option β := F β e.1.1 e.1.2.1 (fun y1 y2 => k (.agg [.own 0 25 .clean y1, .int .i64 y2]))
noncomputable abbrev W30 (F : T30) : (β : Type) → List V → (V → Option β) → Option β := wrap s30 (G30 F)
theorem k30 (F71 : T71) (β : Type) (e : argsT s30) (k : V → Option β) : fnK cfg (tabL [(71, W71 F71)]) noX 30 Try.f30 β (argsEnc s30 e) k = G30 (P30 F71 ) β e k := by kernel_rfl
theorem ok30 : FnOk D 30 (W30 F30) := fn_okW [(71, W71 F71)] noX (fun _ => rfl) Try.func30 rfl (tabL_cons ok71 tabL_nil) (k30 F71 )

/-- spec.l1In -/
abbrev T142 : Type 1 := (β : Type) → Int → Int → Int → (Bool → Option β) → Option β
noncomputable def P142 : T142 := fun β x least most k =>
  br (decide (x ≥ least)) (
    k (decide (x ≤ most))) (
    k false)
noncomputable def F142 : T142 := P142 
abbrev s142 : List (Bool × List CK) := [(false, [.int .i64]), (false, [.int .i64]), (false, [.int .i64])]
noncomputable def G142 (F : T142) (β : Type) (e : (Int × Unit) × (Int × Unit) × (Int × Unit) × Unit) (k : V → Option β) : Option β := F β e.1.1 e.2.1.1 e.2.2.1.1 (fun y1 => k (.bool y1))
noncomputable abbrev W142 (F : T142) : (β : Type) → List V → (V → Option β) → Option β := wrap s142 (G142 F)
theorem k142 (β : Type) (e : argsT s142) (k : V → Option β) : fnK cfg (tabL []) noX 142 Try.f142 β (argsEnc s142 e) k = G142 (P142 ) β e k := by kernel_rfl
theorem ok142 : FnOk D 142 (W142 F142) := fn_okW [] noX (fun _ => rfl) Try.func142 rfl (tabL_nil) (k142 )

/-- spec.IsName -/
abbrev T126 : Type 1 := (β : Type) → List UInt8 → (Bool → Option β) → Option β
noncomputable def P126 (F142 : T142) : T126 := fun β s k =>
  whileK (fun s1 =>
    br (decide ((lI s1 1) < ((lS s1 0).length : Int))) (
      idxS (lS s1 0) (lI s1 1) fun b2 =>
      br (decide (b2 < 97)) (
        some (.inr (0, [.s (lS s1 0), .b false]))) (
        idxS (lS s1 0) (lI s1 1) fun b3 =>
        br (decide (b3 > 122)) (
          some (.inr (0, [.s (lS s1 0), .b false]))) (
          some (.inl [.s (lS s1 0), .i (IntKind.wrap .i64 ((lI s1 1) + 1))])))) (
      some (.inr (1, [.s (lS s1 0)])))) [.s s, .i 0] fun (r4 : Nat × List Leaf) =>
  if r4.1 = 0 then
    k (lB r4.2 1)
  else
    F142 _ ((lS r4.2 0).length : Int) 1 8 fun b5 =>
    k b5
noncomputable def F126 : T126 := P126 F142 
def X126 : Exits := fun i => lookN i [] [(2, [(.ret, xk 23 [(0, .str []), (2, .bool false)] []), (.exit 0, xk 23 [(0, .str [])] [])])]
abbrev s126 : List (Bool × List CK) := [(false, [.str])]
noncomputable def G126 (F : T126) (β : Type) (e : (List UInt8 × Unit) × Unit) (k : V → Option β) : Option β := F β e.1.1 (fun y1 => k (.bool y1))
noncomputable abbrev W126 (F : T126) : (β : Type) → List V → (V → Option β) → Option β := wrap s126 (G126 F)
theorem k126 (F142 : T142) (β : Type) (e : argsT s126) (k : V → Option β) : fnK cfg (tabL [(142, W142 F142)]) X126 126 Try.f126 β (argsEnc s126 e) k = G126 (P126 F142 ) β e k := by kernel_rfl
theorem ok126 : FnOk D 126 (W126 F126) := fn_okW [(142, W142 F142)] X126 (fun _ => rfl) Try.func126 rfl (tabL_cons ok142 tabL_nil) (k126 F142 )

/-- spec.IsAddr -/
abbrev T105 : Type 1 := (β : Type) → List UInt8 → List UInt8 → (Bool → Option β) → Option β
noncomputable def P105 (F126 : T126) : T105 := fun β a_Host a_Path k =>
  F126 _ a_Host fun b1 =>
  br b1 (
    F126 _ a_Path fun b2 =>
    k b2) (
    k false)
noncomputable def F105 : T105 := P105 F126 
abbrev s105 : List (Bool × List CK) := [(true, [.str, .str])]
noncomputable def G105 (F : T105) (β : Type) (e : (List UInt8 × List UInt8 × Unit) × Unit) (k : V → Option β) : Option β := F β e.1.1 e.1.2.1 (fun y1 => k (.bool y1))
noncomputable abbrev W105 (F : T105) : (β : Type) → List V → (V → Option β) → Option β := wrap s105 (G105 F)
theorem k105 (F126 : T126) (β : Type) (e : argsT s105) (k : V → Option β) : fnK cfg (tabL [(126, W126 F126)]) noX 105 Try.f105 β (argsEnc s105 e) k = G105 (P105 F126 ) β e k := by kernel_rfl
theorem ok105 : FnOk D 105 (W105 F105) := fn_okW [(126, W126 F126)] noX (fun _ => rfl) Try.func105 rfl (tabL_cons ok126 tabL_nil) (k105 F126 )

/-- spec.FormatAddr -/
abbrev T74 : Type 1 := (β : Type) → List UInt8 → List UInt8 → (List UInt8 → Option β) → Option β
noncomputable def P74 (F105 : T105) : T74 := fun β a_Host a_Path k =>
  F105 _ a_Host a_Path fun b1 =>
  br (!b1) (
    k []) (
    chk (a_Host.length + ([47] : List UInt8).length ≤ 9223372036854775807) <|
    chk ((a_Host ++ [47]).length + a_Path.length ≤ 9223372036854775807) <|
    k ((a_Host ++ [47]) ++ a_Path))
noncomputable def F74 : T74 := P74 F105 
abbrev s74 : List (Bool × List CK) := [(true, [.str, .str])]
noncomputable def G74 (F : T74) (β : Type) (e : (List UInt8 × List UInt8 × Unit) × Unit) (k : V → Option β) : Option β := F β e.1.1 e.1.2.1 (fun y1 => k (.str y1))
noncomputable abbrev W74 (F : T74) : (β : Type) → List V → (V → Option β) → Option β := wrap s74 (G74 F)
theorem k74 (F105 : T105) (β : Type) (e : argsT s74) (k : V → Option β) : fnK cfg (tabL [(105, W105 F105)]) noX 74 Try.f74 β (argsEnc s74 e) k = G74 (P74 F105 ) β e k := by kernel_rfl
theorem ok74 : FnOk D 74 (W74 F74) := fn_okW [(105, W105 F105)] noX (fun _ => rfl) Try.func74 rfl (tabL_cons ok105 tabL_nil) (k74 F105 )

/-- spec.l39Join -/
abbrev T75 : Type 1 := (β : Type) → List V → List UInt8 → (List UInt8 → Option β) → Option β
noncomputable def P75 : T75 := fun β l xby k =>
  br ((l.length : Int) == 0) (
    k [45]) (
    idx false [.str] l 0 fun (e1 : List UInt8 × Unit) =>
    whileK (fun s2 =>
      br (decide ((lI s2 3) < ((lL s2 0).length : Int))) (
        chk ((lS s2 2).length + (lS s2 1).length ≤ 9223372036854775807) <|
        chk (0 ≤ (lI s2 3)) <|
        idx false [.str] (lL s2 0) ((lI s2 3).toNat) fun (e3 : List UInt8 × Unit) =>
        chk (((lS s2 2) ++ (lS s2 1)).length + e3.1.length ≤ 9223372036854775807) <|
        some (.inl [.l (lL s2 0), .s (lS s2 1), .s (((lS s2 2) ++ (lS s2 1)) ++ e3.1), .i (IntKind.wrap .i64 ((lI s2 3) + 1))])) (
        some (.inr (0, [.s (lS s2 2)])))) [.l l, .s xby, .s e1.1, .i 1] fun (r4 : Nat × List Leaf) =>
    k (lS r4.2 0))
noncomputable def F75 : T75 := P75 
def X75 : Exits := fun i => lookN i [] [(5, [(.exit 0, xk 28 [(5, .str [])] [])])]
abbrev s75 : List (Bool × List CK) := [(false, [.sl 1 true]), (false, [.str])]
noncomputable def G75 (F : T75) (β : Type) (e : (List V × Unit) × (List UInt8 × Unit) × Unit) (k : V → Option β) : Option β := F β e.1.1 e.2.1.1 (fun y1 => k (.str y1))
noncomputable abbrev W75 (F : T75) : (β : Type) → List V → (V → Option β) → Option β := wrap s75 (G75 F)
theorem k75 (β : Type) (e : argsT s75) (k : V → Option β) : fnK cfg (tabL []) X75 75 Try.f75 β (argsEnc s75 e) k = G75 (P75 ) β e k := by kernel_rfl
theorem ok75 : FnOk D 75 (W75 F75) := fn_okW [] X75 (fun _ => rfl) Try.func75 rfl (tabL_nil) (k75 )

/-- spec.FormatTab -/
abbrev T33 : Type 1 := (β : Type) → List V → Int → (List UInt8 → Option β) → Option β
noncomputable def P33 (F74 : T74) (F75 : T75) : T33 := fun β t_Visits t_At k =>
  whileK (fun s1 =>
    br (decide ((lI s1 1) < ((lL s1 2).length : Int))) (
      chk (0 ≤ (lI s1 1)) <|
      idx true [.str, .str, .str, .str, .bool, .sl 1 true, .sl 1 true, .sl 1 true, .str, .str, .sl 4 false, .bool, .sl 4 false, .sl 1 true, .sl 8 true, .sl 5 true, .sl 2 true, .int .i64, .int .i64, .int .i64, .int .i64, .sl 2 true, .sl 1 true, .bool, .bool] (lL s1 2) ((lI s1 1).toNat) fun (e2 : List UInt8 × List UInt8 × List UInt8 × List UInt8 × Bool × List V × List V × List V × List UInt8 × List UInt8 × List V × Bool × List V × List V × List V × List V × List V × Int × Int × Int × Int × List V × List V × Bool × Bool × Unit) =>
      F74 _ e2.1 e2.2.1 fun t3 =>
      br ((lI s1 1) == (lI s1 3)) (
        chk (([42] : List UInt8).length + t3.length ≤ 9223372036854775807) <|
        chk (0 ≤ (lI s1 1)) <|
        idx true [.str, .str, .str, .str, .bool, .sl 1 true, .sl 1 true, .sl 1 true, .str, .str, .sl 4 false, .bool, .sl 4 false, .sl 1 true, .sl 8 true, .sl 5 true, .sl 2 true, .int .i64, .int .i64, .int .i64, .int .i64, .sl 2 true, .sl 1 true, .bool, .bool] (lL s1 2) ((lI s1 1).toNat) fun (e4 : List UInt8 × List UInt8 × List UInt8 × List UInt8 × Bool × List V × List V × List V × List UInt8 × List UInt8 × List V × Bool × List V × List V × List V × List V × List V × Int × Int × Int × Int × List V × List V × Bool × Bool × Unit) =>
        br e4.2.2.2.2.2.2.2.2.2.2.2.2.2.2.2.2.2.2.2.2.2.2.2.2.1 (
          chk (([42] ++ t3 : List UInt8).length + ([43] : List UInt8).length ≤ 9223372036854775807) <|
          chk (((lL s1 0).length + ([.str (([42] ++ t3) ++ [43])] : List V).length) * 16 ≤ 140737488355328 ∧ (lL s1 0).length + ([.str (([42] ++ t3) ++ [43])] : List V).length ≤ 140737488355328) <|
          some (.inl [.l ((lL s1 0) ++ ([.str (([42] ++ t3) ++ [43])] : List V)), .i (IntKind.wrap .i64 ((lI s1 1) + 1)), .l (lL s1 2), .i (lI s1 3)])) (
          chk (((lL s1 0).length + ([.str ([42] ++ t3)] : List V).length) * 16 ≤ 140737488355328 ∧ (lL s1 0).length + ([.str ([42] ++ t3)] : List V).length ≤ 140737488355328) <|
          some (.inl [.l ((lL s1 0) ++ ([.str ([42] ++ t3)] : List V)), .i (IntKind.wrap .i64 ((lI s1 1) + 1)), .l (lL s1 2), .i (lI s1 3)]))) (
        chk (0 ≤ (lI s1 1)) <|
        idx true [.str, .str, .str, .str, .bool, .sl 1 true, .sl 1 true, .sl 1 true, .str, .str, .sl 4 false, .bool, .sl 4 false, .sl 1 true, .sl 8 true, .sl 5 true, .sl 2 true, .int .i64, .int .i64, .int .i64, .int .i64, .sl 2 true, .sl 1 true, .bool, .bool] (lL s1 2) ((lI s1 1).toNat) fun (e5 : List UInt8 × List UInt8 × List UInt8 × List UInt8 × Bool × List V × List V × List V × List UInt8 × List UInt8 × List V × Bool × List V × List V × List V × List V × List V × Int × Int × Int × Int × List V × List V × Bool × Bool × Unit) =>
        br e5.2.2.2.2.2.2.2.2.2.2.2.2.2.2.2.2.2.2.2.2.2.2.2.2.1 (
          chk (t3.length + ([43] : List UInt8).length ≤ 9223372036854775807) <|
          chk (((lL s1 0).length + ([.str (t3 ++ [43])] : List V).length) * 16 ≤ 140737488355328 ∧ (lL s1 0).length + ([.str (t3 ++ [43])] : List V).length ≤ 140737488355328) <|
          some (.inl [.l ((lL s1 0) ++ ([.str (t3 ++ [43])] : List V)), .i (IntKind.wrap .i64 ((lI s1 1) + 1)), .l (lL s1 2), .i (lI s1 3)])) (
          chk (((lL s1 0).length + ([.str t3] : List V).length) * 16 ≤ 140737488355328 ∧ (lL s1 0).length + ([.str t3] : List V).length ≤ 140737488355328) <|
          some (.inl [.l ((lL s1 0) ++ ([.str t3] : List V)), .i (IntKind.wrap .i64 ((lI s1 1) + 1)), .l (lL s1 2), .i (lI s1 3)])))) (
      some (.inr (0, [.l (lL s1 0)])))) [.l [], .i 0, .l t_Visits, .i t_At] fun (r6 : Nat × List Leaf) =>
  F75 _ (lL r6.2 0) [32] fun t7 =>
  k t7
noncomputable def F33 : T33 := P33 F74 F75 
def X33 : Exits := fun i => lookN i [] [(3, [(.exit 0, xk 41 [(3, .own 1000000 1 .flat [])] [])])]
abbrev s33 : List (Bool × List CK) := [(true, [.sl 25 false, .int .i64])]
noncomputable def G33 (F : T33) (β : Type) (e : (List V × Int × Unit) × Unit) (k : V → Option β) : Option β := F β e.1.1 e.1.2.1 (fun y1 => k (.str y1))
noncomputable abbrev W33 (F : T33) : (β : Type) → List V → (V → Option β) → Option β := wrap s33 (G33 F)
theorem k33 (F74 : T74) (F75 : T75) (β : Type) (e : argsT s33) (k : V → Option β) : fnK cfg (tabL [(74, W74 F74), (75, W75 F75)]) X33 33 Try.f33 β (argsEnc s33 e) k = G33 (P33 F74 F75 ) β e k := by kernel_rfl
theorem ok33 : FnOk D 33 (W33 F33) := fn_okW [(74, W74 F74), (75, W75 F75)] X33 (fun _ => rfl) Try.func33 rfl (tabL_cons ok74 (tabL_cons ok75 tabL_nil)) (k33 F74 F75 )

/-- impl.InRange -/
abbrev T168 : Type 1 := (β : Type) → Int → Int → Int → (Bool → Option β) → Option β
noncomputable def P168 : T168 := fun β n low high k =>
  br (decide (low ≤ n)) (
    k (decide (n ≤ high))) (
    k false)
noncomputable def F168 : T168 := P168 
abbrev s168 : List (Bool × List CK) := [(false, [.int .i64]), (false, [.int .i64]), (false, [.int .i64])]
noncomputable def G168 (F : T168) (β : Type) (e : (Int × Unit) × (Int × Unit) × (Int × Unit) × Unit) (k : V → Option β) : Option β := F β e.1.1 e.2.1.1 e.2.2.1.1 (fun y1 => k (.bool y1))
noncomputable abbrev W168 (F : T168) : (β : Type) → List V → (V → Option β) → Option β := wrap s168 (G168 F)
theorem k168 (β : Type) (e : argsT s168) (k : V → Option β) : fnK cfg (tabL []) noX 168 Try.f168 β (argsEnc s168 e) k = G168 (P168 ) β e k := by kernel_rfl
theorem ok168 : FnOk D 168 (W168 F168) := fn_okW [] noX (fun _ => rfl) Try.func168 rfl (tabL_nil) (k168 )

/-- impl.IsName -/
abbrev T134 : Type 1 := (β : Type) → List UInt8 → (Bool → Option β) → Option β
noncomputable def P134 (F168 : T168) : T134 := fun β s k =>
  whileK (fun s1 =>
    br (decide ((lI s1 1) < ((lS s1 0).length : Int))) (
      idxS (lS s1 0) (lI s1 1) fun b2 =>
      br (decide (b2 < 97)) (
        some (.inr (0, [.s (lS s1 0), .b false]))) (
        idxS (lS s1 0) (lI s1 1) fun b3 =>
        br (decide (b3 > 122)) (
          some (.inr (0, [.s (lS s1 0), .b false]))) (
          some (.inl [.s (lS s1 0), .i (IntKind.wrap .i64 ((lI s1 1) + 1))])))) (
      some (.inr (1, [.s (lS s1 0)])))) [.s s, .i 0] fun (r4 : Nat × List Leaf) =>
  if r4.1 = 0 then
    k (lB r4.2 1)
  else
    F168 _ ((lS r4.2 0).length : Int) 1 8 fun b5 =>
    k b5
noncomputable def F134 : T134 := P134 F168 
def X134 : Exits := fun i => lookN i [] [(2, [(.ret, xk 23 [(0, .str []), (2, .bool false)] []), (.exit 0, xk 23 [(0, .str [])] [])])]
abbrev s134 : List (Bool × List CK) := [(false, [.str])]
noncomputable def G134 (F : T134) (β : Type) (e : (List UInt8 × Unit) × Unit) (k : V → Option β) : Option β := F β e.1.1 (fun y1 => k (.bool y1))
noncomputable abbrev W134 (F : T134) : (β : Type) → List V → (V → Option β) → Option β := wrap s134 (G134 F)
theorem k134 (F168 : T168) (β : Type) (e : argsT s134) (k : V → Option β) : fnK cfg (tabL [(168, W168 F168)]) X134 134 Try.f134 β (argsEnc s134 e) k = G134 (P134 F168 ) β e k := by kernel_rfl
theorem ok134 : FnOk D 134 (W134 F134) := fn_okW [(168, W168 F168)] X134 (fun _ => rfl) Try.func134 rfl (tabL_cons ok168 tabL_nil) (k134 F168 )

/-- impl.IsAddr -/
abbrev T106 : Type 1 := (β : Type) → List UInt8 → List UInt8 → (Bool → Option β) → Option β
noncomputable def P106 (F134 : T134) : T106 := fun β a_Host a_Path k =>
  F134 _ a_Host fun b1 =>
  br b1 (
    F134 _ a_Path fun b2 =>
    k b2) (
    k false)
noncomputable def F106 : T106 := P106 F134 
abbrev s106 : List (Bool × List CK) := [(true, [.str, .str])]
noncomputable def G106 (F : T106) (β : Type) (e : (List UInt8 × List UInt8 × Unit) × Unit) (k : V → Option β) : Option β := F β e.1.1 e.1.2.1 (fun y1 => k (.bool y1))
noncomputable abbrev W106 (F : T106) : (β : Type) → List V → (V → Option β) → Option β := wrap s106 (G106 F)
theorem k106 (F134 : T134) (β : Type) (e : argsT s106) (k : V → Option β) : fnK cfg (tabL [(134, W134 F134)]) noX 106 Try.f106 β (argsEnc s106 e) k = G106 (P106 F134 ) β e k := by kernel_rfl
theorem ok106 : FnOk D 106 (W106 F106) := fn_okW [(134, W134 F134)] noX (fun _ => rfl) Try.func106 rfl (tabL_cons ok134 tabL_nil) (k106 F134 )

/-- impl.FormatAddr -/
abbrev T76 : Type 1 := (β : Type) → List UInt8 → List UInt8 → (List UInt8 → Option β) → Option β
noncomputable def P76 (F106 : T106) : T76 := fun β a_Host a_Path k =>
  F106 _ a_Host a_Path fun b1 =>
  br (!b1) (
    k []) (
    chk (a_Host.length + ([47] : List UInt8).length ≤ 9223372036854775807) <|
    chk ((a_Host ++ [47]).length + a_Path.length ≤ 9223372036854775807) <|
    k ((a_Host ++ [47]) ++ a_Path))
noncomputable def F76 : T76 := P76 F106 
abbrev s76 : List (Bool × List CK) := [(true, [.str, .str])]
noncomputable def G76 (F : T76) (β : Type) (e : (List UInt8 × List UInt8 × Unit) × Unit) (k : V → Option β) : Option β := F β e.1.1 e.1.2.1 (fun y1 => k (.str y1))
noncomputable abbrev W76 (F : T76) : (β : Type) → List V → (V → Option β) → Option β := wrap s76 (G76 F)
theorem k76 (F106 : T106) (β : Type) (e : argsT s76) (k : V → Option β) : fnK cfg (tabL [(106, W106 F106)]) noX 76 Try.f76 β (argsEnc s76 e) k = G76 (P76 F106 ) β e k := by kernel_rfl
theorem ok76 : FnOk D 76 (W76 F76) := fn_okW [(106, W106 F106)] noX (fun _ => rfl) Try.func76 rfl (tabL_cons ok106 tabL_nil) (k76 F106 )

/-- strings.Join -/
abbrev T77 : Type 1 := (β : Type) → List V → List UInt8 → (List UInt8 → Option β) → Option β
noncomputable def F77 : T77 := joinK
abbrev s77 : List (Bool × List CK) := [(false, [.sl 1 true]), (false, [.str])]
noncomputable def G77 (F : T77) (β : Type) (e : (List V × Unit) × (List UInt8 × Unit) × Unit) (k : V → Option β) : Option β := F β e.1.1 e.2.1.1 (fun y1 => k (.str y1))
noncomputable abbrev W77 (F : T77) : (β : Type) → List V → (V → Option β) → Option β := wrap s77 (G77 F)
theorem ok77 : FnOk D 77 (W77 F77) := ok_join (fun _ => rfl)

/-- impl.FormatTab -/
abbrev T34 : Type 1 := (β : Type) → List V → Int → (List UInt8 → Option β) → Option β
noncomputable def P34 (F76 : T76) (F77 : T77) : T34 := fun β t_Visits t_At k =>
  br ((t_Visits.length : Int) == 0) (
    k [45]) (
    whileK (fun s1 =>
      br (decide ((lI s1 3) < (lI s1 2))) (
        chk (0 ≤ (lI s1 3)) <|
        idx true [.str, .str, .str, .str, .bool, .sl 1 true, .sl 1 true, .sl 1 true, .str, .str, .sl 4 false, .bool, .sl 4 false, .sl 1 true, .sl 8 true, .sl 5 true, .sl 2 true, .int .i64, .int .i64, .int .i64, .int .i64, .sl 2 true, .sl 1 true, .bool, .bool] (lL s1 1) ((lI s1 3).toNat) fun (e2 : List UInt8 × List UInt8 × List UInt8 × List UInt8 × Bool × List V × List V × List V × List UInt8 × List UInt8 × List V × Bool × List V × List V × List V × List V × List V × Int × Int × Int × Int × List V × List V × Bool × Bool × Unit) =>
        F76 _ e2.1 e2.2.1 fun t3 =>
        br ((lI s1 3) == (lI s1 5)) (
          chk (([42] : List UInt8).length + t3.length ≤ 9223372036854775807) <|
          br e2.2.2.2.2.2.2.2.2.2.2.2.2.2.2.2.2.2.2.2.2.2.2.2.2.1 (
            chk (([42] ++ t3 : List UInt8).length + ([43] : List UInt8).length ≤ 9223372036854775807) <|
            chk (((lL s1 0).length + ([.str (([42] ++ t3) ++ [43])] : List V).length) * 16 ≤ 140737488355328 ∧ (lL s1 0).length + ([.str (([42] ++ t3) ++ [43])] : List V).length ≤ 140737488355328) <|
            some (.inl [.l ((lL s1 0) ++ ([.str (([42] ++ t3) ++ [43])] : List V)), .l (lL s1 1), .i (lI s1 2), .i (IntKind.wrap .i64 ((lI s1 3) + 1)), .l (lL s1 4), .i (lI s1 5)])) (
            chk (((lL s1 0).length + ([.str ([42] ++ t3)] : List V).length) * 16 ≤ 140737488355328 ∧ (lL s1 0).length + ([.str ([42] ++ t3)] : List V).length ≤ 140737488355328) <|
            some (.inl [.l ((lL s1 0) ++ ([.str ([42] ++ t3)] : List V)), .l (lL s1 1), .i (lI s1 2), .i (IntKind.wrap .i64 ((lI s1 3) + 1)), .l (lL s1 4), .i (lI s1 5)]))) (
          br e2.2.2.2.2.2.2.2.2.2.2.2.2.2.2.2.2.2.2.2.2.2.2.2.2.1 (
            chk (t3.length + ([43] : List UInt8).length ≤ 9223372036854775807) <|
            chk (((lL s1 0).length + ([.str (t3 ++ [43])] : List V).length) * 16 ≤ 140737488355328 ∧ (lL s1 0).length + ([.str (t3 ++ [43])] : List V).length ≤ 140737488355328) <|
            some (.inl [.l ((lL s1 0) ++ ([.str (t3 ++ [43])] : List V)), .l (lL s1 1), .i (lI s1 2), .i (IntKind.wrap .i64 ((lI s1 3) + 1)), .l (lL s1 4), .i (lI s1 5)])) (
            chk (((lL s1 0).length + ([.str t3] : List V).length) * 16 ≤ 140737488355328 ∧ (lL s1 0).length + ([.str t3] : List V).length ≤ 140737488355328) <|
            some (.inl [.l ((lL s1 0) ++ ([.str t3] : List V)), .l (lL s1 1), .i (lI s1 2), .i (IntKind.wrap .i64 ((lI s1 3) + 1)), .l (lL s1 4), .i (lI s1 5)])))) (
        some (.inr (0, [.l (lL s1 0)])))) [.l [], .l t_Visits, .i (t_Visits.length : Int), .i 0, .l t_Visits, .i t_At] fun (r4 : Nat × List Leaf) =>
    F77 _ (lL r4.2 0) [32] fun t5 =>
    k t5)
noncomputable def F34 : T34 := P34 F76 F77 
def X34 : Exits := fun i => lookN i [] [(5, [(.exit 0, xk 40 [(3, .own 1000000 1 .flat [])] [])])]
abbrev s34 : List (Bool × List CK) := [(true, [.sl 25 false, .int .i64])]
noncomputable def G34 (F : T34) (β : Type) (e : (List V × Int × Unit) × Unit) (k : V → Option β) : Option β := F β e.1.1 e.1.2.1 (fun y1 => k (.str y1))
noncomputable abbrev W34 (F : T34) : (β : Type) → List V → (V → Option β) → Option β := wrap s34 (G34 F)
theorem k34 (F76 : T76) (F77 : T77) (β : Type) (e : argsT s34) (k : V → Option β) : fnK cfg (tabL [(76, W76 F76), (77, W77 F77)]) X34 34 Try.f34 β (argsEnc s34 e) k = G34 (P34 F76 F77 ) β e k := by kernel_rfl
theorem ok34 : FnOk D 34 (W34 F34) := fn_okW [(76, W76 F76), (77, W77 F77)] X34 (fun _ => rfl) Try.func34 rfl (tabL_cons ok76 (tabL_cons ok77 tabL_nil)) (k34 F76 F77 )

/-- laws.eqAddr -/
abbrev T86 : Type 1 := (β : Type) → List UInt8 → List UInt8 → List UInt8 → List UInt8 → (Bool → Option β) → Option β
noncomputable def P86 : T86 := fun β a_Host a_Path b_Host b_Path k =>
  br (!(a_Host == b_Host)) (
    k false) (
    br (!(a_Path == b_Path)) (
      k false) (
      k true))
noncomputable def F86 : T86 := P86 
abbrev s86 : List (Bool × List CK) := [(true, [.str, .str]), (true, [.str, .str])]
noncomputable def G86 (F : T86) (β : Type) (e : (List UInt8 × List UInt8 × Unit) × (List UInt8 × List UInt8 × Unit) × Unit) (k : V → Option β) : Option β := F β e.1.1 e.1.2.1 e.2.1.1 e.2.1.2.1 (fun y1 => k (.bool y1))
noncomputable abbrev W86 (F : T86) : (β : Type) → List V → (V → Option β) → Option β := wrap s86 (G86 F)
theorem k86 (β : Type) (e : argsT s86) (k : V → Option β) : fnK cfg (tabL []) noX 86 Try.f86 β (argsEnc s86 e) k = G86 (P86 ) β e k := by kernel_rfl
theorem ok86 : FnOk D 86 (W86 F86) := fn_okW [] noX (fun _ => rfl) Try.func86 rfl (tabL_nil) (k86 )

/-- laws.eqStringS -/
abbrev T37 : Type 1 := (β : Type) → List V → List V → (Bool → Option β) → Option β
noncomputable def P37 : T37 := fun β a b k =>
  br ((a.length : Int) != (b.length : Int)) (
    k false) (
    whileK (fun s1 =>
      br (decide ((lI s1 2) < ((lL s1 0).length : Int))) (
        chk (0 ≤ (lI s1 2)) <|
        idx false [.str] (lL s1 0) ((lI s1 2).toNat) fun (e2 : List UInt8 × Unit) =>
        chk (0 ≤ (lI s1 2)) <|
        idx false [.str] (lL s1 1) ((lI s1 2).toNat) fun (e3 : List UInt8 × Unit) =>
        br (!(e2.1 == e3.1)) (
          some (.inr (0, [.b false]))) (
          some (.inl [.l (lL s1 0), .l (lL s1 1), .i (IntKind.wrap .i64 ((lI s1 2) + 1))]))) (
        some (.inr (1, [])))) [.l a, .l b, .i 0] fun (r4 : Nat × List Leaf) =>
    if r4.1 = 0 then
      k (lB r4.2 0)
    else
      k true)
noncomputable def F37 : T37 := P37 
def X37 : Exits := fun i => lookN i [] [(4, [(.ret, xk 26 [(4, .bool false)] []), (.exit 0, xk 26 [] [])])]
abbrev s37 : List (Bool × List CK) := [(false, [.sl 1 true]), (false, [.sl 1 true])]
noncomputable def G37 (F : T37) (β : Type) (e : (List V × Unit) × (List V × Unit) × Unit) (k : V → Option β) : Option β := F β e.1.1 e.2.1.1 (fun y1 => k (.bool y1))
noncomputable abbrev W37 (F : T37) : (β : Type) → List V → (V → Option β) → Option β := wrap s37 (G37 F)
theorem k37 (β : Type) (e : argsT s37) (k : V → Option β) : fnK cfg (tabL []) X37 37 Try.f37 β (argsEnc s37 e) k = G37 (P37 ) β e k := by kernel_rfl
theorem ok37 : FnOk D 37 (W37 F37) := fn_okW [] X37 (fun _ => rfl) Try.func37 rfl (tabL_nil) (k37 )

/-- laws.eqPolicy -/
abbrev T162 : Type 1 := (β : Type) → Bool → List V → List V → List V → List UInt8 → Bool → List V → List V → List V → List UInt8 → (Bool → Option β) → Option β
noncomputable def P162 (F37 : T37) : T162 := fun β a_Set a_Scripts a_Styles a_Images a_Nonce b_Set b_Scripts b_Styles b_Images b_Nonce k =>
  br (!(a_Set == b_Set)) (
    k false) (
    F37 _ a_Scripts b_Scripts fun b1 =>
    br (!b1) (
      k false) (
      F37 _ a_Styles b_Styles fun b2 =>
      br (!b2) (
        k false) (
        F37 _ a_Images b_Images fun b3 =>
        br (!b3) (
          k false) (
          br (!(a_Nonce == b_Nonce)) (
            k false) (
            k true)))))
noncomputable def F162 : T162 := P162 F37 
abbrev s162 : List (Bool × List CK) := [(true, [.bool, .sl 1 true, .sl 1 true, .sl 1 true, .str]), (true, [.bool, .sl 1 true, .sl 1 true, .sl 1 true, .str])]
noncomputable def G162 (F : T162) (β : Type) (e : (Bool × List V × List V × List V × List UInt8 × Unit) × (Bool × List V × List V × List V × List UInt8 × Unit) × Unit) (k : V → Option β) : Option β := F β e.1.1 e.1.2.1 e.1.2.2.1 e.1.2.2.2.1 e.1.2.2.2.2.1 e.2.1.1 e.2.1.2.1 e.2.1.2.2.1 e.2.1.2.2.2.1 e.2.1.2.2.2.2.1 (fun y1 => k (.bool y1))
noncomputable abbrev W162 (F : T162) : (β : Type) → List V → (V → Option β) → Option β := wrap s162 (G162 F)
theorem k162 (F37 : T37) (β : Type) (e : argsT s162) (k : V → Option β) : fnK cfg (tabL [(37, W37 F37)]) noX 162 Try.f162 β (argsEnc s162 e) k = G162 (P162 F37 ) β e k := by kernel_rfl
theorem ok162 : FnOk D 162 (W162 F162) := fn_okW [(37, W37 F37)] noX (fun _ => rfl) Try.func162 rfl (tabL_cons ok37 tabL_nil) (k162 F37 )

/-- laws.eqTokenizer -/
abbrev T163 : Type 1 := (β : Type) → List UInt8 → List UInt8 → (Bool → Option β) → Option β
noncomputable def P163 : T163 := fun β a_Rest b_Rest k =>
  br (!(a_Rest == b_Rest)) (
    k false) (
    k true)
noncomputable def F163 : T163 := P163 
abbrev s163 : List (Bool × List CK) := [(true, [.str]), (true, [.str])]
noncomputable def G163 (F : T163) (β : Type) (e : (List UInt8 × Unit) × (List UInt8 × Unit) × Unit) (k : V → Option β) : Option β := F β e.1.1 e.2.1.1 (fun y1 => k (.bool y1))
noncomputable abbrev W163 (F : T163) : (β : Type) → List V → (V → Option β) → Option β := wrap s163 (G163 F)
theorem k163 (β : Type) (e : argsT s163) (k : V → Option β) : fnK cfg (tabL []) noX 163 Try.f163 β (argsEnc s163 e) k = G163 (P163 ) β e k := by kernel_rfl
theorem ok163 : FnOk D 163 (W163 F163) := fn_okW [] noX (fun _ => rfl) Try.func163 rfl (tabL_nil) (k163 )

/-- laws.eqAttr -/
abbrev T233 : Type 1 := (β : Type) → List UInt8 → List UInt8 → List UInt8 → List UInt8 → (Bool → Option β) → Option β
noncomputable def P233 : T233 := fun β a_Name a_Value b_Name b_Value k =>
  br (!(a_Name == b_Name)) (
    k false) (
    br (!(a_Value == b_Value)) (
      k false) (
      k true))
noncomputable def F233 : T233 := P233 
abbrev s233 : List (Bool × List CK) := [(true, [.str, .str]), (true, [.str, .str])]
noncomputable def G233 (F : T233) (β : Type) (e : (List UInt8 × List UInt8 × Unit) × (List UInt8 × List UInt8 × Unit) × Unit) (k : V → Option β) : Option β := F β e.1.1 e.1.2.1 e.2.1.1 e.2.1.2.1 (fun y1 => k (.bool y1))
noncomputable abbrev W233 (F : T233) : (β : Type) → List V → (V → Option β) → Option β := wrap s233 (G233 F)
theorem k233 (β : Type) (e : argsT s233) (k : V → Option β) : fnK cfg (tabL []) noX 233 Try.f233 β (argsEnc s233 e) k = G233 (P233 ) β e k := by kernel_rfl
theorem ok233 : FnOk D 233 (W233 F233) := fn_okW [] noX (fun _ => rfl) Try.func233 rfl (tabL_nil) (k233 )

/-- laws.eqAttrS -/
abbrev T225 : Type 1 := (β : Type) → List V → List V → (Bool → Option β) → Option β
noncomputable def P225 (F233 : T233) : T225 := fun β a b k =>
  br ((a.length : Int) != (b.length : Int)) (
    k false) (
    whileK (fun s1 =>
      br (decide ((lI s1 2) < ((lL s1 0).length : Int))) (
        chk (0 ≤ (lI s1 2)) <|
        idx true [.str, .str] (lL s1 0) ((lI s1 2).toNat) fun (e2 : List UInt8 × List UInt8 × Unit) =>
        chk (0 ≤ (lI s1 2)) <|
        idx true [.str, .str] (lL s1 1) ((lI s1 2).toNat) fun (e3 : List UInt8 × List UInt8 × Unit) =>
        F233 _ e2.1 e2.2.1 e3.1 e3.2.1 fun b4 =>
        br (!b4) (
          some (.inr (0, [.b false]))) (
          some (.inl [.l (lL s1 0), .l (lL s1 1), .i (IntKind.wrap .i64 ((lI s1 2) + 1))]))) (
        some (.inr (1, [])))) [.l a, .l b, .i 0] fun (r5 : Nat × List Leaf) =>
    if r5.1 = 0 then
      k (lB r5.2 0)
    else
      k true)
noncomputable def F225 : T225 := P225 F233 
def X225 : Exits := fun i => lookN i [] [(4, [(.ret, xk 27 [(4, .bool false)] []), (.exit 0, xk 27 [] [])])]
abbrev s225 : List (Bool × List CK) := [(false, [.sl 2 true]), (false, [.sl 2 true])]
noncomputable def G225 (F : T225) (β : Type) (e : (List V × Unit) × (List V × Unit) × Unit) (k : V → Option β) : Option β := F β e.1.1 e.2.1.1 (fun y1 => k (.bool y1))
noncomputable abbrev W225 (F : T225) : (β : Type) → List V → (V → Option β) → Option β := wrap s225 (G225 F)
theorem k225 (F233 : T233) (β : Type) (e : argsT s225) (k : V → Option β) : fnK cfg (tabL [(233, W233 F233)]) X225 225 Try.f225 β (argsEnc s225 e) k = G225 (P225 F233 ) β e k := by kernel_rfl
theorem ok225 : FnOk D 225 (W225 F225) := fn_okW [(233, W233 F233)] X225 (fun _ => rfl) Try.func225 rfl (tabL_cons ok233 tabL_nil) (k225 F233 )

/-- laws.eqToken -/
abbrev T204 : Type 1 := (β : Type) → Int → List UInt8 → List V → List UInt8 → Int → List UInt8 → List V → List UInt8 → (Bool → Option β) → Option β
noncomputable def P204 (F225 : T225) : T204 := fun β a_Kind a_Name a_Attrs a_Text b_Kind b_Name b_Attrs b_Text k =>
  br (a_Kind != b_Kind) (
    k false) (
    br (!(a_Name == b_Name)) (
      k false) (
      F225 _ a_Attrs b_Attrs fun b1 =>
      br (!b1) (
        k false) (
        br (!(a_Text == b_Text)) (
          k false) (
          k true))))
noncomputable def F204 : T204 := P204 F225 
abbrev s204 : List (Bool × List CK) := [(true, [.int .i64, .str, .sl 2 true, .str]), (true, [.int .i64, .str, .sl 2 true, .str])]
noncomputable def G204 (F : T204) (β : Type) (e : (Int × List UInt8 × List V × List UInt8 × Unit) × (Int × List UInt8 × List V × List UInt8 × Unit) × Unit) (k : V → Option β) : Option β := F β e.1.1 e.1.2.1 e.1.2.2.1 e.1.2.2.2.1 e.2.1.1 e.2.1.2.1 e.2.1.2.2.1 e.2.1.2.2.2.1 (fun y1 => k (.bool y1))
noncomputable abbrev W204 (F : T204) : (β : Type) → List V → (V → Option β) → Option β := wrap s204 (G204 F)
theorem k204 (F225 : T225) (β : Type) (e : argsT s204) (k : V → Option β) : fnK cfg (tabL [(225, W225 F225)]) noX 204 Try.f204 β (argsEnc s204 e) k = G204 (P204 F225 ) β e k := by kernel_rfl
theorem ok204 : FnOk D 204 (W204 F204) := fn_okW [(225, W225 F225)] noX (fun _ => rfl) Try.func204 rfl (tabL_cons ok225 tabL_nil) (k204 F225 )

/-- laws.eqTokenS -/
abbrev T164 : Type 1 := (β : Type) → List V → List V → (Bool → Option β) → Option β
noncomputable def P164 (F204 : T204) : T164 := fun β a b k =>
  br ((a.length : Int) != (b.length : Int)) (
    k false) (
    whileK (fun s1 =>
      br (decide ((lI s1 2) < ((lL s1 0).length : Int))) (
        chk (0 ≤ (lI s1 2)) <|
        idx true [.int .i64, .str, .sl 2 true, .str] (lL s1 0) ((lI s1 2).toNat) fun (e2 : Int × List UInt8 × List V × List UInt8 × Unit) =>
        chk (0 ≤ (lI s1 2)) <|
        idx true [.int .i64, .str, .sl 2 true, .str] (lL s1 1) ((lI s1 2).toNat) fun (e3 : Int × List UInt8 × List V × List UInt8 × Unit) =>
        F204 _ e2.1 e2.2.1 e2.2.2.1 e2.2.2.2.1 e3.1 e3.2.1 e3.2.2.1 e3.2.2.2.1 fun b4 =>
        br (!b4) (
          some (.inr (0, [.b false]))) (
          some (.inl [.l (lL s1 0), .l (lL s1 1), .i (IntKind.wrap .i64 ((lI s1 2) + 1))]))) (
        some (.inr (1, [])))) [.l a, .l b, .i 0] fun (r5 : Nat × List Leaf) =>
    if r5.1 = 0 then
      k (lB r5.2 0)
    else
      k true)
noncomputable def F164 : T164 := P164 F204 
def X164 : Exits := fun i => lookN i [] [(4, [(.ret, xk 27 [(4, .bool false)] []), (.exit 0, xk 27 [] [])])]
abbrev s164 : List (Bool × List CK) := [(false, [.sl 4 false]), (false, [.sl 4 false])]
noncomputable def G164 (F : T164) (β : Type) (e : (List V × Unit) × (List V × Unit) × Unit) (k : V → Option β) : Option β := F β e.1.1 e.2.1.1 (fun y1 => k (.bool y1))
noncomputable abbrev W164 (F : T164) : (β : Type) → List V → (V → Option β) → Option β := wrap s164 (G164 F)
theorem k164 (F204 : T204) (β : Type) (e : argsT s164) (k : V → Option β) : fnK cfg (tabL [(204, W204 F204)]) X164 164 Try.f164 β (argsEnc s164 e) k = G164 (P164 F204 ) β e k := by kernel_rfl
theorem ok164 : FnOk D 164 (W164 F164) := fn_okW [(204, W204 F204)] X164 (fun _ => rfl) Try.func164 rfl (tabL_cons ok204 tabL_nil) (k164 F204 )

/-- laws.eqNode -/
abbrev T226 : Type 1 := (β : Type) → List UInt8 → List UInt8 → Int → List V → List UInt8 → List UInt8 → Int → List V → (Bool → Option β) → Option β
noncomputable def P226 (F225 : T225) : T226 := fun β a_Name a_Text a_Parent a_Attrs b_Name b_Text b_Parent b_Attrs k =>
  br (!(a_Name == b_Name)) (
    k false) (
    br (!(a_Text == b_Text)) (
      k false) (
      br (a_Parent != b_Parent) (
        k false) (
        F225 _ a_Attrs b_Attrs fun b1 =>
        br (!b1) (
          k false) (
          k true))))
noncomputable def F226 : T226 := P226 F225 
abbrev s226 : List (Bool × List CK) := [(true, [.str, .str, .int .i64, .sl 2 true]), (true, [.str, .str, .int .i64, .sl 2 true])]
noncomputable def G226 (F : T226) (β : Type) (e : (List UInt8 × List UInt8 × Int × List V × Unit) × (List UInt8 × List UInt8 × Int × List V × Unit) × Unit) (k : V → Option β) : Option β := F β e.1.1 e.1.2.1 e.1.2.2.1 e.1.2.2.2.1 e.2.1.1 e.2.1.2.1 e.2.1.2.2.1 e.2.1.2.2.2.1 (fun y1 => k (.bool y1))
noncomputable abbrev W226 (F : T226) : (β : Type) → List V → (V → Option β) → Option β := wrap s226 (G226 F)
theorem k226 (F225 : T225) (β : Type) (e : argsT s226) (k : V → Option β) : fnK cfg (tabL [(225, W225 F225)]) noX 226 Try.f226 β (argsEnc s226 e) k = G226 (P226 F225 ) β e k := by kernel_rfl
theorem ok226 : FnOk D 226 (W226 F226) := fn_okW [(225, W225 F225)] noX (fun _ => rfl) Try.func226 rfl (tabL_cons ok225 tabL_nil) (k226 F225 )

/-- laws.eqNodeS -/
abbrev T205 : Type 1 := (β : Type) → List V → List V → (Bool → Option β) → Option β
noncomputable def P205 (F226 : T226) : T205 := fun β a b k =>
  br ((a.length : Int) != (b.length : Int)) (
    k false) (
    whileK (fun s1 =>
      br (decide ((lI s1 2) < ((lL s1 0).length : Int))) (
        chk (0 ≤ (lI s1 2)) <|
        idx true [.str, .str, .int .i64, .sl 2 true] (lL s1 0) ((lI s1 2).toNat) fun (e2 : List UInt8 × List UInt8 × Int × List V × Unit) =>
        chk (0 ≤ (lI s1 2)) <|
        idx true [.str, .str, .int .i64, .sl 2 true] (lL s1 1) ((lI s1 2).toNat) fun (e3 : List UInt8 × List UInt8 × Int × List V × Unit) =>
        F226 _ e2.1 e2.2.1 e2.2.2.1 e2.2.2.2.1 e3.1 e3.2.1 e3.2.2.1 e3.2.2.2.1 fun b4 =>
        br (!b4) (
          some (.inr (0, [.b false]))) (
          some (.inl [.l (lL s1 0), .l (lL s1 1), .i (IntKind.wrap .i64 ((lI s1 2) + 1))]))) (
        some (.inr (1, [])))) [.l a, .l b, .i 0] fun (r5 : Nat × List Leaf) =>
    if r5.1 = 0 then
      k (lB r5.2 0)
    else
      k true)
noncomputable def F205 : T205 := P205 F226 
def X205 : Exits := fun i => lookN i [] [(4, [(.ret, xk 27 [(4, .bool false)] []), (.exit 0, xk 27 [] [])])]
abbrev s205 : List (Bool × List CK) := [(false, [.sl 4 false]), (false, [.sl 4 false])]
noncomputable def G205 (F : T205) (β : Type) (e : (List V × Unit) × (List V × Unit) × Unit) (k : V → Option β) : Option β := F β e.1.1 e.2.1.1 (fun y1 => k (.bool y1))
noncomputable abbrev W205 (F : T205) : (β : Type) → List V → (V → Option β) → Option β := wrap s205 (G205 F)
theorem k205 (F226 : T226) (β : Type) (e : argsT s205) (k : V → Option β) : fnK cfg (tabL [(226, W226 F226)]) X205 205 Try.f205 β (argsEnc s205 e) k = G205 (P205 F226 ) β e k := by kernel_rfl
theorem ok205 : FnOk D 205 (W205 F205) := fn_okW [(226, W226 F226)] X205 (fun _ => rfl) Try.func205 rfl (tabL_cons ok226 tabL_nil) (k205 F226 )

/-- laws.eqIntS -/
abbrev T206 : Type 1 := (β : Type) → List V → List V → (Bool → Option β) → Option β
noncomputable def P206 : T206 := fun β a b k =>
  br ((a.length : Int) != (b.length : Int)) (
    k false) (
    whileK (fun s1 =>
      br (decide ((lI s1 2) < ((lL s1 0).length : Int))) (
        chk (0 ≤ (lI s1 2)) <|
        idx false [.int .i64] (lL s1 0) ((lI s1 2).toNat) fun (e2 : Int × Unit) =>
        chk (0 ≤ (lI s1 2)) <|
        idx false [.int .i64] (lL s1 1) ((lI s1 2).toNat) fun (e3 : Int × Unit) =>
        br (e2.1 != e3.1) (
          some (.inr (0, [.b false]))) (
          some (.inl [.l (lL s1 0), .l (lL s1 1), .i (IntKind.wrap .i64 ((lI s1 2) + 1))]))) (
        some (.inr (1, [])))) [.l a, .l b, .i 0] fun (r4 : Nat × List Leaf) =>
    if r4.1 = 0 then
      k (lB r4.2 0)
    else
      k true)
noncomputable def F206 : T206 := P206 
def X206 : Exits := fun i => lookN i [] [(4, [(.ret, xk 26 [(4, .bool false)] []), (.exit 0, xk 26 [] [])])]
abbrev s206 : List (Bool × List CK) := [(false, [.sl 1 true]), (false, [.sl 1 true])]
noncomputable def G206 (F : T206) (β : Type) (e : (List V × Unit) × (List V × Unit) × Unit) (k : V → Option β) : Option β := F β e.1.1 e.2.1.1 (fun y1 => k (.bool y1))
noncomputable abbrev W206 (F : T206) : (β : Type) → List V → (V → Option β) → Option β := wrap s206 (G206 F)
theorem k206 (β : Type) (e : argsT s206) (k : V → Option β) : fnK cfg (tabL []) X206 206 Try.f206 β (argsEnc s206 e) k = G206 (P206 ) β e k := by kernel_rfl
theorem ok206 : FnOk D 206 (W206 F206) := fn_okW [] X206 (fun _ => rfl) Try.func206 rfl (tabL_nil) (k206 )

/-- laws.eqBuilder -/
abbrev T165 : Type 1 := (β : Type) → List V → List V → List V → List V → (Bool → Option β) → Option β
noncomputable def P165 (F205 : T205) (F206 : T206) : T165 := fun β a_Nodes a_Open b_Nodes b_Open k =>
  F205 _ a_Nodes b_Nodes fun b1 =>
  br (!b1) (
    k false) (
    F206 _ a_Open b_Open fun b2 =>
    br (!b2) (
      k false) (
      k true))
noncomputable def F165 : T165 := P165 F205 F206 
abbrev s165 : List (Bool × List CK) := [(true, [.sl 4 false, .sl 1 true]), (true, [.sl 4 false, .sl 1 true])]
noncomputable def G165 (F : T165) (β : Type) (e : (List V × List V × Unit) × (List V × List V × Unit) × Unit) (k : V → Option β) : Option β := F β e.1.1 e.1.2.1 e.2.1.1 e.2.1.2.1 (fun y1 => k (.bool y1))
noncomputable abbrev W165 (F : T165) : (β : Type) → List V → (V → Option β) → Option β := wrap s165 (G165 F)
theorem k165 (F205 : T205) (F206 : T206) (β : Type) (e : argsT s165) (k : V → Option β) : fnK cfg (tabL [(205, W205 F205), (206, W206 F206)]) noX 165 Try.f165 β (argsEnc s165 e) k = G165 (P165 F205 F206 ) β e k := by kernel_rfl
theorem ok165 : FnOk D 165 (W165 F165) := fn_okW [(205, W205 F205), (206, W206 F206)] noX (fun _ => rfl) Try.func165 rfl (tabL_cons ok205 (tabL_cons ok206 tabL_nil)) (k165 F205 F206 )

/-- laws.eqSlot -/
abbrev T207 : Type 1 := (β : Type) → Int → List UInt8 → List UInt8 → List UInt8 → Int → Bool → Int → List UInt8 → Int → List UInt8 → List UInt8 → List UInt8 → Int → Bool → Int → List UInt8 → (Bool → Option β) → Option β
noncomputable def P207 (F86 : T86) : T207 := fun β a_Mode a_To_Host a_To_Path a_Digest a_Node a_Done a_Code a_Body b_Mode b_To_Host b_To_Path b_Digest b_Node b_Done b_Code b_Body k =>
  br (a_Mode != b_Mode) (
    k false) (
    F86 _ a_To_Host a_To_Path b_To_Host b_To_Path fun b1 =>
    br (!b1) (
      k false) (
      br (!(a_Digest == b_Digest)) (
        k false) (
        br (a_Node != b_Node) (
          k false) (
          br (!(a_Done == b_Done)) (
            k false) (
            br (a_Code != b_Code) (
              k false) (
              br (!(a_Body == b_Body)) (
                k false) (
                k true)))))))
noncomputable def F207 : T207 := P207 F86 
abbrev s207 : List (Bool × List CK) := [(true, [.int .i64, .str, .str, .str, .int .i64, .bool, .int .i64, .str]), (true, [.int .i64, .str, .str, .str, .int .i64, .bool, .int .i64, .str])]
noncomputable def G207 (F : T207) (β : Type) (e : (Int × List UInt8 × List UInt8 × List UInt8 × Int × Bool × Int × List UInt8 × Unit) × (Int × List UInt8 × List UInt8 × List UInt8 × Int × Bool × Int × List UInt8 × Unit) × Unit) (k : V → Option β) : Option β := F β e.1.1 e.1.2.1 e.1.2.2.1 e.1.2.2.2.1 e.1.2.2.2.2.1 e.1.2.2.2.2.2.1 e.1.2.2.2.2.2.2.1 e.1.2.2.2.2.2.2.2.1 e.2.1.1 e.2.1.2.1 e.2.1.2.2.1 e.2.1.2.2.2.1 e.2.1.2.2.2.2.1 e.2.1.2.2.2.2.2.1 e.2.1.2.2.2.2.2.2.1 e.2.1.2.2.2.2.2.2.2.1 (fun y1 => k (.bool y1))
noncomputable abbrev W207 (F : T207) : (β : Type) → List V → (V → Option β) → Option β := wrap s207 (G207 F)
theorem k207 (F86 : T86) (β : Type) (e : argsT s207) (k : V → Option β) : fnK cfg (tabL [(86, W86 F86)]) noX 207 Try.f207 β (argsEnc s207 e) k = G207 (P207 F86 ) β e k := by kernel_rfl
theorem ok207 : FnOk D 207 (W207 F207) := fn_okW [(86, W86 F86)] noX (fun _ => rfl) Try.func207 rfl (tabL_cons ok86 tabL_nil) (k207 F86 )

/-- laws.eqSlotS -/
abbrev T166 : Type 1 := (β : Type) → List V → List V → (Bool → Option β) → Option β
noncomputable def P166 (F207 : T207) : T166 := fun β a b k =>
  br ((a.length : Int) != (b.length : Int)) (
    k false) (
    whileK (fun s1 =>
      br (decide ((lI s1 2) < ((lL s1 0).length : Int))) (
        chk (0 ≤ (lI s1 2)) <|
        idx true [.int .i64, .str, .str, .str, .int .i64, .bool, .int .i64, .str] (lL s1 0) ((lI s1 2).toNat) fun (e2 : Int × List UInt8 × List UInt8 × List UInt8 × Int × Bool × Int × List UInt8 × Unit) =>
        chk (0 ≤ (lI s1 2)) <|
        idx true [.int .i64, .str, .str, .str, .int .i64, .bool, .int .i64, .str] (lL s1 1) ((lI s1 2).toNat) fun (e3 : Int × List UInt8 × List UInt8 × List UInt8 × Int × Bool × Int × List UInt8 × Unit) =>
        F207 _ e2.1 e2.2.1 e2.2.2.1 e2.2.2.2.1 e2.2.2.2.2.1 e2.2.2.2.2.2.1 e2.2.2.2.2.2.2.1 e2.2.2.2.2.2.2.2.1 e3.1 e3.2.1 e3.2.2.1 e3.2.2.2.1 e3.2.2.2.2.1 e3.2.2.2.2.2.1 e3.2.2.2.2.2.2.1 e3.2.2.2.2.2.2.2.1 fun b4 =>
        br (!b4) (
          some (.inr (0, [.b false]))) (
          some (.inl [.l (lL s1 0), .l (lL s1 1), .i (IntKind.wrap .i64 ((lI s1 2) + 1))]))) (
        some (.inr (1, [])))) [.l a, .l b, .i 0] fun (r5 : Nat × List Leaf) =>
    if r5.1 = 0 then
      k (lB r5.2 0)
    else
      k true)
noncomputable def F166 : T166 := P166 F207 
def X166 : Exits := fun i => lookN i [] [(4, [(.ret, xk 27 [(4, .bool false)] []), (.exit 0, xk 27 [] [])])]
abbrev s166 : List (Bool × List CK) := [(false, [.sl 8 true]), (false, [.sl 8 true])]
noncomputable def G166 (F : T166) (β : Type) (e : (List V × Unit) × (List V × Unit) × Unit) (k : V → Option β) : Option β := F β e.1.1 e.2.1.1 (fun y1 => k (.bool y1))
noncomputable abbrev W166 (F : T166) : (β : Type) → List V → (V → Option β) → Option β := wrap s166 (G166 F)
theorem k166 (F207 : T207) (β : Type) (e : argsT s166) (k : V → Option β) : fnK cfg (tabL [(207, W207 F207)]) X166 166 Try.f166 β (argsEnc s166 e) k = G166 (P166 F207 ) β e k := by kernel_rfl
theorem ok166 : FnOk D 166 (W166 F166) := fn_okW [(207, W207 F207)] X166 (fun _ => rfl) Try.func166 rfl (tabL_cons ok207 tabL_nil) (k166 F207 )

/-- laws.eqModule -/
abbrev T208 : Type 1 := (β : Type) → List UInt8 → List UInt8 → Bool → Int → List UInt8 → List UInt8 → List UInt8 → Bool → Int → List UInt8 → (Bool → Option β) → Option β
noncomputable def P208 (F86 : T86) : T208 := fun β a_To_Host a_To_Path a_Done a_Code a_Body b_To_Host b_To_Path b_Done b_Code b_Body k =>
  F86 _ a_To_Host a_To_Path b_To_Host b_To_Path fun b1 =>
  br (!b1) (
    k false) (
    br (!(a_Done == b_Done)) (
      k false) (
      br (a_Code != b_Code) (
        k false) (
        br (!(a_Body == b_Body)) (
          k false) (
          k true))))
noncomputable def F208 : T208 := P208 F86 
abbrev s208 : List (Bool × List CK) := [(true, [.str, .str, .bool, .int .i64, .str]), (true, [.str, .str, .bool, .int .i64, .str])]
noncomputable def G208 (F : T208) (β : Type) (e : (List UInt8 × List UInt8 × Bool × Int × List UInt8 × Unit) × (List UInt8 × List UInt8 × Bool × Int × List UInt8 × Unit) × Unit) (k : V → Option β) : Option β := F β e.1.1 e.1.2.1 e.1.2.2.1 e.1.2.2.2.1 e.1.2.2.2.2.1 e.2.1.1 e.2.1.2.1 e.2.1.2.2.1 e.2.1.2.2.2.1 e.2.1.2.2.2.2.1 (fun y1 => k (.bool y1))
noncomputable abbrev W208 (F : T208) : (β : Type) → List V → (V → Option β) → Option β := wrap s208 (G208 F)
theorem k208 (F86 : T86) (β : Type) (e : argsT s208) (k : V → Option β) : fnK cfg (tabL [(86, W86 F86)]) noX 208 Try.f208 β (argsEnc s208 e) k = G208 (P208 F86 ) β e k := by kernel_rfl
theorem ok208 : FnOk D 208 (W208 F208) := fn_okW [(86, W86 F86)] noX (fun _ => rfl) Try.func208 rfl (tabL_cons ok86 tabL_nil) (k208 F86 )

/-- laws.eqModuleS -/
abbrev T167 : Type 1 := (β : Type) → List V → List V → (Bool → Option β) → Option β
noncomputable def P167 (F208 : T208) : T167 := fun β a b k =>
  br ((a.length : Int) != (b.length : Int)) (
    k false) (
    whileK (fun s1 =>
      br (decide ((lI s1 2) < ((lL s1 0).length : Int))) (
        chk (0 ≤ (lI s1 2)) <|
        idx true [.str, .str, .bool, .int .i64, .str] (lL s1 0) ((lI s1 2).toNat) fun (e2 : List UInt8 × List UInt8 × Bool × Int × List UInt8 × Unit) =>
        chk (0 ≤ (lI s1 2)) <|
        idx true [.str, .str, .bool, .int .i64, .str] (lL s1 1) ((lI s1 2).toNat) fun (e3 : List UInt8 × List UInt8 × Bool × Int × List UInt8 × Unit) =>
        F208 _ e2.1 e2.2.1 e2.2.2.1 e2.2.2.2.1 e2.2.2.2.2.1 e3.1 e3.2.1 e3.2.2.1 e3.2.2.2.1 e3.2.2.2.2.1 fun b4 =>
        br (!b4) (
          some (.inr (0, [.b false]))) (
          some (.inl [.l (lL s1 0), .l (lL s1 1), .i (IntKind.wrap .i64 ((lI s1 2) + 1))]))) (
        some (.inr (1, [])))) [.l a, .l b, .i 0] fun (r5 : Nat × List Leaf) =>
    if r5.1 = 0 then
      k (lB r5.2 0)
    else
      k true)
noncomputable def F167 : T167 := P167 F208 
def X167 : Exits := fun i => lookN i [] [(4, [(.ret, xk 27 [(4, .bool false)] []), (.exit 0, xk 27 [] [])])]
abbrev s167 : List (Bool × List CK) := [(false, [.sl 5 true]), (false, [.sl 5 true])]
noncomputable def G167 (F : T167) (β : Type) (e : (List V × Unit) × (List V × Unit) × Unit) (k : V → Option β) : Option β := F β e.1.1 e.2.1.1 (fun y1 => k (.bool y1))
noncomputable abbrev W167 (F : T167) : (β : Type) → List V → (V → Option β) → Option β := wrap s167 (G167 F)
theorem k167 (F208 : T208) (β : Type) (e : argsT s167) (k : V → Option β) : fnK cfg (tabL [(208, W208 F208)]) X167 167 Try.f167 β (argsEnc s167 e) k = G167 (P167 F208 ) β e k := by kernel_rfl
theorem ok167 : FnOk D 167 (W167 F167) := fn_okW [(208, W208 F208)] X167 (fun _ => rfl) Try.func167 rfl (tabL_cons ok208 tabL_nil) (k167 F208 )

/-- laws.eqAddrS -/
abbrev T43 : Type 1 := (β : Type) → List V → List V → (Bool → Option β) → Option β
noncomputable def P43 (F86 : T86) : T43 := fun β a b k =>
  br ((a.length : Int) != (b.length : Int)) (
    k false) (
    whileK (fun s1 =>
      br (decide ((lI s1 2) < ((lL s1 0).length : Int))) (
        chk (0 ≤ (lI s1 2)) <|
        idx true [.str, .str] (lL s1 0) ((lI s1 2).toNat) fun (e2 : List UInt8 × List UInt8 × Unit) =>
        chk (0 ≤ (lI s1 2)) <|
        idx true [.str, .str] (lL s1 1) ((lI s1 2).toNat) fun (e3 : List UInt8 × List UInt8 × Unit) =>
        F86 _ e2.1 e2.2.1 e3.1 e3.2.1 fun b4 =>
        br (!b4) (
          some (.inr (0, [.b false]))) (
          some (.inl [.l (lL s1 0), .l (lL s1 1), .i (IntKind.wrap .i64 ((lI s1 2) + 1))]))) (
        some (.inr (1, [])))) [.l a, .l b, .i 0] fun (r5 : Nat × List Leaf) =>
    if r5.1 = 0 then
      k (lB r5.2 0)
    else
      k true)
noncomputable def F43 : T43 := P43 F86 
def X43 : Exits := fun i => lookN i [] [(4, [(.ret, xk 27 [(4, .bool false)] []), (.exit 0, xk 27 [] [])])]
abbrev s43 : List (Bool × List CK) := [(false, [.sl 2 true]), (false, [.sl 2 true])]
noncomputable def G43 (F : T43) (β : Type) (e : (List V × Unit) × (List V × Unit) × Unit) (k : V → Option β) : Option β := F β e.1.1 e.2.1.1 (fun y1 => k (.bool y1))
noncomputable abbrev W43 (F : T43) : (β : Type) → List V → (V → Option β) → Option β := wrap s43 (G43 F)
theorem k43 (F86 : T86) (β : Type) (e : argsT s43) (k : V → Option β) : fnK cfg (tabL [(86, W86 F86)]) X43 43 Try.f43 β (argsEnc s43 e) k = G43 (P43 F86 ) β e k := by kernel_rfl
theorem ok43 : FnOk D 43 (W43 F43) := fn_okW [(86, W86 F86)] X43 (fun _ => rfl) Try.func43 rfl (tabL_cons ok86 tabL_nil) (k43 F86 )

/-- laws.eqPage -/
abbrev T133 : Type 1 := (β : Type) → List UInt8 → List UInt8 → Bool → List V → List V → List V → List UInt8 → List UInt8 → List V → Bool → List V → List V → List V → List V → List V → Int → Int → Int → Int → List V → List V → Bool → List UInt8 → List UInt8 → Bool → List V → List V → List V → List UInt8 → List UInt8 → List V → Bool → List V → List V → List V → List V → List V → Int → Int → Int → Int → List V → List V → Bool → (Bool → Option β) → Option β
noncomputable def P133 (F86 : T86) (F162 : T162) (F163 : T163) (F164 : T164) (F165 : T165) (F166 : T166) (F167 : T167) (F43 : T43) (F37 : T37) : T133 := fun β a_Addr_Host a_Addr_Path a_Policy_Set a_Policy_Scripts a_Policy_Styles a_Policy_Images a_Policy_Nonce a_Tok_Rest a_Queue a_Ended a_Builder_Nodes a_Builder_Open a_Slots a_Mods a_Entries a_Block a_Inline a_Deferred a_Entered a_Ran a_Log a_Loaded b_Addr_Host b_Addr_Path b_Policy_Set b_Policy_Scripts b_Policy_Styles b_Policy_Images b_Policy_Nonce b_Tok_Rest b_Queue b_Ended b_Builder_Nodes b_Builder_Open b_Slots b_Mods b_Entries b_Block b_Inline b_Deferred b_Entered b_Ran b_Log b_Loaded k =>
  F86 _ a_Addr_Host a_Addr_Path b_Addr_Host b_Addr_Path fun b1 =>
  br (!b1) (
    k false) (
    F162 _ a_Policy_Set a_Policy_Scripts a_Policy_Styles a_Policy_Images a_Policy_Nonce b_Policy_Set b_Policy_Scripts b_Policy_Styles b_Policy_Images b_Policy_Nonce fun b2 =>
    br (!b2) (
      k false) (
      F163 _ a_Tok_Rest b_Tok_Rest fun b3 =>
      br (!b3) (
        k false) (
        F164 _ a_Queue b_Queue fun b4 =>
        br (!b4) (
          k false) (
          br (!(a_Ended == b_Ended)) (
            k false) (
            F165 _ a_Builder_Nodes a_Builder_Open b_Builder_Nodes b_Builder_Open fun b5 =>
            br (!b5) (
              k false) (
              F166 _ a_Slots b_Slots fun b6 =>
              br (!b6) (
                k false) (
                F167 _ a_Mods b_Mods fun b7 =>
                br (!b7) (
                  k false) (
                  F43 _ a_Entries b_Entries fun b8 =>
                  br (!b8) (
                    k false) (
                    br (a_Block != b_Block) (
                      k false) (
                      br (a_Inline != b_Inline) (
                        k false) (
                        br (a_Deferred != b_Deferred) (
                          k false) (
                          br (a_Entered != b_Entered) (
                            k false) (
                            F43 _ a_Ran b_Ran fun b9 =>
                            br (!b9) (
                              k false) (
                              F37 _ a_Log b_Log fun b10 =>
                              br (!b10) (
                                k false) (
                                br (!(a_Loaded == b_Loaded)) (
                                  k false) (
                                  k true))))))))))))))))
noncomputable def F133 : T133 := P133 F86 F162 F163 F164 F165 F166 F167 F43 F37 
abbrev s133 : List (Bool × List CK) := [(true, [.str, .str, .bool, .sl 1 true, .sl 1 true, .sl 1 true, .str, .str, .sl 4 false, .bool, .sl 4 false, .sl 1 true, .sl 8 true, .sl 5 true, .sl 2 true, .int .i64, .int .i64, .int .i64, .int .i64, .sl 2 true, .sl 1 true, .bool]), (true, [.str, .str, .bool, .sl 1 true, .sl 1 true, .sl 1 true, .str, .str, .sl 4 false, .bool, .sl 4 false, .sl 1 true, .sl 8 true, .sl 5 true, .sl 2 true, .int .i64, .int .i64, .int .i64, .int .i64, .sl 2 true, .sl 1 true, .bool])]
noncomputable def G133 (F : T133) (β : Type) (e : (List UInt8 × List UInt8 × Bool × List V × List V × List V × List UInt8 × List UInt8 × List V × Bool × List V × List V × List V × List V × List V × Int × Int × Int × Int × List V × List V × Bool × Unit) × (List UInt8 × List UInt8 × Bool × List V × List V × List V × List UInt8 × List UInt8 × List V × Bool × List V × List V × List V × List V × List V × Int × Int × Int × Int × List V × List V × Bool × Unit) × Unit) (k : V → Option β) : Option β := F β e.1.1 e.1.2.1 e.1.2.2.1 e.1.2.2.2.1 e.1.2.2.2.2.1 e.1.2.2.2.2.2.1 e.1.2.2.2.2.2.2.1 e.1.2.2.2.2.2.2.2.1 e.1.2.2.2.2.2.2.2.2.1 e.1.2.2.2.2.2.2.2.2.2.1 e.1.2.2.2.2.2.2.2.2.2.2.1 e.1.2.2.2.2.2.2.2.2.2.2.2.1 e.1.2.2.2.2.2.2.2.2.2.2.2.2.1 e.1.2.2.2.2.2.2.2.2.2.2.2.2.2.1 e.1.2.2.2.2.2.2.2.2.2.2.2.2.2.2.1 e.1.2.2.2.2.2.2.2.2.2.2.2.2.2.2.2.1 e.1.2.2.2.2.2.2.2.2.2.2.2.2.2.2.2.2.1 e.1.2.2.2.2.2.2.2.2.2.2.2.2.2.2.2.2.2.1 e.1.2.2.2.2.2.2.2.2.2.2.2.2.2.2.2.2.2.2.1 e.1.2.2.2.2.2.2.2.2.2.2.2.2.2.2.2.2.2.2.2.1 e.1.2.2.2.2.2.2.2.2.2.2.2.2.2.2.2.2.2.2.2.2.1 e.1.2.2.2.2.2.2.2.2.2.2.2.2.2.2.2.2.2.2.2.2.2.1 e.2.1.1 e.2.1.2.1 e.2.1.2.2.1 e.2.1.2.2.2.1 e.2.1.2.2.2.2.1 e.2.1.2.2.2.2.2.1 e.2.1.2.2.2.2.2.2.1 e.2.1.2.2.2.2.2.2.2.1 e.2.1.2.2.2.2.2.2.2.2.1 e.2.1.2.2.2.2.2.2.2.2.2.1 e.2.1.2.2.2.2.2.2.2.2.2.2.1 e.2.1.2.2.2.2.2.2.2.2.2.2.2.1 e.2.1.2.2.2.2.2.2.2.2.2.2.2.2.1 e.2.1.2.2.2.2.2.2.2.2.2.2.2.2.2.1 e.2.1.2.2.2.2.2.2.2.2.2.2.2.2.2.2.1 e.2.1.2.2.2.2.2.2.2.2.2.2.2.2.2.2.2.1 e.2.1.2.2.2.2.2.2.2.2.2.2.2.2.2.2.2.2.1 e.2.1.2.2.2.2.2.2.2.2.2.2.2.2.2.2.2.2.2.1 e.2.1.2.2.2.2.2.2.2.2.2.2.2.2.2.2.2.2.2.2.1 e.2.1.2.2.2.2.2.2.2.2.2.2.2.2.2.2.2.2.2.2.2.1 e.2.1.2.2.2.2.2.2.2.2.2.2.2.2.2.2.2.2.2.2.2.2.1 e.2.1.2.2.2.2.2.2.2.2.2.2.2.2.2.2.2.2.2.2.2.2.2.1 (fun y1 => k (.bool y1))
noncomputable abbrev W133 (F : T133) : (β : Type) → List V → (V → Option β) → Option β := wrap s133 (G133 F)
theorem k133 (F86 : T86) (F162 : T162) (F163 : T163) (F164 : T164) (F165 : T165) (F166 : T166) (F167 : T167) (F43 : T43) (F37 : T37) (β : Type) (e : argsT s133) (k : V → Option β) : fnK cfg (tabL [(86, W86 F86), (162, W162 F162), (163, W163 F163), (164, W164 F164), (165, W165 F165), (166, W166 F166), (167, W167 F167), (43, W43 F43), (37, W37 F37)]) noX 133 Try.f133 β (argsEnc s133 e) k = G133 (P133 F86 F162 F163 F164 F165 F166 F167 F43 F37 ) β e k := by kernel_rfl
theorem ok133 : FnOk D 133 (W133 F133) := fn_okW [(86, W86 F86), (162, W162 F162), (163, W163 F163), (164, W164 F164), (165, W165 F165), (166, W166 F166), (167, W167 F167), (43, W43 F43), (37, W37 F37)] noX (fun _ => rfl) Try.func133 rfl (tabL_cons ok86 (tabL_cons ok162 (tabL_cons ok163 (tabL_cons ok164 (tabL_cons ok165 (tabL_cons ok166 (tabL_cons ok167 (tabL_cons ok43 (tabL_cons ok37 tabL_nil))))))))) (k133 F86 F162 F163 F164 F165 F166 F167 F43 F37 )

/-- laws.eqVisit -/
abbrev T104 : Type 1 := (β : Type) → List UInt8 → List UInt8 → List UInt8 → List UInt8 → Bool → List V → List V → List V → List UInt8 → List UInt8 → List V → Bool → List V → List V → List V → List V → List V → Int → Int → Int → Int → List V → List V → Bool → Bool → List UInt8 → List UInt8 → List UInt8 → List UInt8 → Bool → List V → List V → List V → List UInt8 → List UInt8 → List V → Bool → List V → List V → List V → List V → List V → Int → Int → Int → Int → List V → List V → Bool → Bool → (Bool → Option β) → Option β
noncomputable def P104 (F86 : T86) (F133 : T133) : T104 := fun β a_Addr_Host a_Addr_Path a_Page_Addr_Host a_Page_Addr_Path a_Page_Policy_Set a_Page_Policy_Scripts a_Page_Policy_Styles a_Page_Policy_Images a_Page_Policy_Nonce a_Page_Tok_Rest a_Page_Queue a_Page_Ended a_Page_Builder_Nodes a_Page_Builder_Open a_Page_Slots a_Page_Mods a_Page_Entries a_Page_Block a_Page_Inline a_Page_Deferred a_Page_Entered a_Page_Ran a_Page_Log a_Page_Loaded a_Kept b_Addr_Host b_Addr_Path b_Page_Addr_Host b_Page_Addr_Path b_Page_Policy_Set b_Page_Policy_Scripts b_Page_Policy_Styles b_Page_Policy_Images b_Page_Policy_Nonce b_Page_Tok_Rest b_Page_Queue b_Page_Ended b_Page_Builder_Nodes b_Page_Builder_Open b_Page_Slots b_Page_Mods b_Page_Entries b_Page_Block b_Page_Inline b_Page_Deferred b_Page_Entered b_Page_Ran b_Page_Log b_Page_Loaded b_Kept k =>
  F86 _ a_Addr_Host a_Addr_Path b_Addr_Host b_Addr_Path fun b1 =>
  br (!b1) (
    k false) (
    F133 _ a_Page_Addr_Host a_Page_Addr_Path a_Page_Policy_Set a_Page_Policy_Scripts a_Page_Policy_Styles a_Page_Policy_Images a_Page_Policy_Nonce a_Page_Tok_Rest a_Page_Queue a_Page_Ended a_Page_Builder_Nodes a_Page_Builder_Open a_Page_Slots a_Page_Mods a_Page_Entries a_Page_Block a_Page_Inline a_Page_Deferred a_Page_Entered a_Page_Ran a_Page_Log a_Page_Loaded b_Page_Addr_Host b_Page_Addr_Path b_Page_Policy_Set b_Page_Policy_Scripts b_Page_Policy_Styles b_Page_Policy_Images b_Page_Policy_Nonce b_Page_Tok_Rest b_Page_Queue b_Page_Ended b_Page_Builder_Nodes b_Page_Builder_Open b_Page_Slots b_Page_Mods b_Page_Entries b_Page_Block b_Page_Inline b_Page_Deferred b_Page_Entered b_Page_Ran b_Page_Log b_Page_Loaded fun b2 =>
    br (!b2) (
      k false) (
      br (!(a_Kept == b_Kept)) (
        k false) (
        k true)))
noncomputable def F104 : T104 := P104 F86 F133 
abbrev s104 : List (Bool × List CK) := [(true, [.str, .str, .str, .str, .bool, .sl 1 true, .sl 1 true, .sl 1 true, .str, .str, .sl 4 false, .bool, .sl 4 false, .sl 1 true, .sl 8 true, .sl 5 true, .sl 2 true, .int .i64, .int .i64, .int .i64, .int .i64, .sl 2 true, .sl 1 true, .bool, .bool]), (true, [.str, .str, .str, .str, .bool, .sl 1 true, .sl 1 true, .sl 1 true, .str, .str, .sl 4 false, .bool, .sl 4 false, .sl 1 true, .sl 8 true, .sl 5 true, .sl 2 true, .int .i64, .int .i64, .int .i64, .int .i64, .sl 2 true, .sl 1 true, .bool, .bool])]
noncomputable def G104 (F : T104) (β : Type) (e : (List UInt8 × List UInt8 × List UInt8 × List UInt8 × Bool × List V × List V × List V × List UInt8 × List UInt8 × List V × Bool × List V × List V × List V × List V × List V × Int × Int × Int × Int × List V × List V × Bool × Bool × Unit) × (List UInt8 × List UInt8 × List UInt8 × List UInt8 × Bool × List V × List V × List V × List UInt8 × List UInt8 × List V × Bool × List V × List V × List V × List V × List V × Int × Int × Int × Int × List V × List V × Bool × Bool × Unit) × Unit) (k : V → Option β) : Option β := F β e.1.1 e.1.2.1 e.1.2.2.1 e.1.2.2.2.1 e.1.2.2.2.2.1 e.1.2.2.2.2.2.1 e.1.2.2.2.2.2.2.1 e.1.2.2.2.2.2.2.2.1 e.1.2.2.2.2.2.2.2.2.1 e.1.2.2.2.2.2.2.2.2.2.1 e.1.2.2.2.2.2.2.2.2.2.2.1 e.1.2.2.2.2.2.2.2.2.2.2.2.1 e.1.2.2.2.2.2.2.2.2.2.2.2.2.1 e.1.2.2.2.2.2.2.2.2.2.2.2.2.2.1 e.1.2.2.2.2.2.2.2.2.2.2.2.2.2.2.1 e.1.2.2.2.2.2.2.2.2.2.2.2.2.2.2.2.1 e.1.2.2.2.2.2.2.2.2.2.2.2.2.2.2.2.2.1 e.1.2.2.2.2.2.2.2.2.2.2.2.2.2.2.2.2.2.1 e.1.2.2.2.2.2.2.2.2.2.2.2.2.2.2.2.2.2.2.1 e.1.2.2.2.2.2.2.2.2.2.2.2.2.2.2.2.2.2.2.2.1 e.1.2.2.2.2.2.2.2.2.2.2.2.2.2.2.2.2.2.2.2.2.1 e.1.2.2.2.2.2.2.2.2.2.2.2.2.2.2.2.2.2.2.2.2.2.1 e.1.2.2.2.2.2.2.2.2.2.2.2.2.2.2.2.2.2.2.2.2.2.2.1 e.1.2.2.2.2.2.2.2.2.2.2.2.2.2.2.2.2.2.2.2.2.2.2.2.1 e.1.2.2.2.2.2.2.2.2.2.2.2.2.2.2.2.2.2.2.2.2.2.2.2.2.1 e.2.1.1 e.2.1.2.1 e.2.1.2.2.1 e.2.1.2.2.2.1 e.2.1.2.2.2.2.1 e.2.1.2.2.2.2.2.1 e.2.1.2.2.2.2.2.2.1 e.2.1.2.2.2.2.2.2.2.1 e.2.1.2.2.2.2.2.2.2.2.1 e.2.1.2.2.2.2.2.2.2.2.2.1 e.2.1.2.2.2.2.2.2.2.2.2.2.1 e.2.1.2.2.2.2.2.2.2.2.2.2.2.1 e.2.1.2.2.2.2.2.2.2.2.2.2.2.2.1 e.2.1.2.2.2.2.2.2.2.2.2.2.2.2.2.1 e.2.1.2.2.2.2.2.2.2.2.2.2.2.2.2.2.1 e.2.1.2.2.2.2.2.2.2.2.2.2.2.2.2.2.2.1 e.2.1.2.2.2.2.2.2.2.2.2.2.2.2.2.2.2.2.1 e.2.1.2.2.2.2.2.2.2.2.2.2.2.2.2.2.2.2.2.1 e.2.1.2.2.2.2.2.2.2.2.2.2.2.2.2.2.2.2.2.2.1 e.2.1.2.2.2.2.2.2.2.2.2.2.2.2.2.2.2.2.2.2.2.1 e.2.1.2.2.2.2.2.2.2.2.2.2.2.2.2.2.2.2.2.2.2.2.1 e.2.1.2.2.2.2.2.2.2.2.2.2.2.2.2.2.2.2.2.2.2.2.2.1 e.2.1.2.2.2.2.2.2.2.2.2.2.2.2.2.2.2.2.2.2.2.2.2.2.1 e.2.1.2.2.2.2.2.2.2.2.2.2.2.2.2.2.2.2.2.2.2.2.2.2.2.1 e.2.1.2.2.2.2.2.2.2.2.2.2.2.2.2.2.2.2.2.2.2.2.2.2.2.2.1 (fun y1 => k (.bool y1))
noncomputable abbrev W104 (F : T104) : (β : Type) → List V → (V → Option β) → Option β := wrap s104 (G104 F)
theorem k104 (F86 : T86) (F133 : T133) (β : Type) (e : argsT s104) (k : V → Option β) : fnK cfg (tabL [(86, W86 F86), (133, W133 F133)]) noX 104 Try.f104 β (argsEnc s104 e) k = G104 (P104 F86 F133 ) β e k := by kernel_rfl
theorem ok104 : FnOk D 104 (W104 F104) := fn_okW [(86, W86 F86), (133, W133 F133)] noX (fun _ => rfl) Try.func104 rfl (tabL_cons ok86 (tabL_cons ok133 tabL_nil)) (k104 F86 F133 )

/-- laws.eqVisitS -/
abbrev T73 : Type 1 := (β : Type) → List V → List V → (Bool → Option β) → Option β
noncomputable def P73 (F104 : T104) : T73 := fun β a b k =>
  br ((a.length : Int) != (b.length : Int)) (
    k false) (
    whileK (fun s1 =>
      br (decide ((lI s1 2) < ((lL s1 0).length : Int))) (
        chk (0 ≤ (lI s1 2)) <|
        idx true [.str, .str, .str, .str, .bool, .sl 1 true, .sl 1 true, .sl 1 true, .str, .str, .sl 4 false, .bool, .sl 4 false, .sl 1 true, .sl 8 true, .sl 5 true, .sl 2 true, .int .i64, .int .i64, .int .i64, .int .i64, .sl 2 true, .sl 1 true, .bool, .bool] (lL s1 0) ((lI s1 2).toNat) fun (e2 : List UInt8 × List UInt8 × List UInt8 × List UInt8 × Bool × List V × List V × List V × List UInt8 × List UInt8 × List V × Bool × List V × List V × List V × List V × List V × Int × Int × Int × Int × List V × List V × Bool × Bool × Unit) =>
        chk (0 ≤ (lI s1 2)) <|
        idx true [.str, .str, .str, .str, .bool, .sl 1 true, .sl 1 true, .sl 1 true, .str, .str, .sl 4 false, .bool, .sl 4 false, .sl 1 true, .sl 8 true, .sl 5 true, .sl 2 true, .int .i64, .int .i64, .int .i64, .int .i64, .sl 2 true, .sl 1 true, .bool, .bool] (lL s1 1) ((lI s1 2).toNat) fun (e3 : List UInt8 × List UInt8 × List UInt8 × List UInt8 × Bool × List V × List V × List V × List UInt8 × List UInt8 × List V × Bool × List V × List V × List V × List V × List V × Int × Int × Int × Int × List V × List V × Bool × Bool × Unit) =>
        F104 _ e2.1 e2.2.1 e2.2.2.1 e2.2.2.2.1 e2.2.2.2.2.1 e2.2.2.2.2.2.1 e2.2.2.2.2.2.2.1 e2.2.2.2.2.2.2.2.1 e2.2.2.2.2.2.2.2.2.1 e2.2.2.2.2.2.2.2.2.2.1 e2.2.2.2.2.2.2.2.2.2.2.1 e2.2.2.2.2.2.2.2.2.2.2.2.1 e2.2.2.2.2.2.2.2.2.2.2.2.2.1 e2.2.2.2.2.2.2.2.2.2.2.2.2.2.1 e2.2.2.2.2.2.2.2.2.2.2.2.2.2.2.1 e2.2.2.2.2.2.2.2.2.2.2.2.2.2.2.2.1 e2.2.2.2.2.2.2.2.2.2.2.2.2.2.2.2.2.1 e2.2.2.2.2.2.2.2.2.2.2.2.2.2.2.2.2.2.1 e2.2.2.2.2.2.2.2.2.2.2.2.2.2.2.2.2.2.2.1 e2.2.2.2.2.2.2.2.2.2.2.2.2.2.2.2.2.2.2.2.1 e2.2.2.2.2.2.2.2.2.2.2.2.2.2.2.2.2.2.2.2.2.1 e2.2.2.2.2.2.2.2.2.2.2.2.2.2.2.2.2.2.2.2.2.2.1 e2.2.2.2.2.2.2.2.2.2.2.2.2.2.2.2.2.2.2.2.2.2.2.1 e2.2.2.2.2.2.2.2.2.2.2.2.2.2.2.2.2.2.2.2.2.2.2.2.1 e2.2.2.2.2.2.2.2.2.2.2.2.2.2.2.2.2.2.2.2.2.2.2.2.2.1 e3.1 e3.2.1 e3.2.2.1 e3.2.2.2.1 e3.2.2.2.2.1 e3.2.2.2.2.2.1 e3.2.2.2.2.2.2.1 e3.2.2.2.2.2.2.2.1 e3.2.2.2.2.2.2.2.2.1 e3.2.2.2.2.2.2.2.2.2.1 e3.2.2.2.2.2.2.2.2.2.2.1 e3.2.2.2.2.2.2.2.2.2.2.2.1 e3.2.2.2.2.2.2.2.2.2.2.2.2.1 e3.2.2.2.2.2.2.2.2.2.2.2.2.2.1 e3.2.2.2.2.2.2.2.2.2.2.2.2.2.2.1 e3.2.2.2.2.2.2.2.2.2.2.2.2.2.2.2.1 e3.2.2.2.2.2.2.2.2.2.2.2.2.2.2.2.2.1 e3.2.2.2.2.2.2.2.2.2.2.2.2.2.2.2.2.2.1 e3.2.2.2.2.2.2.2.2.2.2.2.2.2.2.2.2.2.2.1 e3.2.2.2.2.2.2.2.2.2.2.2.2.2.2.2.2.2.2.2.1 e3.2.2.2.2.2.2.2.2.2.2.2.2.2.2.2.2.2.2.2.2.1 e3.2.2.2.2.2.2.2.2.2.2.2.2.2.2.2.2.2.2.2.2.2.1 e3.2.2.2.2.2.2.2.2.2.2.2.2.2.2.2.2.2.2.2.2.2.2.1 e3.2.2.2.2.2.2.2.2.2.2.2.2.2.2.2.2.2.2.2.2.2.2.2.1 e3.2.2.2.2.2.2.2.2.2.2.2.2.2.2.2.2.2.2.2.2.2.2.2.2.1 fun b4 =>
        br (!b4) (
          some (.inr (0, [.b false]))) (
          some (.inl [.l (lL s1 0), .l (lL s1 1), .i (IntKind.wrap .i64 ((lI s1 2) + 1))]))) (
        some (.inr (1, [])))) [.l a, .l b, .i 0] fun (r5 : Nat × List Leaf) =>
    if r5.1 = 0 then
      k (lB r5.2 0)
    else
      k true)
noncomputable def F73 : T73 := P73 F104 
def X73 : Exits := fun i => lookN i [] [(4, [(.ret, xk 27 [(4, .bool false)] []), (.exit 0, xk 27 [] [])])]
abbrev s73 : List (Bool × List CK) := [(false, [.sl 25 false]), (false, [.sl 25 false])]
noncomputable def G73 (F : T73) (β : Type) (e : (List V × Unit) × (List V × Unit) × Unit) (k : V → Option β) : Option β := F β e.1.1 e.2.1.1 (fun y1 => k (.bool y1))
noncomputable abbrev W73 (F : T73) : (β : Type) → List V → (V → Option β) → Option β := wrap s73 (G73 F)
theorem k73 (F104 : T104) (β : Type) (e : argsT s73) (k : V → Option β) : fnK cfg (tabL [(104, W104 F104)]) X73 73 Try.f73 β (argsEnc s73 e) k = G73 (P73 F104 ) β e k := by kernel_rfl
theorem ok73 : FnOk D 73 (W73 F73) := fn_okW [(104, W104 F104)] X73 (fun _ => rfl) Try.func73 rfl (tabL_cons ok104 tabL_nil) (k73 F104 )

/-- laws.eqTab -/
abbrev T32 : Type 1 := (β : Type) → List V → Int → List V → Int → (Bool → Option β) → Option β
noncomputable def P32 (F73 : T73) : T32 := fun β a_Visits a_At b_Visits b_At k =>
  F73 _ a_Visits b_Visits fun b1 =>
  br (!b1) (
    k false) (
    br (a_At != b_At) (
      k false) (
      k true))
noncomputable def F32 : T32 := P32 F73 
abbrev s32 : List (Bool × List CK) := [(true, [.sl 25 false, .int .i64]), (true, [.sl 25 false, .int .i64])]
noncomputable def G32 (F : T32) (β : Type) (e : (List V × Int × Unit) × (List V × Int × Unit) × Unit) (k : V → Option β) : Option β := F β e.1.1 e.1.2.1 e.2.1.1 e.2.1.2.1 (fun y1 => k (.bool y1))
noncomputable abbrev W32 (F : T32) : (β : Type) → List V → (V → Option β) → Option β := wrap s32 (G32 F)
theorem k32 (F73 : T73) (β : Type) (e : argsT s32) (k : V → Option β) : fnK cfg (tabL [(73, W73 F73)]) noX 32 Try.f32 β (argsEnc s32 e) k = G32 (P32 F73 ) β e k := by kernel_rfl
theorem ok32 : FnOk D 32 (W32 F32) := fn_okW [(73, W73 F73)] noX (fun _ => rfl) Try.func32 rfl (tabL_cons ok73 tabL_nil) (k32 F73 )

/-- laws.FnExactFormatTab -/
abbrev T8 : Type 1 := (β : Type) → List V → Int → (Bool → Option β) → Option β
noncomputable def P8 (F28 : T28) (F30 : T30) (F33 : T33) (F34 : T34) (F32 : T32) : T8 := fun β aT_Visits aT_At k =>
  F28 _ aT_Visits aT_At 1048576 fun n1 =>
  br (decide (n1 < 0)) (
    k true) (
    F30 _ aT_Visits aT_At fun l2 n3 =>
    F33 _ l2 n3 fun t4 =>
    F30 _ aT_Visits aT_At fun l5 n6 =>
    F34 _ l5 n6 fun t7 =>
    br (!(t7 == t4)) (
      k false) (
      F30 _ aT_Visits aT_At fun l8 n9 =>
      F32 _ l5 n6 l8 n9 fun b10 =>
      br (!b10) (
        k false) (
        k true)))
noncomputable def F8 : T8 := P8 F28 F30 F33 F34 F32 
abbrev s8 : List (Bool × List CK) := [(true, [.sl 25 false, .int .i64])]
noncomputable def G8 (F : T8) (β : Type) (e : (List V × Int × Unit) × Unit) (k : V → Option β) : Option β := F β e.1.1 e.1.2.1 (fun y1 => k (.bool y1))
noncomputable abbrev W8 (F : T8) : (β : Type) → List V → (V → Option β) → Option β := wrap s8 (G8 F)
theorem k8 (F28 : T28) (F30 : T30) (F33 : T33) (F34 : T34) (F32 : T32) (β : Type) (e : argsT s8) (k : V → Option β) : fnK cfg (tabL [(28, W28 F28), (30, W30 F30), (33, W33 F33), (34, W34 F34), (32, W32 F32)]) noX 8 Try.f8 β (argsEnc s8 e) k = G8 (P8 F28 F30 F33 F34 F32 ) β e k := by kernel_rfl
theorem ok8 : FnOk D 8 (W8 F8) := fn_okW [(28, W28 F28), (30, W30 F30), (33, W33 F33), (34, W34 F34), (32, W32 F32)] noX (fun _ => rfl) Try.func8 rfl (tabL_cons ok28 (tabL_cons ok30 (tabL_cons ok33 (tabL_cons ok34 (tabL_cons ok32 tabL_nil))))) (k8 F28 F30 F33 F34 F32 )

end Go.Am

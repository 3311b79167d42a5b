/-
  Functions of the program, extracted by program (sym.py) out of their code: what each computes, and, by the kernel's reckoning, that the machine's looking form computes just that; so what the machine answers.
-/
import Derived.Test.YtdalkeoadcnneaaAmCfg
import Derived.Test.YtdalkeoadcnneaaAmEvOk2
import Derived.KernelRfl
set_option maxRecDepth 10000
set_option linter.unusedVariables false
namespace Go.Am
open Go Go.Proofs
noncomputable section
abbrev WT : Type 1 := (β : Type) → List V → (V → Option β) → Option β
/-- spec.l35Seed -/
abbrev T12 : Type 1 := (β : Type) → Int → (Int → Option β) → Option β
def P12 : T12 := fun β seed k =>
 br (decide (seed < 0)) (
 k 0) (
 k (Int.tmod seed 1000))
def F12 : T12 := P12 
abbrev s12 : List (Bool × List CK) := [(false, [.int .i64])]
def G12 (F : T12) (β : Type) (e : (Int × Unit) × Unit) (k : V → Option β) : Option β := F β e.1.1 (fun y1 => k (.int .i64 y1))
abbrev W12 (F : T12) : WT := wrap s12 (G12 F)
theorem k12 (β : Type) (e : argsT s12) (k : V → Option β) : fnK cfg (tabL []) noX 12 Try.f12 β (argsEnc s12 e) k = G12 (P12 ) β e k := by kernel_rfl
theorem ok12 : FnOk D 12 (W12 F12) := fn_okW [] noX (fun _ => rfl) Try.func12 rfl (tabL_nil) (k12 )
theorem okd12 : FnOk D1 12 (W12 F12) := fn_okW [] noX (fun _ => rfl) Try.func12 rfl (tabL_nil) (k12 )

/-- spec.CutsOf -/
abbrev T5 : Type 1 := (β : Type) → Int → (List V → Option β) → Option β
def P5 (F12 : T12) : T5 := fun β seed k =>
 F12 _ seed fun n1 =>
 k [.int .i64 (IntKind.wrap .i64 (1 + (Int.tmod n1 40))), .int .i64 (IntKind.wrap .i64 (2 + (Int.tmod n1 90))), .int .i64 (IntKind.wrap .i64 (3 + (Int.tmod n1 150)))]
def F5 : T5 := P5 F12 
abbrev s5 : List (Bool × List CK) := [(false, [.int .i64])]
def G5 (F : T5) (β : Type) (e : (Int × Unit) × Unit) (k : V → Option β) : Option β := F β e.1.1 (fun y1 => k (.own 0 1 .flat y1))
abbrev W5 (F : T5) : WT := wrap s5 (G5 F)
theorem k5 (F12 : T12) (β : Type) (e : argsT s5) (k : V → Option β) : fnK cfg (tabL [(12, W12 F12)]) noX 5 Try.f5 β (argsEnc s5 e) k = G5 (P5 F12 ) β e k := by kernel_rfl
theorem ok5 : FnOk D 5 (W5 F5) := fn_okW [(12, W12 F12)] noX (fun _ => rfl) Try.func5 rfl (tabL_cons ok12 tabL_nil) (k5 F12 )
theorem okd5 : FnOk D1 5 (W5 F5) := fn_okW [(12, W12 F12)] noX (fun _ => rfl) Try.func5 rfl (tabL_cons okd12 tabL_nil) (k5 F12 )

/-- impl.seedOf -/
abbrev T13 : Type 1 := (β : Type) → Int → (Int → Option β) → Option β
def P13 : T13 := fun β seed k =>
 br (decide (seed < 0)) (
 k 0) (
 k (Int.tmod seed 1000))
def F13 : T13 := P13 
abbrev s13 : List (Bool × List CK) := [(false, [.int .i64])]
def G13 (F : T13) (β : Type) (e : (Int × Unit) × Unit) (k : V → Option β) : Option β := F β e.1.1 (fun y1 => k (.int .i64 y1))
abbrev W13 (F : T13) : WT := wrap s13 (G13 F)
theorem k13 (β : Type) (e : argsT s13) (k : V → Option β) : fnK cfg (tabL []) noX 13 Try.f13 β (argsEnc s13 e) k = G13 (P13 ) β e k := by kernel_rfl
theorem ok13 : FnOk D 13 (W13 F13) := fn_okW [] noX (fun _ => rfl) Try.func13 rfl (tabL_nil) (k13 )
theorem okd13 : FnOk D1 13 (W13 F13) := fn_okW [] noX (fun _ => rfl) Try.func13 rfl (tabL_nil) (k13 )

/-- impl.CutsOf -/
abbrev T6 : Type 1 := (β : Type) → Int → (List V → Option β) → Option β
def P6 (F13 : T13) : T6 := fun β seed k =>
 F13 _ seed fun n1 =>
 k [.int .i64 (IntKind.wrap .i64 (1 + (Int.tmod n1 40))), .int .i64 (IntKind.wrap .i64 (2 + (Int.tmod n1 90))), .int .i64 (IntKind.wrap .i64 (3 + (Int.tmod n1 150)))]
def F6 : T6 := P6 F13 
abbrev s6 : List (Bool × List CK) := [(false, [.int .i64])]
def G6 (F : T6) (β : Type) (e : (Int × Unit) × Unit) (k : V → Option β) : Option β := F β e.1.1 (fun y1 => k (.own 0 1 .flat y1))
abbrev W6 (F : T6) : WT := wrap s6 (G6 F)
theorem k6 (F13 : T13) (β : Type) (e : argsT s6) (k : V → Option β) : fnK cfg (tabL [(13, W13 F13)]) noX 6 Try.f6 β (argsEnc s6 e) k = G6 (P6 F13 ) β e k := by kernel_rfl
theorem ok6 : FnOk D 6 (W6 F6) := fn_okW [(13, W13 F13)] noX (fun _ => rfl) Try.func6 rfl (tabL_cons ok13 tabL_nil) (k6 F13 )
theorem okd6 : FnOk D1 6 (W6 F6) := fn_okW [(13, W13 F13)] noX (fun _ => rfl) Try.func6 rfl (tabL_cons okd13 tabL_nil) (k6 F13 )

/-- laws.eqIntS -/
abbrev T7 : Type 1 := (β : Type) → List V → List V → (Bool → Option β) → Option β
def P7 : T7 := fun β a b k =>
 br ((a.length : Int) != (b.length : Int)) (
 k false) (
 whileK (fun s1 =>
 br (decide ((lI s1 2) < ((lL s1 0).length : Int))) (
 chk (0 ≤ (lI s1 2)) <|
 idx false [.int .i64] (lL s1 0) ((lI s1 2).toNat) fun (e2 : Int × Unit) =>
 chk (0 ≤ (lI s1 2)) <|
 idx false [.int .i64] (lL s1 1) ((lI s1 2).toNat) fun (e3 : Int × Unit) =>
 br (e2.1 != e3.1) (
 some (.inr (0, [.b false]))) (
 some (.inl [.l (lL s1 0), .l (lL s1 1), .i (IntKind.wrap .i64 ((lI s1 2) + 1))]))) (
 some (.inr (1, [])))) [.l a, .l b, .i 0] fun (r4 : Nat × List Leaf) =>
 if r4.1 = 0 then
 k (lB r4.2 0)
 else
 k true)
def F7 : T7 := P7 
def X7 : Exits := fun i => lookN i [] [(4, [(.ret, xk 26 [(4, .bool false)] []), (.exit 0, xk 26 [] [])])]
abbrev s7 : List (Bool × List CK) := [(false, [.sl 1 true]), (false, [.sl 1 true])]
def G7 (F : T7) (β : Type) (e : (List V × Unit) × (List V × Unit) × Unit) (k : V → Option β) : Option β := F β e.1.1 e.2.1.1 (fun y1 => k (.bool y1))
abbrev W7 (F : T7) : WT := wrap s7 (G7 F)
theorem k7 (β : Type) (e : argsT s7) (k : V → Option β) : fnK cfg (tabL []) X7 7 Try.f7 β (argsEnc s7 e) k = G7 (P7 ) β e k := by kernel_rfl
theorem ok7 : FnOk D 7 (W7 F7) := fn_okW [] X7 (fun _ => rfl) Try.func7 rfl (tabL_nil) (k7 )
theorem okd7 : FnOk D1 7 (W7 F7) := fn_okW [] X7 (fun _ => rfl) Try.func7 rfl (tabL_nil) (k7 )

/-- laws.heldIntS -/
abbrev T9 : Type 1 := (β : Type) → List V → Int → (Int → Option β) → Option β
def P9 : T9 := fun β a xk k =>
 whileK (fun s1 =>
 br (decide ((lI s1 2) < ((lL s1 0).length : Int))) (
 chk (0 ≤ (lI s1 2)) <|
 idx false [.int .i64] (lL s1 0) ((lI s1 2).toNat) fun (e2 : Int × Unit) =>
 br (e2.1 != (lI s1 1)) (
 some (.inr (0, [.i (lI s1 1), .i (-1)]))) (
 some (.inl [.l (lL s1 0), .i (IntKind.wrap .i64 ((lI s1 1) + 1)), .i (IntKind.wrap .i64 ((lI s1 2) + 1))]))) (
 some (.inr (1, [.i (lI s1 1)])))) [.l a, .i xk, .i 0] fun (r3 : Nat × List Leaf) =>
 if r3.1 = 0 then
 k (lI r3.2 1)
 else
 k (lI r3.2 0)
def F9 : T9 := P9 
def X9 : Exits := fun i => lookN i [] [(2, [(.ret, xk 21 [(1, .int .i64 0), (4, .int .i64 0)] []), (.exit 0, xk 21 [(1, .int .i64 0)] [])])]
abbrev s9 : List (Bool × List CK) := [(false, [.sl 1 true]), (false, [.int .i64])]
def G9 (F : T9) (β : Type) (e : (List V × Unit) × (Int × Unit) × Unit) (k : V → Option β) : Option β := F β e.1.1 e.2.1.1 (fun y1 => k (.int .i64 y1))
abbrev W9 (F : T9) : WT := wrap s9 (G9 F)
theorem k9 (β : Type) (e : argsT s9) (k : V → Option β) : fnK cfg (tabL []) X9 9 Try.f9 β (argsEnc s9 e) k = G9 (P9 ) β e k := by kernel_rfl
theorem ok9 : FnOk D 9 (W9 F9) := fn_okW [] X9 (fun _ => rfl) Try.func9 rfl (tabL_nil) (k9 )
theorem okd9 : FnOk D1 9 (W9 F9) := fn_okW [] X9 (fun _ => rfl) Try.func9 rfl (tabL_nil) (k9 )

/-- laws.FnExactCutsOf -/
abbrev T3 : Type 1 := (β : Type) → Int → (Bool → Option β) → Option β
def F3 : T3 := mark1K
abbrev s3 : List (Bool × List CK) := [(false, [.int .i64])]
def G3 (F : T3) (β : Type) (e : (Int × Unit) × Unit) (k : V → Option β) : Option β := F β e.1.1 (fun y1 => k (.bool y1))
abbrev W3 (F : T3) : WT := wrap s3 (G3 F)
theorem ok3 : FnOk D 3 (W3 F3) := ok_mark1 (fun _ => rfl)

/-- spec.ChoicesOf -/
abbrev T10 : Type 1 := (β : Type) → Int → (List V → Option β) → Option β
def P10 (F12 : T12) : T10 := fun β seed k =>
 F12 _ seed fun n1 =>
 whileK (fun s2 =>
 br (decide ((lI s2 2) < 24)) (
 chk (((lL s2 1).length + ([.int .i64 (Int.tmod (IntKind.wrap .i64 ((IntKind.wrap .i64 ((IntKind.wrap .i64 ((lI s2 0) * 7)) + (IntKind.wrap .i64 ((IntKind.wrap .i64 (3 * (lI s2 2))) * (lI s2 2))))) + (lI s2 2))) 5)] : List V).length) * 8 ≤ 140737488355328 ∧ (lL s2 1).length + ([.int .i64 (Int.tmod (IntKind.wrap .i64 ((IntKind.wrap .i64 ((IntKind.wrap .i64 ((lI s2 0) * 7)) + (IntKind.wrap .i64 ((IntKind.wrap .i64 (3 * (lI s2 2))) * (lI s2 2))))) + (lI s2 2))) 5)] : List V).length ≤ 140737488355328) <|
 some (.inl [.i (lI s2 0), .l ((lL s2 1) ++ ([.int .i64 (Int.tmod (IntKind.wrap .i64 ((IntKind.wrap .i64 ((IntKind.wrap .i64 ((lI s2 0) * 7)) + (IntKind.wrap .i64 ((IntKind.wrap .i64 (3 * (lI s2 2))) * (lI s2 2))))) + (lI s2 2))) 5)] : List V)), .i (IntKind.wrap .i64 ((lI s2 2) + 1))])) (
 some (.inr (0, [.l (lL s2 1)])))) [.i n1, .l [], .i 0] fun (r3 : Nat × List Leaf) =>
 k (lL r3.2 0)
def F10 : T10 := P10 F12 
def X10 : Exits := fun i => lookN i [] [(4, [(.exit 0, xk 27 [(4, .own 1000000 1 .flat [])] [])])]
abbrev s10 : List (Bool × List CK) := [(false, [.int .i64])]
def G10 (F : T10) (β : Type) (e : (Int × Unit) × Unit) (k : V → Option β) : Option β := F β e.1.1 (fun y1 => k (.own 0 1 .flat y1))
abbrev W10 (F : T10) : WT := wrap s10 (G10 F)
theorem k10 (F12 : T12) (β : Type) (e : argsT s10) (k : V → Option β) : fnK cfg (tabL [(12, W12 F12)]) X10 10 Try.f10 β (argsEnc s10 e) k = G10 (P10 F12 ) β e k := by kernel_rfl
theorem ok10 : FnOk D 10 (W10 F10) := fn_okW [(12, W12 F12)] X10 (fun _ => rfl) Try.func10 rfl (tabL_cons ok12 tabL_nil) (k10 F12 )
theorem okd10 : FnOk D1 10 (W10 F10) := fn_okW [(12, W12 F12)] X10 (fun _ => rfl) Try.func10 rfl (tabL_cons okd12 tabL_nil) (k10 F12 )

/-- impl.ChoicesOf -/
abbrev T11 : Type 1 := (β : Type) → Int → (List V → Option β) → Option β
def P11 (F13 : T13) : T11 := fun β seed k =>
 F13 _ seed fun n1 =>
 whileK (fun s2 =>
 br (decide ((lI s2 2) < 24)) (
 chk (((lL s2 1).length + ([.int .i64 (Int.tmod (IntKind.wrap .i64 ((IntKind.wrap .i64 ((IntKind.wrap .i64 ((lI s2 0) * 7)) + (IntKind.wrap .i64 ((IntKind.wrap .i64 (3 * (lI s2 2))) * (lI s2 2))))) + (lI s2 2))) 5)] : List V).length) * 8 ≤ 140737488355328 ∧ (lL s2 1).length + ([.int .i64 (Int.tmod (IntKind.wrap .i64 ((IntKind.wrap .i64 ((IntKind.wrap .i64 ((lI s2 0) * 7)) + (IntKind.wrap .i64 ((IntKind.wrap .i64 (3 * (lI s2 2))) * (lI s2 2))))) + (lI s2 2))) 5)] : List V).length ≤ 140737488355328) <|
 some (.inl [.i (lI s2 0), .l ((lL s2 1) ++ ([.int .i64 (Int.tmod (IntKind.wrap .i64 ((IntKind.wrap .i64 ((IntKind.wrap .i64 ((lI s2 0) * 7)) + (IntKind.wrap .i64 ((IntKind.wrap .i64 (3 * (lI s2 2))) * (lI s2 2))))) + (lI s2 2))) 5)] : List V)), .i (IntKind.wrap .i64 ((lI s2 2) + 1))])) (
 some (.inr (0, [.l (lL s2 1)])))) [.i n1, .l [], .i 0] fun (r3 : Nat × List Leaf) =>
 k (lL r3.2 0)
def F11 : T11 := P11 F13 
def X11 : Exits := fun i => lookN i [] [(4, [(.exit 0, xk 27 [(4, .own 1000000 1 .flat [])] [])])]
abbrev s11 : List (Bool × List CK) := [(false, [.int .i64])]
def G11 (F : T11) (β : Type) (e : (Int × Unit) × Unit) (k : V → Option β) : Option β := F β e.1.1 (fun y1 => k (.own 0 1 .flat y1))
abbrev W11 (F : T11) : WT := wrap s11 (G11 F)
theorem k11 (F13 : T13) (β : Type) (e : argsT s11) (k : V → Option β) : fnK cfg (tabL [(13, W13 F13)]) X11 11 Try.f11 β (argsEnc s11 e) k = G11 (P11 F13 ) β e k := by kernel_rfl
theorem ok11 : FnOk D 11 (W11 F11) := fn_okW [(13, W13 F13)] X11 (fun _ => rfl) Try.func11 rfl (tabL_cons ok13 tabL_nil) (k11 F13 )
theorem okd11 : FnOk D1 11 (W11 F11) := fn_okW [(13, W13 F13)] X11 (fun _ => rfl) Try.func11 rfl (tabL_cons okd13 tabL_nil) (k11 F13 )

/-- laws.FnExactChoicesOf -/
abbrev T4 : Type 1 := (β : Type) → Int → (Bool → Option β) → Option β
def F4 : T4 := mark1K
abbrev s4 : List (Bool × List CK) := [(false, [.int .i64])]
def G4 (F : T4) (β : Type) (e : (Int × Unit) × Unit) (k : V → Option β) : Option β := F β e.1.1 (fun y1 => k (.bool y1))
abbrev W4 (F : T4) : WT := wrap s4 (G4 F)
theorem ok4 : FnOk D 4 (W4 F4) := ok_mark1 (fun _ => rfl)

end
end Go.Am

/-
  Proved: Rows.FnExactFormatPageSaid: laws.FnExactFormatPage returns true for all arguments, and leaves what it was handed as it was.
-/
import Derived.Test.YtnbeddgenlinpaaDoorEd
import Derived.Test.YtnbeddgenlinpaaDoorAmOk
import Derived.Test.YtnbeddgenlinpaaDoorAmEq
import Derived.Test.YtnbeddgenlinpaaDoorAmMore
import Derived.Test.YtnbeddgenlinpaaDoorRows
import Derived.WalkKit
import Derived.ProofKit
import Derived.Lib.LaidU8
section
set_option linter.unusedVariables false
set_option linter.unusedSimpArgs false
namespace Go.Am
open Go
variable {β : Type}
/-- One round of the specification's FormatInt. -/
def fiBody : (List UInt8) × Int → Option (((List UInt8) × Int) ⊕ (List UInt8)) := fun (s1 : (List UInt8) × Int) => (
      br (s1.2 != 0) (
        br (decide (Int.tmod s1.2 10 < 0)) (
          chk ((strI [(IntKind.wrap .u8 (IntKind.wrap .i64 (48 + (IntKind.wrap .i64 (0 - (Int.tmod s1.2 10))))))]).length + s1.1.length ≤ 9223372036854775807) <|
          some (.inl (((strI [(IntKind.wrap .u8 (IntKind.wrap .i64 (48 + (IntKind.wrap .i64 (0 - (Int.tmod s1.2 10))))))]) ++ s1.1), (IntKind.wrap .i64 (Int.tdiv s1.2 10))))
        ) (
          chk ((strI [(IntKind.wrap .u8 (IntKind.wrap .i64 (48 + (Int.tmod s1.2 10))))]).length + s1.1.length ≤ 9223372036854775807) <|
          some (.inl (((strI [(IntKind.wrap .u8 (IntKind.wrap .i64 (48 + (Int.tmod s1.2 10))))]) ++ s1.1), (IntKind.wrap .i64 (Int.tdiv s1.2 10))))
        )
      ) (
        some (.inr s1.1)
      )
    : Option (((List UInt8) × Int) ⊕ (List UInt8)))
theorem digit_pos {d : Nat} (h : d < 10) : strI [(IntKind.wrap .u8 (IntKind.wrap .i64 (48 + (d : Int))))] = [UInt8.ofNat (48 + d)] := by
  have : d = 0 ∨ d = 1 ∨ d = 2 ∨ d = 3 ∨ d = 4 ∨ d = 5 ∨ d = 6 ∨ d = 7 ∨ d = 8 ∨ d = 9 := by omega
  rcases this with rfl | rfl | rfl | rfl | rfl | rfl | rfl | rfl | rfl | rfl <;> decide
theorem digit_neg {d : Nat} (h : d < 10) : strI [(IntKind.wrap .u8 (IntKind.wrap .i64 (48 + (IntKind.wrap .i64 (0 - (-(d : Int)))))))] = [UInt8.ofNat (48 + d)] := by
  have : d = 0 ∨ d = 1 ∨ d = 2 ∨ d = 3 ∨ d = 4 ∨ d = 5 ∨ d = 6 ∨ d = 7 ∨ d = 8 ∨ d = 9 := by omega
  rcases this with rfl | rfl | rfl | rfl | rfl | rfl | rfl | rfl | rfl | rfl <;> decide
theorem fi_round (u : Nat) (b : Bool) (s : List UInt8) (h0 : 0 < u) (hu : u ≤ 9223372036854775808) (hs : s.length ≤ 1000) :
    fiBody (s, if b then -(u : Int) else u) = some (.inl (UInt8.ofNat (48 + u % 10) :: s, if b then -((u / 10 : Nat) : Int) else ((u / 10 : Nat) : Int))) := by
  have hm : u % 10 < 10 := Nat.mod_lt _ (by decide)
  have hd : u / 10 ≤ 922337203685477580 := by omega
  cases b
  · simp only [Bool.false_eq_true, if_false]
    unfold fiBody
    have e0 : ((u : Int) != 0) = true := by simp; omega
    have e1 : Int.tmod (u : Int) 10 = ((u % 10 : Nat) : Int) := rfl
    have e2 : Int.tdiv (u : Int) 10 = ((u / 10 : Nat) : Int) := rfl
    simp only [e0, e1, e2, br_true]
    rw [decide_eq_false (by omega), br_false, digit_pos hm, chk_pos (by simp; omega), wrap_of (by omega) (by omega)]
    rfl
  · simp only [if_true]
    unfold fiBody
    have e0 : ((-(u : Int)) != 0) = true := by simp; omega
    have e1 : Int.tmod (-(u : Int)) 10 = -((u % 10 : Nat) : Int) := by rw [Int.neg_tmod]; rfl
    have e2 : Int.tdiv (-(u : Int)) 10 = -((u / 10 : Nat) : Int) := by rw [Int.neg_tdiv]; rfl
    simp only [e0, e1, e2, br_true]
    by_cases c : u % 10 = 0
    · rw [decide_eq_false (by omega), br_false, c]
      have := digit_pos (d := 0) (by decide)
      rw [show (48 + -((0 : Nat) : Int)) = 48 + ((0 : Nat) : Int) by rfl, this, chk_pos (by simp; omega), wrap_of (by omega) (by omega)]
      rfl
    · rw [decide_eq_true (by omega), br_true, digit_neg hm, chk_pos (by simp; omega), wrap_of (by omega) (by omega)]
      rfl
theorem dec_len (u : Nat) : ∀ k, u < 10 ^ (k + 1) → (Lib.decDigits u).length ≤ k + 1 := by
  intro k
  induction k generalizing u with
  | zero =>
    intro h
    rw [Lib.decDigits, dif_pos (by simpa using h)]
    simp
  | succ k ih =>
    intro h
    rw [Lib.decDigits]
    by_cases c : u < 10
    · rw [dif_pos c]; simp
    · rw [dif_neg c]
      have := ih (u / 10) (by rw [Nat.pow_succ] at h; omega)
      simp only [List.length_append, List.length_singleton]
      omega
theorem fi_loop (b : Bool) : ∀ (u : Nat) (s : List UInt8), u ≤ 9223372036854775808 → (u ≠ 0 → s.length + (Lib.decDigits u).length ≤ 1000) →
    whileE fiBody (s, if b then -(u : Int) else u) = some (if u = 0 then s else Lib.decDigits u ++ s) := by
  intro u
  induction u using Nat.strongRecOn with
  | _ u ih =>
    intro s hu hs
    unfold whileE
    rw [whileInf_step]
    by_cases h0 : u = 0
    · subst h0
      have : (if b then -((0 : Nat) : Int) else ((0 : Nat) : Int)) = 0 := by cases b <;> rfl
      rw [this]
      rfl
    · have hs := hs h0
      rw [fi_round u b s (by omega) hu (by omega)]
      show whileE fiBody (UInt8.ofNat (48 + u % 10) :: s, if b then -((u / 10 : Nat) : Int) else ((u / 10 : Nat) : Int)) = _
      have hlen : (Lib.decDigits (u / 10)).length ≤ 20 := dec_len _ 19 (by omega)
      have hs2 : s.length ≤ 999 := by
        have : 1 ≤ (Lib.decDigits u).length := by
          rw [Lib.decDigits]; split <;> simp
        omega
      rw [if_neg h0]
      by_cases c : u < 10
      · have e : u / 10 = 0 := by omega
        have hi := ih 0 (by omega) (UInt8.ofNat (48 + u % 10) :: s) (by omega) (fun h => absurd rfl h)
        rw [e, hi, if_pos rfl, Lib.decDigits, dif_pos c, show u % 10 = u by omega]
        rfl
      · have hl : (Lib.decDigits u).length = (Lib.decDigits (u / 10)).length + 1 := by
          conv => lhs; rw [Lib.decDigits, dif_neg c]
          simp
        have hi := ih (u / 10) (by omega) (UInt8.ofNat (48 + u % 10) :: s) (by omega) (fun _ => by simp only [List.length_cons]; omega)
        rw [hi, if_neg (by omega)]
        conv => rhs; rw [Lib.decDigits, dif_neg c]
        simp
theorem itoa_len {n : Int} (h1 : -9223372036854775808 ≤ n) (h2 : n ≤ 9223372036854775807) : (Lib.itoa n).length ≤ 21 := by
  unfold Lib.itoa
  split
  · have := dec_len n.natAbs 19 (by omega)
    simp only [List.length_cons]; omega
  · have := dec_len n.toNat 19 (by omega)
    omega
/-- The specification's FormatInt writes the numeral. -/
theorem spec_FormatInt {n : Int} (h1 : -9223372036854775808 ≤ n) (h2 : n ≤ 9223372036854775807) : sFormatInt n = some (Lib.itoa n) := by
  show br (n == 0) (some [48]) ((whileE fiBody ([], n)).bind fun (r4 : List UInt8) => br (decide (n < 0)) (chk (1 + r4.length ≤ 9223372036854775807) <| some ([45] ++ r4)) (some r4)) = _
  by_cases c : n = 0
  · subst c
    rw [show ((0 : Int) == 0) = true from rfl, br_true]
    unfold Lib.itoa
    rw [if_neg (by decide), Lib.decDigits, dif_pos (by decide)]
    rfl
  · rw [show (n == 0) = false by simpa using c, br_false]
    by_cases hn : n < 0
    · have hl := dec_len n.natAbs 19 (by omega)
      have := fi_loop true n.natAbs [] (by omega) (fun _ => by simp; omega)
      rw [show (if true = true then -((n.natAbs : Nat) : Int) else ((n.natAbs : Nat) : Int)) = n by rw [if_pos rfl]; omega, if_neg (by omega), List.append_nil] at this
      rw [this, Option.bind_some, decide_eq_true hn, br_true, chk_pos (by omega)]
      unfold Lib.itoa
      rw [if_pos hn]
      rfl
    · have hl := dec_len n.toNat 19 (by omega)
      have := fi_loop false n.toNat [] (by omega) (fun _ => by simp; omega)
      rw [show (if false = true then -((n.toNat : Nat) : Int) else ((n.toNat : Nat) : Int)) = n by rw [if_neg (by decide)]; omega, if_neg (by omega), List.append_nil] at this
      rw [this, Option.bind_some, decide_eq_false hn, br_false]
      unfold Lib.itoa
      rw [if_neg hn]
theorem impl_FormatInt {n : Int} (h1 : -9223372036854775808 ≤ n) (h2 : n ≤ 9223372036854775807) : iFormatInt n = some (Lib.itoa n) := by
  show (itoaE n).bind _ = _
  unfold itoaE
  rw [chk_pos ⟨h1, h2⟩]
  rfl
theorem ok_IsName (s : List UInt8) (h : okS s) : Ok (iIsName s) (fun b => b = true → s.length ≤ 8) := by
  unfold iIsName
  refine Ok.bind (Q1 := fun _ => True) (Ok.for h (fun _ _ => True) trivial (fun i x s _ _ => ?_) (fun _ _ => trivial)) (fun r _ _ => ?_)
  · exact Ok.br (fun _ => Ok.ret trivial) (fun _ => Ok.br (fun _ => Ok.ret trivial) (fun _ => Ok.ret trivial))
  · cases r with
    | inl r => exact Ok.ret (fun h => by cases h)
    | inr r => exact Ok.bind (Q1 := fun b => b = true → s.length ≤ 8) (Ok.br (fun _ => Ok.ret (fun h => by have := of_decide_eq_true h; omega)) (fun _ => Ok.ret (fun h => by cases h))) (fun r _ h => Ok.ret h)
theorem ok_IsAddr (a : TAddr) (h : a.ok) : Ok (iIsAddr a) (fun b => b = true → a.xHost.length ≤ 8 ∧ a.xPath.length ≤ 8) := by
  obtain ⟨h1, h2, _⟩ := h
  exact Ok.bind (ok_IsName _ h1) (fun r _ hr => Ok.br (fun e => Ok.bind (ok_IsName _ h2) (fun r _ hr2 => Ok.ret (fun e2 => ⟨hr e, hr2 e2⟩))) (fun _ => Ok.ret (fun h => by cases h)))
theorem ok_FormatAddr (a : TAddr) (h : a.ok) : Ok (iFormatAddr a) (fun r => r.length ≤ 17) := by
  refine Ok.bind (ok_IsAddr a h) (fun r _ hr => Ok.br (fun _ => Ok.ret (by simp)) (fun hb => ?_))
  obtain ⟨h1, h2⟩ := hr (by simpa using hb)
  exact Ok.chk (by omega) (Ok.chk (by simp; omega) (Ok.ret (by simp; omega)))
theorem eq_FormatPage (p : TPage) (h : p.ok) (hs : p.size ≤ 1048576) : ∃ r, sFormatPage p = some r ∧ iFormatPage p = some r := by
  have ha : p.xAddr.ok := h.1
  have s1 : p.xBuilder.xNodes.length ≤ 1048576 := by unfold TPage.size TBuilder.size at hs; omega
  have s2 : p.xSlots.length ≤ 1048576 := by unfold TPage.size at hs; omega
  have s3 : p.xMods.length ≤ 1048576 := by unfold TPage.size at hs; omega
  obtain ⟨f, f1, f2⟩ := ok_FormatAddr p.xAddr ha
  have b1 : -9223372036854775808 ≤ (p.xBuilder.xNodes.length : Int) := by omega
  have b2 : (p.xBuilder.xNodes.length : Int) ≤ 9223372036854775807 := by omega
  have c1 : -9223372036854775808 ≤ (p.xSlots.length : Int) := by omega
  have c2 : (p.xSlots.length : Int) ≤ 9223372036854775807 := by omega
  have d1 : -9223372036854775808 ≤ (p.xMods.length : Int) := by omega
  have d2 : (p.xMods.length : Int) ≤ 9223372036854775807 := by omega
  have l1 := itoa_len b1 b2
  have l2 := itoa_len c1 c2
  have l3 := itoa_len d1 d2
  have key : Ok (iFormatPage p) (fun _ => True) := by
    unfold iFormatPage
    refine Ok.bind (Ok.of (Q := fun r => r.length ≤ 17) f1 f2) (fun r1 _ hr1 => Ok.chk (by omega) (Ok.bind (Ok.of (Q := fun r => r.length ≤ 21) (impl_FormatInt b1 b2) l1) (fun r2 _ hr2 => Ok.chk (by simp; omega) (Ok.chk (by simp; omega) (Ok.bind (Ok.of (Q := fun r => r.length ≤ 21) (impl_FormatInt c1 c2) l2) (fun r3 _ hr3 => Ok.chk (by simp; omega) (Ok.chk (by simp; omega) (Ok.bind (Ok.of (Q := fun r => r.length ≤ 21) (impl_FormatInt d1 d2) l3) (fun r4 _ hr4 => Ok.chk (by simp; omega) (Ok.bind (Q1 := fun _ => True) (Ok.ret trivial) (fun r5 _ _ => Ok.br (fun _ => Ok.chk (by simp; omega) (Ok.ret trivial)) (fun _ => Ok.ret trivial))))))))))))
  obtain ⟨r, hr, _⟩ := key
  refine ⟨r, ?_, hr⟩
  rw [← hr]
  unfold sFormatPage iFormatPage
  rw [f1, show sFormatAddr p.xAddr = some f from f1, spec_FormatInt b1 b2, impl_FormatInt b1 b2, spec_FormatInt c1 c2, impl_FormatInt c1 c2, spec_FormatInt d1 d2, impl_FormatInt d1 d2]
  rfl
theorem le_FnExactFormatPage (p : TPage) (h : p.ok) : lFnExactFormatPage p = some true := by
  refine E_sz (n := p.size) (if_pos ⟨by omega, by omega, h⟩) (fun m hm h0 hle => ?_)
  have hs : p.size ≤ 1048576 := by omega
  obtain ⟨r, hr, hi⟩ := eq_FormatPage p h hs
  exact E_bind (if_pos hs) (E_bind hr (E_bind (if_pos hs) (E_bind hi (E_no (by simp) (E_bind (if_pos hs) (E_bind (if_pos h) (E_no (by simp) rfl)))))))
theorem law6 (a0 : TPage) (o0 : a0.ok) (k : Bool → Option β) : F6 β a0.xAddr.xHost a0.xAddr.xPath a0.xPolicy.xSet (rStr a0.xPolicy.xScripts) (rStr a0.xPolicy.xStyles) (rStr a0.xPolicy.xImages) a0.xPolicy.xNonce a0.xTok.xRest (rows kToken TToken.row a0.xQueue) a0.xEnded (rows kNode TNode.row a0.xBuilder.xNodes) (rInt a0.xBuilder.xOpen) (rows kSlot TSlot.row a0.xSlots) (rows kModule TModule.row a0.xMods) (rows kAddr TAddr.row a0.xEntries) a0.xBlock a0.xInline a0.xDeferred a0.xEntered (rows kAddr TAddr.row a0.xRan) (rStr a0.xLog) a0.xLoaded k = k true :=
  ei_lFnExactFormatPage a0 k true (le_FnExactFormatPage a0 o0)
end Go.Am
end
namespace Go.Proofs.YtnbeddgenlinpaaDoor.fnExactFormatPage
open Go Go.Am Go.ChangeShapes Go.WideShapes Go.ChangeAt Go.RowKit
set_option linter.unusedVariables false
set_option linter.unusedSimpArgs false
/-- A table as cells. -/
def litCells : DataW Unit → List Value
  | .agg xs => xs.map fun x => match x with | .lit (.int k z) => Value.int k z | _ => .nilIface
  | _ => []
theorem own : ownKnob Tryd.prog.godebug = none := by kernel_rfl
theorem told : ∀ vs, LawArgs Tryd.prog fl Tryd.f6.params.toList vs → D 6 vs = some (.bool true) := by
  intro vs h
  rw [Tryd.params6] at h
  have h0 : LawArgs Tryd.prog fl [69] vs := h
  clear h
  cases vs with
  | nil => exact h0.elim
  | cons v0 vs =>
  cases vs with
  | cons v vs => exact h0.2.elim
  | nil =>
    obtain ⟨n0, us0, c0, e0⟩ := h0.1
    obtain ⟨a0, o0, z0⟩ := Page_open c0
    rw [pack_struct Tryd.underlying69, z0] at e0
    subst e0
    obtain ⟨r, h3, h4⟩ := ok6 V [.agg [.str a0.xAddr.xHost, .str a0.xAddr.xPath, .bool a0.xPolicy.xSet, .sl 1 true (rStr a0.xPolicy.xScripts), .sl 1 true (rStr a0.xPolicy.xStyles), .sl 1 true (rStr a0.xPolicy.xImages), .str a0.xPolicy.xNonce, .str a0.xTok.xRest, .sl 4 false (rows kToken TToken.row a0.xQueue), .bool a0.xEnded, .sl 4 false (rows kNode TNode.row a0.xBuilder.xNodes), .sl 1 true (rInt a0.xBuilder.xOpen), .sl 8 true (rows kSlot TSlot.row a0.xSlots), .sl 5 true (rows kModule TModule.row a0.xMods), .sl 2 true (rows kAddr TAddr.row a0.xEntries), .int .i64 a0.xBlock, .int .i64 a0.xInline, .int .i64 a0.xDeferred, .int .i64 a0.xEntered, .sl 2 true (rows kAddr TAddr.row a0.xRan), .sl 1 true (rStr a0.xLog), .bool a0.xLoaded]] some (.bool true) (by
      show wrap s6 (G6 F6) V (argsEnc s6 ((a0.xAddr.xHost, a0.xAddr.xPath, a0.xPolicy.xSet, (rStr a0.xPolicy.xScripts), (rStr a0.xPolicy.xStyles), (rStr a0.xPolicy.xImages), a0.xPolicy.xNonce, a0.xTok.xRest, (rows kToken TToken.row a0.xQueue), a0.xEnded, (rows kNode TNode.row a0.xBuilder.xNodes), (rInt a0.xBuilder.xOpen), (rows kSlot TSlot.row a0.xSlots), (rows kModule TModule.row a0.xMods), (rows kAddr TAddr.row a0.xEntries), a0.xBlock, a0.xInline, a0.xDeferred, a0.xEntered, (rows kAddr TAddr.row a0.xRan), (rStr a0.xLog), a0.xLoaded, ()), ())) some = _
      unfold wrap
      rw [show argsDec s6 (argsEnc s6 ((a0.xAddr.xHost, a0.xAddr.xPath, a0.xPolicy.xSet, (rStr a0.xPolicy.xScripts), (rStr a0.xPolicy.xStyles), (rStr a0.xPolicy.xImages), a0.xPolicy.xNonce, a0.xTok.xRest, (rows kToken TToken.row a0.xQueue), a0.xEnded, (rows kNode TNode.row a0.xBuilder.xNodes), (rInt a0.xBuilder.xOpen), (rows kSlot TSlot.row a0.xSlots), (rows kModule TModule.row a0.xMods), (rows kAddr TAddr.row a0.xEntries), a0.xBlock, a0.xInline, a0.xDeferred, a0.xEntered, (rows kAddr TAddr.row a0.xRan), (rStr a0.xLog), a0.xLoaded, ()), ())) = some ((a0.xAddr.xHost, a0.xAddr.xPath, a0.xPolicy.xSet, (rStr a0.xPolicy.xScripts), (rStr a0.xPolicy.xStyles), (rStr a0.xPolicy.xImages), a0.xPolicy.xNonce, a0.xTok.xRest, (rows kToken TToken.row a0.xQueue), a0.xEnded, (rows kNode TNode.row a0.xBuilder.xNodes), (rInt a0.xBuilder.xOpen), (rows kSlot TSlot.row a0.xSlots), (rows kModule TModule.row a0.xMods), (rows kAddr TAddr.row a0.xEntries), a0.xBlock, a0.xInline, a0.xDeferred, a0.xEntered, (rows kAddr TAddr.row a0.xRan), (rStr a0.xLog), a0.xLoaded, ()), ()) from rfl]
      exact law6 a0 o0 _)
    rw [h3, h4]
noncomputable def laidWorld (os : Os) : World :=
  { World.holding Tryd.prog os ⟨#[], #[], []⟩ with heap := ((((World.holding Tryd.prog os ⟨#[], #[], []⟩).heap.modify 1 fun | .cells _ t frozen => .cells (litCells (Rows.laid_math_bits_deBruijn32tab (H := Unit))).toArray t frozen | o => o).modify 2 fun | .cells _ t frozen => .cells (litCells (Rows.laid_math_bits_deBruijn64tab (H := Unit))).toArray t frozen | o => o).modify 0 fun | .cells _ t frozen => .cells (litCells (Rows.laid_internal_strconv_uint64pow10 (H := Unit))).toArray t frozen | o => o) }
theorem laid_met (os : Os) (args : Array Value) : laidMet Tryd.prog Rows.fnExactFormatPageRow.laid ((laidWorld os).forCall (fun _ _ => 0) ⟨#[], args, []⟩).memory :=
  laidMet_of_run' 8 (by kernel_rfl) (by kernel_rfl)
theorem globs {W : World} (h : laidMet Tryd.prog Rows.fnExactFormatPageRow.laid W) : globOk W := by
  obtain ⟨g, t, cs, fuel, p, h1, h2, h3, h4⟩ := Lib.laidMet.reads h (n := "internal/strconv.uint64pow10") (d := Rows.laid_internal_strconv_uint64pow10) (.tail _ (.tail _ (.head _)))
  have hg : globAt W := by
    obtain rfl := Option.some.inj (globNo.symm.trans h1)
    obtain rfl := Option.some.inj ((show (Tryd.prog.globals[0]?).map (·.type) = some 236 by kernel_rfl).symm.trans h2)
    have e : cs.toList = Lib.pow10Tab.map fun z => Value.int .u64 z := Lib.cells_of_tab (P := Tryd.prog) (t := 236) (e := 225) (n := 20) (by kernel_rfl) (by kernel_rfl) (by kernel_rfl) (by kernel_rfl) ((show DataW.trod (fun _ => ()) Tryd.prog W 0 (fun _ => true) false fuel 236 cs.toList = some (Lib.tabData .u64 Lib.pow10Tab, p) from (show (Rows.laid_internal_strconv_uint64pow10 : DataW Unit) = Lib.tabData .u64 Lib.pow10Tab by kernel_rfl) ▸ h4))
    show W.var? Tryd.prog "internal/strconv.uint64pow10" = _
    rw [h3, ← e]
  exact ⟨hg, globLt hg⟩
set_option maxRecDepth 100000 in
theorem lifted (os : Os) (started : os.Started) (H : Type) (enc : TypeId × Value → H) :
    ReturnsInHanded {} Tryd.checked os 6 .any (fun w args => (Rows.fnExactFormatPageSpec.pre enc Tryd.prog Tryd.f6 Rows.fnExactFormatPageRow.domain false w args ∧ laidMet Tryd.prog Rows.fnExactFormatPageRow.laid w) ∧ sizedMet enc Tryd.prog Tryd.f6 (OpenSpec.ofChange Rows.fnExactFormatPageSpec) false w args) (Rows.fnExactFormatPageSpec.post enc Tryd.prog Tryd.f6 false true false false) := by
  refine returnsInHanded_of_change_and (C := Tryd.checked) (X := fun w _ => laidMet Tryd.prog Rows.fnExactFormatPageRow.laid w) (fun _ _ _ hh h => h.of_heap hh) own started (by kernel_rfl) Tryd.func6
    (ChangeSpec.witness_at (enc := enc) (C := Tryd.checked) (os := os) (X := fun w _ => laidMet Tryd.prog Rows.fnExactFormatPageRow.laid w) false (laidWorld os) #[.agg #[.string ⟨#[]⟩, .string ⟨#[]⟩, .bool false, .slice none 0 0, .slice none 0 0, .slice none 0 0, .string ⟨#[]⟩, .string ⟨#[]⟩, .slice none 0 0, .bool false, .slice none 0 0, .slice none 0 0, .slice none 0 0, .slice none 0 0, .slice none 0 0, .int .i64 0, .int .i64 0, .int .i64 0, .int .i64 0, .slice none 0 0, .slice none 0 0, .bool false]] 8 rfl (by kernel_rfl) (by kernel_rfl) (by kernel_rfl) (by kernel_rfl) (by kernel_rfl) (laid_met os _)) ?_
  intro W base args ds gs before hval0 hW hcnd _ hL _
  refine law_calls (s := Rows.fnExactFormatPageSpec) (tb := 4) answers kids flArgs (by rw [Tryd.params6]; decide) rfl Tryd.underlying4 rfl ?_ told (globs hL) hval0 hW
  intro ds hds
  match ds, hds with
  | [d0], _ => rfl
end Go.Proofs.YtnbeddgenlinpaaDoor.fnExactFormatPage

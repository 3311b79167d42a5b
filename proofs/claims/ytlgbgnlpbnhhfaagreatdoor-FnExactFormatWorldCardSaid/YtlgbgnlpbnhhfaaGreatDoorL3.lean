/-
  Proved: Rows.FnExactFormatWorldSaid: laws.FnExactFormatWorld returns true for all arguments, and leaves what it was handed as it was.
-/
import Derived.Test.YtlgbgnlpbnhhfaaGreatDoorEd
import Derived.Test.YtlgbgnlpbnhhfaaGreatDoorAmOk
import Derived.Test.YtlgbgnlpbnhhfaaGreatDoorAmEq
import Derived.Test.YtlgbgnlpbnhhfaaGreatDoorAmMore
import Derived.Test.YtlgbgnlpbnhhfaaGreatDoorRows
import Derived.WalkKit
import Derived.ProofKit
import Derived.Lib.LaidU8
section
set_option linter.unusedVariables false
set_option linter.unusedSimpArgs false
namespace Go.Am
open Go
variable {β : Type}
/-- One round of the specification's FormatInt. -/
def fiBody : (List UInt8) × Int → Option (((List UInt8) × Int) ⊕ (List UInt8)) := fun (s1 : (List UInt8) × Int) => (
      br (s1.2 != 0) (
        br (decide (Int.tmod s1.2 10 < 0)) (
          chk ((strI [(IntKind.wrap .u8 (IntKind.wrap .i64 (48 + (IntKind.wrap .i64 (0 - (Int.tmod s1.2 10))))))]).length + s1.1.length ≤ 9223372036854775807) <|
          some (.inl (((strI [(IntKind.wrap .u8 (IntKind.wrap .i64 (48 + (IntKind.wrap .i64 (0 - (Int.tmod s1.2 10))))))]) ++ s1.1), (IntKind.wrap .i64 (Int.tdiv s1.2 10))))
        ) (
          chk ((strI [(IntKind.wrap .u8 (IntKind.wrap .i64 (48 + (Int.tmod s1.2 10))))]).length + s1.1.length ≤ 9223372036854775807) <|
          some (.inl (((strI [(IntKind.wrap .u8 (IntKind.wrap .i64 (48 + (Int.tmod s1.2 10))))]) ++ s1.1), (IntKind.wrap .i64 (Int.tdiv s1.2 10))))
        )
      ) (
        some (.inr s1.1)
      )
    : Option (((List UInt8) × Int) ⊕ (List UInt8)))
theorem digit_pos {d : Nat} (h : d < 10) : strI [(IntKind.wrap .u8 (IntKind.wrap .i64 (48 + (d : Int))))] = [UInt8.ofNat (48 + d)] := by
  have : d = 0 ∨ d = 1 ∨ d = 2 ∨ d = 3 ∨ d = 4 ∨ d = 5 ∨ d = 6 ∨ d = 7 ∨ d = 8 ∨ d = 9 := by omega
  rcases this with rfl | rfl | rfl | rfl | rfl | rfl | rfl | rfl | rfl | rfl <;> decide
theorem digit_neg {d : Nat} (h : d < 10) : strI [(IntKind.wrap .u8 (IntKind.wrap .i64 (48 + (IntKind.wrap .i64 (0 - (-(d : Int)))))))] = [UInt8.ofNat (48 + d)] := by
  have : d = 0 ∨ d = 1 ∨ d = 2 ∨ d = 3 ∨ d = 4 ∨ d = 5 ∨ d = 6 ∨ d = 7 ∨ d = 8 ∨ d = 9 := by omega
  rcases this with rfl | rfl | rfl | rfl | rfl | rfl | rfl | rfl | rfl | rfl <;> decide
theorem fi_round (u : Nat) (b : Bool) (s : List UInt8) (h0 : 0 < u) (hu : u ≤ 9223372036854775808) (hs : s.length ≤ 1000) :
    fiBody (s, if b then -(u : Int) else u) = some (.inl (UInt8.ofNat (48 + u % 10) :: s, if b then -((u / 10 : Nat) : Int) else ((u / 10 : Nat) : Int))) := by
  have hm : u % 10 < 10 := Nat.mod_lt _ (by decide)
  have hd : u / 10 ≤ 922337203685477580 := by omega
  cases b
  · simp only [Bool.false_eq_true, if_false]
    unfold fiBody
    have e0 : ((u : Int) != 0) = true := by simp; omega
    have e1 : Int.tmod (u : Int) 10 = ((u % 10 : Nat) : Int) := rfl
    have e2 : Int.tdiv (u : Int) 10 = ((u / 10 : Nat) : Int) := rfl
    simp only [e0, e1, e2, br_true]
    rw [decide_eq_false (by omega), br_false, digit_pos hm, chk_pos (by simp; omega), wrap_of (by omega) (by omega)]
    rfl
  · simp only [if_true]
    unfold fiBody
    have e0 : ((-(u : Int)) != 0) = true := by simp; omega
    have e1 : Int.tmod (-(u : Int)) 10 = -((u % 10 : Nat) : Int) := by rw [Int.neg_tmod]; rfl
    have e2 : Int.tdiv (-(u : Int)) 10 = -((u / 10 : Nat) : Int) := by rw [Int.neg_tdiv]; rfl
    simp only [e0, e1, e2, br_true]
    by_cases c : u % 10 = 0
    · rw [decide_eq_false (by omega), br_false, c]
      have := digit_pos (d := 0) (by decide)
      rw [show (48 + -((0 : Nat) : Int)) = 48 + ((0 : Nat) : Int) by rfl, this, chk_pos (by simp; omega), wrap_of (by omega) (by omega)]
      rfl
    · rw [decide_eq_true (by omega), br_true, digit_neg hm, chk_pos (by simp; omega), wrap_of (by omega) (by omega)]
      rfl
theorem dec_len (u : Nat) : ∀ k, u < 10 ^ (k + 1) → (Lib.decDigits u).length ≤ k + 1 := by
  intro k
  induction k generalizing u with
  | zero =>
    intro h
    rw [Lib.decDigits, dif_pos (by simpa using h)]
    simp
  | succ k ih =>
    intro h
    rw [Lib.decDigits]
    by_cases c : u < 10
    · rw [dif_pos c]; simp
    · rw [dif_neg c]
      have := ih (u / 10) (by rw [Nat.pow_succ] at h; omega)
      simp only [List.length_append, List.length_singleton]
      omega
theorem fi_loop (b : Bool) : ∀ (u : Nat) (s : List UInt8), u ≤ 9223372036854775808 → (u ≠ 0 → s.length + (Lib.decDigits u).length ≤ 1000) →
    whileE fiBody (s, if b then -(u : Int) else u) = some (if u = 0 then s else Lib.decDigits u ++ s) := by
  intro u
  induction u using Nat.strongRecOn with
  | _ u ih =>
    intro s hu hs
    unfold whileE
    rw [whileInf_step]
    by_cases h0 : u = 0
    · subst h0
      have : (if b then -((0 : Nat) : Int) else ((0 : Nat) : Int)) = 0 := by cases b <;> rfl
      rw [this]
      rfl
    · have hs := hs h0
      rw [fi_round u b s (by omega) hu (by omega)]
      show whileE fiBody (UInt8.ofNat (48 + u % 10) :: s, if b then -((u / 10 : Nat) : Int) else ((u / 10 : Nat) : Int)) = _
      have hlen : (Lib.decDigits (u / 10)).length ≤ 20 := dec_len _ 19 (by omega)
      have hs2 : s.length ≤ 999 := by
        have : 1 ≤ (Lib.decDigits u).length := by
          rw [Lib.decDigits]; split <;> simp
        omega
      rw [if_neg h0]
      by_cases c : u < 10
      · have e : u / 10 = 0 := by omega
        have hi := ih 0 (by omega) (UInt8.ofNat (48 + u % 10) :: s) (by omega) (fun h => absurd rfl h)
        rw [e, hi, if_pos rfl, Lib.decDigits, dif_pos c, show u % 10 = u by omega]
        rfl
      · have hl : (Lib.decDigits u).length = (Lib.decDigits (u / 10)).length + 1 := by
          conv => lhs; rw [Lib.decDigits, dif_neg c]
          simp
        have hi := ih (u / 10) (by omega) (UInt8.ofNat (48 + u % 10) :: s) (by omega) (fun _ => by simp only [List.length_cons]; omega)
        rw [hi, if_neg (by omega)]
        conv => rhs; rw [Lib.decDigits, dif_neg c]
        simp
theorem itoa_len {n : Int} (h1 : -9223372036854775808 ≤ n) (h2 : n ≤ 9223372036854775807) : (Lib.itoa n).length ≤ 21 := by
  unfold Lib.itoa
  split
  · have := dec_len n.natAbs 19 (by omega)
    simp only [List.length_cons]; omega
  · have := dec_len n.toNat 19 (by omega)
    omega
/-- The specification's FormatInt writes the numeral. -/
theorem spec_FormatInt {n : Int} (h1 : -9223372036854775808 ≤ n) (h2 : n ≤ 9223372036854775807) : sFormatInt n = some (Lib.itoa n) := by
  show br (n == 0) (some [48]) ((whileE fiBody ([], n)).bind fun (r4 : List UInt8) => br (decide (n < 0)) (chk (1 + r4.length ≤ 9223372036854775807) <| some ([45] ++ r4)) (some r4)) = _
  by_cases c : n = 0
  · subst c
    rw [show ((0 : Int) == 0) = true from rfl, br_true]
    unfold Lib.itoa
    rw [if_neg (by decide), Lib.decDigits, dif_pos (by decide)]
    rfl
  · rw [show (n == 0) = false by simpa using c, br_false]
    by_cases hn : n < 0
    · have hl := dec_len n.natAbs 19 (by omega)
      have := fi_loop true n.natAbs [] (by omega) (fun _ => by simp; omega)
      rw [show (if true = true then -((n.natAbs : Nat) : Int) else ((n.natAbs : Nat) : Int)) = n by rw [if_pos rfl]; omega, if_neg (by omega), List.append_nil] at this
      rw [this, Option.bind_some, decide_eq_true hn, br_true, chk_pos (by omega)]
      unfold Lib.itoa
      rw [if_pos hn]
      rfl
    · have hl := dec_len n.toNat 19 (by omega)
      have := fi_loop false n.toNat [] (by omega) (fun _ => by simp; omega)
      rw [show (if false = true then -((n.toNat : Nat) : Int) else ((n.toNat : Nat) : Int)) = n by rw [if_neg (by decide)]; omega, if_neg (by omega), List.append_nil] at this
      rw [this, Option.bind_some, decide_eq_false hn, br_false]
      unfold Lib.itoa
      rw [if_neg hn]
theorem impl_FormatInt {n : Int} (h1 : -9223372036854775808 ≤ n) (h2 : n ≤ 9223372036854775807) : iFormatInt n = some (Lib.itoa n) := by
  show (itoaE n).bind _ = _
  unfold itoaE
  rw [chk_pos ⟨h1, h2⟩]
  rfl
theorem ok_Fresh (c : TCache) (now : Int) (hl : c.xEntries.length ≤ 1048576) : Ok (sFreshEntries c now) (fun r => 0 ≤ r ∧ r ≤ 1048576) := by
  unfold sFreshEntries
  refine Ok.bind (Q1 := fun r => 0 ≤ r ∧ r ≤ 1048576) (Ok.for (by unfold maxLen; omega) (fun i s => 0 ≤ s ∧ s ≤ i) ⟨by omega, by omega⟩ (fun i x s hx hs => ?_) (fun s hs => ⟨hs.1, by have := hs.2; omega⟩)) (fun r _ hr => Ok.ret hr)
  have hi := (List.getElem?_eq_some_iff.1 hx).1
  obtain ⟨h1, h2⟩ := hs
  refine Ok.br (fun _ => Ok.ret ?_) (fun _ => Ok.ret ?_)
  · show 0 ≤ IntKind.wrap .i64 (s + 1) ∧ IntKind.wrap .i64 (s + 1) ≤ ((i + 1 : Nat) : Int)
    rw [wrap_of (by omega) (by omega)]
    omega
  · show 0 ≤ s ∧ s ≤ ((i + 1 : Nat) : Int)
    omega
theorem eq_FormatCache (c : TCache) (now : Int) (h : c.ok) (hs : c.size ≤ 1048576) : ∃ r, sFormatCache c now = some r ∧ iFormatCache c now = some r ∧ r.length ≤ 43 := by
  have hl : c.xEntries.length ≤ 1048576 := by unfold TCache.size at hs; omega
  obtain ⟨f, f1, f2, f3⟩ := ok_Fresh c now hl
  have a1 : -9223372036854775808 ≤ f := by omega
  have a2 : f ≤ 9223372036854775807 := by omega
  have b1 : -9223372036854775808 ≤ (c.xEntries.length : Int) := by omega
  have b2 : (c.xEntries.length : Int) ≤ 9223372036854775807 := by omega
  have l1 := itoa_len a1 a2
  have l2 := itoa_len b1 b2
  have key : Ok (sFormatCache c now) (fun r => r.length ≤ 43) := by
    unfold sFormatCache
    exact Ok.bind (Ok.of (Q := fun r => r = f) f1 rfl) (fun r _ hr => by
      subst hr
      exact Ok.bind (Ok.of (Q := fun r => r.length ≤ 21) (spec_FormatInt a1 a2) l1) (fun r2 _ hr2 => Ok.chk (by omega) (Ok.bind (Ok.of (Q := fun r => r.length ≤ 21) (spec_FormatInt b1 b2) l2) (fun r3 _ hr3 => Ok.chk (by simp; omega) (Ok.ret (by simp; omega))))))
  obtain ⟨r, hr, hk⟩ := key
  refine ⟨r, hr, ?_, hk⟩
  rw [← hr]
  unfold sFormatCache iFormatCache
  rw [f1, show iFreshEntries c now = some f from f1, Option.bind_some, Option.bind_some, spec_FormatInt a1 a2, impl_FormatInt a1 a2, spec_FormatInt b1 b2, impl_FormatInt b1 b2]
theorem ok_Guess (n : TNet) (hl : n.xLog.length ≤ 1048576) : Ok (sCountGuesses n) (fun r => 0 ≤ r ∧ r ≤ 1048576) := by
  unfold sCountGuesses
  refine Ok.bind (Q1 := fun r => 0 ≤ r ∧ r ≤ 1048576) (Ok.for (by unfold maxLen; omega) (fun i s => 0 ≤ s ∧ s ≤ i) ⟨by omega, by omega⟩ (fun i x s hx hs => ?_) (fun s hs => ⟨hs.1, by have := hs.2; omega⟩)) (fun r _ hr => Ok.ret hr)
  have hi := (List.getElem?_eq_some_iff.1 hx).1
  obtain ⟨h1, h2⟩ := hs
  refine Ok.br (fun _ => Ok.ret ?_) (fun _ => Ok.ret ?_)
  · show 0 ≤ IntKind.wrap .i64 (s + 1) ∧ IntKind.wrap .i64 (s + 1) ≤ ((i + 1 : Nat) : Int)
    rw [wrap_of (by omega) (by omega)]
    omega
  · show 0 ≤ s ∧ s ≤ ((i + 1 : Nat) : Int)
    omega
theorem int_both {n : Int} (h1 : -9223372036854775808 ≤ n) (h2 : n ≤ 9223372036854775807) : ∃ r, sFormatInt n = some r ∧ iFormatInt n = some r ∧ r.length ≤ 21 :=
  ⟨_, spec_FormatInt h1 h2, impl_FormatInt h1 h2, itoa_len h1 h2⟩
theorem slow_wrap (P : List UInt8) (h : P.length ≤ 1000) : IntKind.wrap .i64 (((P ++ [32, 115, 108, 111, 119]).length : Int) - 4) = ((P.length + 1 : Nat) : Int) := by
  have e : ((P ++ [32, 115, 108, 111, 119]).length : Int) - 4 = ((P.length + 1 : Nat) : Int) := by simp; omega
  rw [e, wrap_of (by omega) (by omega)]
theorem slow_take (P : List UInt8) : ((P ++ [32, 115, 108, 111, 119]).take (((P.length + 1 : Nat) : Int)).toNat).drop 0 = P ++ [32] := by
  rw [Int.toNat_natCast, List.drop_zero, List.take_append, List.take_of_length_le (by omega)]
  congr 1
  rw [show P.length + 1 - P.length = 1 by omega]
  rfl
theorem eq_FormatWorld (w : TWorld) (h : w.ok) (hs : w.size ≤ 1048576) : ∃ r, sFormatWorld w = some r ∧ iFormatWorld w = some r := by
  obtain ⟨⟨_, hc, _, ⟨n1, n2⟩, _⟩, _⟩ := h
  have hcs : w.xNet.xCache.size ≤ 1048576 := by unfold TWorld.size TNet.size at hs; omega
  have hlg : w.xNet.xLog.length ≤ 1048576 := by unfold TWorld.size TNet.size at hs; omega
  obtain ⟨r1, a1, b1, c1⟩ := int_both n1 n2
  obtain ⟨r2, a2, b2, c2⟩ := eq_FormatCache w.xNet.xCache w.xNet.xNow hc hcs
  obtain ⟨r3, a3, b3, c3⟩ := int_both (n := (w.xNet.xLog.length : Int)) (by omega) (by omega)
  obtain ⟨r4, a4, d1, d2⟩ := ok_Guess w.xNet hlg
  have b4 : iCountGuesses w.xNet = some r4 := by
    unfold iCountGuesses
    rw [show icountGuesses w.xNet.xLog = some r4 from a4]
    rfl
  obtain ⟨r5, a5, b5, c5⟩ := int_both (n := r4) (by omega) (by omega)
  refine ⟨((((((((r1 ++ [32]) ++ r2) ++ [32]) ++ r3) ++ [32]) ++ r5) ++ [32]) ++ (if w.xFast then [102, 97, 115, 116] else [115, 108, 111, 119])) ++ (if w.xHidden.xReady then [32, 114, 101, 97, 100, 121] else []), ?_, ?_⟩
  · unfold sFormatWorld
    rw [a1, Option.bind_some, chk_pos (by omega), a2, Option.bind_some, chk_pos (by simp; omega), chk_pos (by simp; omega), a3, Option.bind_some, chk_pos (by simp; omega), chk_pos (by simp; omega), a4, Option.bind_some, a5, Option.bind_some,
      chk_pos (by simp; omega), chk_pos (by simp; omega)]
    have hP : ((((((r1 ++ [32]) ++ r2) ++ [32]) ++ r3) ++ [32]) ++ r5).length ≤ 1000 := by simp; omega
    generalize ((((((r1 ++ [32]) ++ r2) ++ [32]) ++ r3) ++ [32]) ++ r5) = P at hP ⊢
    cases hf : w.xFast <;> cases hr : w.xHidden.xReady
    · show some _ = some _
      simp
    · show chk _ _ = some _
      rw [chk_pos (by simp; omega)]
      simp
    · show chk _ (chk _ (some _)) = some _
      simp only [slow_wrap P hP]
      rw [chk_pos (by simp; omega), slow_take, chk_pos (by simp; omega)]
      simp
    · show chk _ (chk _ (chk _ (some _))) = some _
      simp only [slow_wrap P hP]
      rw [chk_pos (by simp; omega), slow_take, chk_pos (by simp; omega), chk_pos (by simp; omega)]
      simp
  · unfold iFormatWorld
    cases hf : w.xFast <;> cases hr : w.xHidden.xReady
    all_goals
      simp only [br_true, br_false]
      rw [b1, Option.bind_some, chk_pos (by omega), b2, Option.bind_some, chk_pos (by simp; omega), chk_pos (by simp; omega), b3, Option.bind_some, chk_pos (by simp; omega), chk_pos (by simp; omega), b4, Option.bind_some, b5, Option.bind_some,
        chk_pos (by simp; omega), chk_pos (by simp; omega), chk_pos (by simp; omega)]
    · simp
    · rw [chk_pos (by simp; omega)]; simp
    · simp
    · rw [chk_pos (by simp; omega)]; simp
theorem le_FnExactFormatWorld (w : TWorld) (h : w.ok) : lFnExactFormatWorld w = some true := by
  refine E_sz (n := w.size) (if_pos ⟨by omega, by omega, h⟩) (fun m hm h0 hle => ?_)
  have hs : w.size ≤ 1048576 := by omega
  obtain ⟨r, hr, hi⟩ := eq_FormatWorld w h hs
  exact E_bind (if_pos hs) (E_bind hr (E_bind (if_pos hs) (E_bind hi (E_no (by simp) (E_bind (if_pos hs) (E_bind (if_pos h) (E_no (by simp) rfl)))))))
theorem law3 (a0 : TWorld) (o0 : a0.ok) (k : Bool → Option β) : F3 β (rows kServer TServer.row a0.xNet.xServers) (rows kEntry TEntry.row a0.xNet.xCache.xEntries) (rows kSent TSent.row a0.xNet.xLog) a0.xNet.xNow (rows kVisit TVisit.row a0.xTab.xVisits) a0.xTab.xAt a0.xHidden.xReady a0.xHidden.xPage.xAddr.xHost a0.xHidden.xPage.xAddr.xPath a0.xHidden.xPage.xPolicy.xSet (rStr a0.xHidden.xPage.xPolicy.xScripts) (rStr a0.xHidden.xPage.xPolicy.xStyles) (rStr a0.xHidden.xPage.xPolicy.xImages) a0.xHidden.xPage.xPolicy.xNonce a0.xHidden.xPage.xTok.xRest (rows kToken TToken.row a0.xHidden.xPage.xQueue) a0.xHidden.xPage.xEnded (rows kNode TNode.row a0.xHidden.xPage.xBuilder.xNodes) (rInt a0.xHidden.xPage.xBuilder.xOpen) (rows kSlot TSlot.row a0.xHidden.xPage.xSlots) (rows kModule TModule.row a0.xHidden.xPage.xMods) (rows kAddr TAddr.row a0.xHidden.xPage.xEntries) a0.xHidden.xPage.xBlock a0.xHidden.xPage.xInline a0.xHidden.xPage.xDeferred a0.xHidden.xPage.xEntered (rows kAddr TAddr.row a0.xHidden.xPage.xRan) (rStr a0.xHidden.xPage.xLog) a0.xHidden.xPage.xLoaded (rows kKept TKept.row a0.xHidden.xTaken) (rows kServer TServer.row a0.xHidden.xServers) a0.xHidden.xNow a0.xFast k = k true :=
  ei_lFnExactFormatWorld a0 k true (le_FnExactFormatWorld a0 o0)
end Go.Am
end
namespace Go.Proofs.YtlgbgnlpbnhhfaaGreatDoor.fnExactFormatWorld
open Go Go.Am Go.ChangeShapes Go.WideShapes Go.ChangeAt Go.RowKit
set_option linter.unusedVariables false
set_option linter.unusedSimpArgs false
/-- A table as cells. -/
def litCells : DataW Unit → List Value
  | .agg xs => xs.map fun x => match x with | .lit (.int k z) => Value.int k z | _ => .nilIface
  | _ => []
theorem own : ownKnob Tryz.prog.godebug = none := by kernel_rfl
theorem told : ∀ vs, LawArgs Tryz.prog fl Tryz.f3.params.toList vs → D 3 vs = some (.bool true) := by
  intro vs h
  rw [Tryz.params3] at h
  have h0 : LawArgs Tryz.prog fl [53] vs := h
  clear h
  cases vs with
  | nil => exact h0.elim
  | cons v0 vs =>
  cases vs with
  | cons v vs => exact h0.2.elim
  | nil =>
    obtain ⟨n0, us0, c0, e0⟩ := h0.1
    obtain ⟨a0, o0, z0⟩ := World_open c0
    rw [pack_struct Tryz.underlying53, z0] at e0
    subst e0
    obtain ⟨r, h3, h4⟩ := ok3 V [.agg [.sl 2 false (rows kServer TServer.row a0.xNet.xServers), .sl 10 true (rows kEntry TEntry.row a0.xNet.xCache.xEntries), .sl 4 true (rows kSent TSent.row a0.xNet.xLog), .int .i64 a0.xNet.xNow, .sl 25 false (rows kVisit TVisit.row a0.xTab.xVisits), .int .i64 a0.xTab.xAt, .bool a0.xHidden.xReady, .str a0.xHidden.xPage.xAddr.xHost, .str a0.xHidden.xPage.xAddr.xPath, .bool a0.xHidden.xPage.xPolicy.xSet, .sl 1 true (rStr a0.xHidden.xPage.xPolicy.xScripts), .sl 1 true (rStr a0.xHidden.xPage.xPolicy.xStyles), .sl 1 true (rStr a0.xHidden.xPage.xPolicy.xImages), .str a0.xHidden.xPage.xPolicy.xNonce, .str a0.xHidden.xPage.xTok.xRest, .sl 4 false (rows kToken TToken.row a0.xHidden.xPage.xQueue), .bool a0.xHidden.xPage.xEnded, .sl 4 false (rows kNode TNode.row a0.xHidden.xPage.xBuilder.xNodes), .sl 1 true (rInt a0.xHidden.xPage.xBuilder.xOpen), .sl 8 true (rows kSlot TSlot.row a0.xHidden.xPage.xSlots), .sl 5 true (rows kModule TModule.row a0.xHidden.xPage.xMods), .sl 2 true (rows kAddr TAddr.row a0.xHidden.xPage.xEntries), .int .i64 a0.xHidden.xPage.xBlock, .int .i64 a0.xHidden.xPage.xInline, .int .i64 a0.xHidden.xPage.xDeferred, .int .i64 a0.xHidden.xPage.xEntered, .sl 2 true (rows kAddr TAddr.row a0.xHidden.xPage.xRan), .sl 1 true (rStr a0.xHidden.xPage.xLog), .bool a0.xHidden.xPage.xLoaded, .sl 8 true (rows kKept TKept.row a0.xHidden.xTaken), .sl 2 false (rows kServer TServer.row a0.xHidden.xServers), .int .i64 a0.xHidden.xNow, .bool a0.xFast]] some (.bool true) (by
      show wrap s3 (G3 F3) V (argsEnc s3 (((rows kServer TServer.row a0.xNet.xServers), (rows kEntry TEntry.row a0.xNet.xCache.xEntries), (rows kSent TSent.row a0.xNet.xLog), a0.xNet.xNow, (rows kVisit TVisit.row a0.xTab.xVisits), a0.xTab.xAt, a0.xHidden.xReady, a0.xHidden.xPage.xAddr.xHost, a0.xHidden.xPage.xAddr.xPath, a0.xHidden.xPage.xPolicy.xSet, (rStr a0.xHidden.xPage.xPolicy.xScripts), (rStr a0.xHidden.xPage.xPolicy.xStyles), (rStr a0.xHidden.xPage.xPolicy.xImages), a0.xHidden.xPage.xPolicy.xNonce, a0.xHidden.xPage.xTok.xRest, (rows kToken TToken.row a0.xHidden.xPage.xQueue), a0.xHidden.xPage.xEnded, (rows kNode TNode.row a0.xHidden.xPage.xBuilder.xNodes), (rInt a0.xHidden.xPage.xBuilder.xOpen), (rows kSlot TSlot.row a0.xHidden.xPage.xSlots), (rows kModule TModule.row a0.xHidden.xPage.xMods), (rows kAddr TAddr.row a0.xHidden.xPage.xEntries), a0.xHidden.xPage.xBlock, a0.xHidden.xPage.xInline, a0.xHidden.xPage.xDeferred, a0.xHidden.xPage.xEntered, (rows kAddr TAddr.row a0.xHidden.xPage.xRan), (rStr a0.xHidden.xPage.xLog), a0.xHidden.xPage.xLoaded, (rows kKept TKept.row a0.xHidden.xTaken), (rows kServer TServer.row a0.xHidden.xServers), a0.xHidden.xNow, a0.xFast, ()), ())) some = _
      unfold wrap
      rw [show argsDec s3 (argsEnc s3 (((rows kServer TServer.row a0.xNet.xServers), (rows kEntry TEntry.row a0.xNet.xCache.xEntries), (rows kSent TSent.row a0.xNet.xLog), a0.xNet.xNow, (rows kVisit TVisit.row a0.xTab.xVisits), a0.xTab.xAt, a0.xHidden.xReady, a0.xHidden.xPage.xAddr.xHost, a0.xHidden.xPage.xAddr.xPath, a0.xHidden.xPage.xPolicy.xSet, (rStr a0.xHidden.xPage.xPolicy.xScripts), (rStr a0.xHidden.xPage.xPolicy.xStyles), (rStr a0.xHidden.xPage.xPolicy.xImages), a0.xHidden.xPage.xPolicy.xNonce, a0.xHidden.xPage.xTok.xRest, (rows kToken TToken.row a0.xHidden.xPage.xQueue), a0.xHidden.xPage.xEnded, (rows kNode TNode.row a0.xHidden.xPage.xBuilder.xNodes), (rInt a0.xHidden.xPage.xBuilder.xOpen), (rows kSlot TSlot.row a0.xHidden.xPage.xSlots), (rows kModule TModule.row a0.xHidden.xPage.xMods), (rows kAddr TAddr.row a0.xHidden.xPage.xEntries), a0.xHidden.xPage.xBlock, a0.xHidden.xPage.xInline, a0.xHidden.xPage.xDeferred, a0.xHidden.xPage.xEntered, (rows kAddr TAddr.row a0.xHidden.xPage.xRan), (rStr a0.xHidden.xPage.xLog), a0.xHidden.xPage.xLoaded, (rows kKept TKept.row a0.xHidden.xTaken), (rows kServer TServer.row a0.xHidden.xServers), a0.xHidden.xNow, a0.xFast, ()), ())) = some (((rows kServer TServer.row a0.xNet.xServers), (rows kEntry TEntry.row a0.xNet.xCache.xEntries), (rows kSent TSent.row a0.xNet.xLog), a0.xNet.xNow, (rows kVisit TVisit.row a0.xTab.xVisits), a0.xTab.xAt, a0.xHidden.xReady, a0.xHidden.xPage.xAddr.xHost, a0.xHidden.xPage.xAddr.xPath, a0.xHidden.xPage.xPolicy.xSet, (rStr a0.xHidden.xPage.xPolicy.xScripts), (rStr a0.xHidden.xPage.xPolicy.xStyles), (rStr a0.xHidden.xPage.xPolicy.xImages), a0.xHidden.xPage.xPolicy.xNonce, a0.xHidden.xPage.xTok.xRest, (rows kToken TToken.row a0.xHidden.xPage.xQueue), a0.xHidden.xPage.xEnded, (rows kNode TNode.row a0.xHidden.xPage.xBuilder.xNodes), (rInt a0.xHidden.xPage.xBuilder.xOpen), (rows kSlot TSlot.row a0.xHidden.xPage.xSlots), (rows kModule TModule.row a0.xHidden.xPage.xMods), (rows kAddr TAddr.row a0.xHidden.xPage.xEntries), a0.xHidden.xPage.xBlock, a0.xHidden.xPage.xInline, a0.xHidden.xPage.xDeferred, a0.xHidden.xPage.xEntered, (rows kAddr TAddr.row a0.xHidden.xPage.xRan), (rStr a0.xHidden.xPage.xLog), a0.xHidden.xPage.xLoaded, (rows kKept TKept.row a0.xHidden.xTaken), (rows kServer TServer.row a0.xHidden.xServers), a0.xHidden.xNow, a0.xFast, ()), ()) from rfl]
      exact law3 a0 o0 _)
    rw [h3, h4]
noncomputable def laidWorld (os : Os) : World :=
  { World.holding Tryz.prog os ⟨#[], #[], []⟩ with heap := ((((World.holding Tryz.prog os ⟨#[], #[], []⟩).heap.modify 1 fun | .cells _ t frozen => .cells (litCells (Rows.laid_math_bits_deBruijn32tab (H := Unit))).toArray t frozen | o => o).modify 2 fun | .cells _ t frozen => .cells (litCells (Rows.laid_math_bits_deBruijn64tab (H := Unit))).toArray t frozen | o => o).modify 0 fun | .cells _ t frozen => .cells (litCells (Rows.laid_internal_strconv_uint64pow10 (H := Unit))).toArray t frozen | o => o) }
theorem laid_met (os : Os) (args : Array Value) : laidMet Tryz.prog Rows.fnExactFormatWorldRow.laid ((laidWorld os).forCall (fun _ _ => 0) ⟨#[], args, []⟩).memory :=
  laidMet_of_run' 8 (by kernel_rfl) (by kernel_rfl)
theorem globs {W : World} (h : laidMet Tryz.prog Rows.fnExactFormatWorldRow.laid W) : globOk W := by
  obtain ⟨g, t, cs, fuel, p, h1, h2, h3, h4⟩ := Lib.laidMet.reads h (n := "internal/strconv.uint64pow10") (d := Rows.laid_internal_strconv_uint64pow10) (.tail _ (.tail _ (.head _)))
  have hg : globAt W := by
    obtain rfl := Option.some.inj (globNo.symm.trans h1)
    obtain rfl := Option.some.inj ((show (Tryz.prog.globals[0]?).map (·.type) = some 255 by kernel_rfl).symm.trans h2)
    have e : cs.toList = Lib.pow10Tab.map fun z => Value.int .u64 z := Lib.cells_of_tab (P := Tryz.prog) (t := 255) (e := 240) (n := 20) (by kernel_rfl) (by kernel_rfl) (by kernel_rfl) (by kernel_rfl) ((show DataW.trod (fun _ => ()) Tryz.prog W 0 (fun _ => true) false fuel 255 cs.toList = some (Lib.tabData .u64 Lib.pow10Tab, p) from (show (Rows.laid_internal_strconv_uint64pow10 : DataW Unit) = Lib.tabData .u64 Lib.pow10Tab by kernel_rfl) ▸ h4))
    show W.var? Tryz.prog "internal/strconv.uint64pow10" = _
    rw [h3, ← e]
  exact ⟨hg, globLt hg⟩
set_option maxRecDepth 100000 in
theorem lifted (os : Os) (started : os.Started) (H : Type) (enc : TypeId × Value → H) :
    ReturnsInHanded {} Tryz.checked os 3 .any (fun w args => (Rows.fnExactFormatWorldSpec.pre enc Tryz.prog Tryz.f3 Rows.fnExactFormatWorldRow.domain false w args ∧ laidMet Tryz.prog Rows.fnExactFormatWorldRow.laid w) ∧ sizedMet enc Tryz.prog Tryz.f3 (OpenSpec.ofChange Rows.fnExactFormatWorldSpec) false w args) (Rows.fnExactFormatWorldSpec.post enc Tryz.prog Tryz.f3 false true false false) := by
  refine returnsInHanded_of_change_and (C := Tryz.checked) (X := fun w _ => laidMet Tryz.prog Rows.fnExactFormatWorldRow.laid w) (fun _ _ _ hh h => h.of_heap hh) own started (by kernel_rfl) Tryz.func3
    (ChangeSpec.witness_at (enc := enc) (C := Tryz.checked) (os := os) (X := fun w _ => laidMet Tryz.prog Rows.fnExactFormatWorldRow.laid w) false (laidWorld os) #[.agg #[.slice none 0 0, .slice none 0 0, .slice none 0 0, .int .i64 0, .slice none 0 0, .int .i64 0, .bool false, .string ⟨#[]⟩, .string ⟨#[]⟩, .bool false, .slice none 0 0, .slice none 0 0, .slice none 0 0, .string ⟨#[]⟩, .string ⟨#[]⟩, .slice none 0 0, .bool false, .slice none 0 0, .slice none 0 0, .slice none 0 0, .slice none 0 0, .slice none 0 0, .int .i64 0, .int .i64 0, .int .i64 0, .int .i64 0, .slice none 0 0, .slice none 0 0, .bool false, .slice none 0 0, .slice none 0 0, .int .i64 0, .bool false]] 8 rfl (by kernel_rfl) (by kernel_rfl) (by kernel_rfl) (by kernel_rfl) (by kernel_rfl) (laid_met os _)) ?_
  intro W base args ds gs before hval0 hW hcnd _ hL _
  refine law_calls (s := Rows.fnExactFormatWorldSpec) (tb := 4) answers kids flArgs (by rw [Tryz.params3]; decide) rfl Tryz.underlying4 rfl ?_ told (globs hL) hval0 hW
  intro ds hds
  match ds, hds with
  | [d0], _ => rfl
end Go.Proofs.YtlgbgnlpbnhhfaaGreatDoor.fnExactFormatWorld

/-
  What the functions under laws.FnExactSameCaches compute, on data: their size, their copies, their comparisons.
-/
import Derived.Test.YtnbeddgenlinpaaFa
import Derived.Test.YtnbeddgenlinpaaAmMath
namespace Go.Am
open Go
variable {β : Type}
structure Entry where
  top : List UInt8
  host : List UInt8
  path : List UInt8
  status : Int
  kind : Int
  body : List UInt8
  age : Int
  shares : Bool
  policy : List UInt8
  expire : Int
  deriving DecidableEq
abbrev kE : List CK := [.str, .str, .str, .int .i64, .int .i64, .str, .int .i64, .bool, .str, .int .i64]
def Entry.row (e : Entry) : cellsT kE := (e.top, e.host, e.path, e.status, e.kind, e.body, e.age, e.shares, e.policy, e.expire, ())

theorem eqEntry (a b : Entry) (k : Bool → Option β) : F90 β a.top a.host a.path a.status a.kind a.body a.age a.shares a.policy a.expire b.top b.host b.path b.status b.kind b.body b.age b.shares b.policy b.expire k = k (decide (a = b)) := by
  obtain ⟨a1, a2, a3, a4, a5, a6, a7, a8, a9, a10⟩ := a
  obtain ⟨b1, b2, b3, b4, b5, b6, b7, b8, b9, b10⟩ := b
  simp only [F90, P90, F86, P86, F125, P125, br_eq, Entry.mk.injEq, bne_iff_ne, beq_iff_eq, Bool.not_eq_true', beq_eq_false_iff_ne, ne_eq, ite_not, decide_not, ite_k, Bool.and_true, Bool.decide_and, if_true, if_false, Bool.false_eq_true, Bool.true_eq_false, decide_eq_true_eq, reduceCtorEq]

/-- What is left of an allowance. -/
def szL (left : Int) (n : Nat) : Int := if left < (n : Int) then -1 else left - (n : Int)
def Entry.size (e : Entry) : Nat := e.top.length + e.host.length + e.path.length + e.body.length + e.policy.length
def Entry.ok (e : Entry) : Prop := e.top.length ≤ maxLen ∧ e.host.length ≤ maxLen ∧ e.path.length ≤ maxLen ∧ e.body.length ≤ maxLen ∧ e.policy.length ≤ maxLen
theorem wrap_sub {l : Int} {n : Nat} (h0 : 0 ≤ l) (h1 : l ≤ 1048576) (h2 : n ≤ maxLen) : IntKind.wrap .i64 (l - (n : Int)) = l - (n : Int) := by
  unfold maxLen at h2
  exact wrap_of (by omega) (by omega)
theorem szAddr (a b : List UInt8) (l : Int) (h0 : 0 ≤ l) (h1 : l ≤ 1048576) (ha : a.length ≤ maxLen) (hb : b.length ≤ maxLen) (k : Int → Option β) : F120 β a b l k = k (szL l (a.length + b.length)) := by
  simp only [F120, P120, br_eq, decide_eq_true_eq]
  rw [wrap_sub h0 h1 ha]
  unfold szL
  split
  · rw [if_pos (by omega)]
  · rw [wrap_sub (by omega) (by omega) hb]
    split
    · rw [if_pos (by omega)]
    · rw [if_neg (by omega)]; congr 1; omega
theorem szResponse (st kd : Int) (a : List UInt8) (ag : Int) (sh : Bool) (b : List UInt8) (l : Int) (h0 : 0 ≤ l) (h1 : l ≤ 1048576) (ha : a.length ≤ maxLen) (hb : b.length ≤ maxLen) (k : Int → Option β) : F121 β st kd a ag sh b l k = k (szL l (a.length + b.length)) := by
  simp only [F121, P121, br_eq, decide_eq_true_eq]
  rw [wrap_sub h0 h1 ha]
  unfold szL
  split
  · rw [if_pos (by omega)]
  · rw [wrap_sub (by omega) (by omega) hb]
    split
    · rw [if_pos (by omega)]
    · rw [if_neg (by omega)]; congr 1; omega
theorem szEntry (e : Entry) (l : Int) (h0 : 0 ≤ l) (h1 : l ≤ 1048576) (h : e.ok) (k : Int → Option β) : F87 β e.top e.host e.path e.status e.kind e.body e.age e.shares e.policy e.expire l k = k (szL l e.size) := by
  obtain ⟨g1, g2, g3, g4, g5⟩ := h
  simp only [F87, P87, br_eq, decide_eq_true_eq]
  rw [wrap_sub h0 h1 g1]
  unfold Entry.size
  by_cases c1 : l - (e.top.length : Int) < 0
  · rw [if_pos c1]; unfold szL; rw [if_pos (by omega)]
  · rw [if_neg c1, szAddr _ _ _ (by omega) (by omega) g2 g3]
    by_cases c2 : l - (e.top.length : Int) < ((e.host.length + e.path.length : Nat) : Int)
    · rw [show szL (l - (e.top.length : Int)) (e.host.length + e.path.length) = -1 by unfold szL; rw [if_pos c2], if_pos (by omega)]
      unfold szL; rw [if_pos (by omega)]
    · rw [show szL (l - (e.top.length : Int)) (e.host.length + e.path.length) = l - (e.top.length : Int) - ((e.host.length + e.path.length : Nat) : Int) by unfold szL; rw [if_neg c2], if_neg (by omega)]
      rw [szResponse _ _ _ _ _ _ _ (by omega) (by omega) g4 g5]
      unfold szL
      by_cases c3 : l - (e.top.length : Int) - ((e.host.length + e.path.length : Nat) : Int) < ((e.body.length + e.policy.length : Nat) : Int)
      · rw [if_pos c3, if_pos (by omega), if_pos (by omega)]
      · rw [if_neg c3, if_neg (by omega), if_neg (by omega)]; congr 1; omega
def sumL {T : Type} (f : T → Nat) (l : List T) : Nat := (l.map f).sum
theorem szEntryS (a : List Entry) (l : Int) (h0 : 0 ≤ l) (h1 : l ≤ 1048576) (ha : a.length ≤ maxLen) (h : ∀ e ∈ a, e.ok) (k : Int → Option β) : F46 β (rows kE Entry.row a) l k = k (szL l (a.length + sumL Entry.size a)) := by
  simp only [F46, P46, rows_len]
  rw [wrap_sub h0 h1 ha]
  by_cases hl : l < (a.length : Int)
  · rw [show decide (l - (a.length : Int) < 0) = true by simp; omega, br_true]
    unfold szL; rw [if_pos (by omega)]
  · rw [show decide (l - (a.length : Int) < 0) = false by simp; omega, br_false]
    simp only [whileK]
    rw [while_runL (A := Int) (R := Int) (fun (i : Nat) (m : Int) => ([.l (rows kE Entry.row a), .i m, .i (i : Int)] : List Leaf)) (fun r => (0, [.i r, .i (-1)])) (fun m => (1, [.i m])) a (fun _ e m => if szL m e.size < 0 then .inr (szL m e.size) else .inl (szL m e.size)) (fun _ m => 0 ≤ m ∧ m ≤ 1048576) ?h1 ?hI ?h2 (l - (a.length : Int)) ⟨by omega, by omega⟩ _ ?hs]
    case hs => rfl
    case h1 =>
      intro i e m hi ⟨hm0, hm1⟩
      have hlt : i < a.length := (List.getElem?_eq_some_iff.1 hi).1
      simp only [lI, lL, List.getElem?_cons_zero, List.getElem?_cons_succ, rows_len, dec_lt hlt, br_true, Int.toNat_natCast]
      refine chkN (idxE hi ((szEntry e m hm0 hm1 (h e (List.mem_of_getElem? hi)) _).trans ?_))
      unfold maxLen at ha
      rw [br_eq, wrapS (by omega)]
      by_cases c : szL m e.size < 0 <;> simp [c]
    case hI =>
      intro i e m m' hi ⟨hm0, hm1⟩ hb
      have : szL m e.size ≤ m := by unfold szL; split <;> omega
      by_cases c : szL m e.size < 0
      · simp [c] at hb
      · simp only [c, if_false, Sum.inl.injEq] at hb
        omega
    case h2 =>
      intro m _
      simp only [lI, lL, List.getElem?_cons_zero, List.getElem?_cons_succ, rows_len, dec_ge, br_false]
    · have key : ∀ (ys : List Entry) (i : Nat) (m : Int), 0 ≤ m → (outL (fun m => ((1, [.i m]) : Nat × List Leaf)) (fun r => (0, [.i r, .i (-1)])) (runL (fun _ (e : Entry) (m : Int) => if szL m e.size < 0 then .inr (szL m e.size) else .inl (szL m e.size)) i ys m)) = if m < (sumL Entry.size ys : Int) then (0, [.i (-1), .i (-1)]) else (1, [.i (m - (sumL Entry.size ys : Int))]) := by
        intro ys
        induction ys with
        | nil => intro i m hm; simp [runL, outL, sumL]; omega
        | cons y ys ih =>
          intro i m hm
          rw [runL]
          have hs : sumL Entry.size (y :: ys) = y.size + sumL Entry.size ys := by simp [sumL]
          by_cases c : szL m y.size < 0
          · have c' : m < (y.size : Int) := by unfold szL at c; split at c <;> omega
            have c2 : szL m y.size = -1 := by unfold szL; rw [if_pos c']
            simp only [c2, outL]
            rw [if_pos (by omega)]
            rw [if_pos (by omega)]
          · have c' : ¬ m < (y.size : Int) := fun c' => c (by unfold szL; rw [if_pos c']; omega)
            have c2 : szL m y.size = m - y.size := by unfold szL; rw [if_neg c']
            simp only [c2]
            rw [if_neg (by omega)]
            simp only
            rw [ih _ _ (by omega)]
            by_cases c3 : m - (y.size : Int) < (sumL Entry.size ys : Int)
            · rw [if_pos c3, if_pos (by omega)]
            · rw [if_neg c3, if_neg (by omega)]; congr 3; omega
      rw [key a 0 _ (by omega)]
      unfold szL
      by_cases c : l - (a.length : Int) < (sumL Entry.size a : Int)
      · rw [if_pos c, if_pos (by omega)]
        rfl
      · rw [if_neg c, if_neg (by omega)]
        simp only [Option.bind_some, lI, List.getElem?_cons_zero]
        simp
        congr 1; omega
theorem zip_any {T : Type} [DecidableEq T] : ∀ (a b : List T), a.length = b.length → (a.zip b).any (fun p => !decide (p.1 = p.2)) = !decide (a = b) := by
  intro a
  induction a with
  | nil => intro b h; cases b with
    | nil => simp
    | cons y b => simp at h
  | cons x a ih => intro b h; cases b with
    | nil => simp at h
    | cons y b =>
      rw [List.zip_cons_cons, List.any_cons, ih b (by simpa using h)]
      by_cases e : x = y <;> simp [e]
theorem zip_get {T U : Type} {a : List T} {b : List U} {i : Nat} {p : T × U} (h : (a.zip b)[i]? = some p) : a[i]? = some p.1 ∧ b[i]? = some p.2 := by
  rw [List.getElem?_zip_eq_some] at h; exact h
theorem eqEntryS (a b : List Entry) (ha : a.length < 4611686018427387904) (k : Bool → Option β) : F50 β (rows kE Entry.row a) (rows kE Entry.row b) k = k (decide (a = b)) := by
  simp only [F50, P50, rows_len]
  by_cases hl : a.length = b.length
  · rw [show ((a.length : Int) != (b.length : Int)) = false by simp [hl]]
    simp only [br_false, whileK]
    have hz : (a.zip b).length = a.length := by simp [hl]
    rw [while_any (fun i : Nat => ([.l (rows kE Entry.row a), .l (rows kE Entry.row b), .i (i : Int)] : List Leaf)) (a.zip b) (fun p => !decide (p.1 = p.2)) (0, [.b false]) (1, []) ?h1 ?h2 _ ?hs]
    case hs => rfl
    · rw [zip_any a b hl]
      by_cases e : a = b <;> simp [e, lB]
    case h1 =>
      intro i p hp
      obtain ⟨h1, h2⟩ := zip_get hp
      have hi : i < a.length := (List.getElem?_eq_some_iff.1 h1).1
      simp only [lI, lL, List.getElem?_cons_zero, List.getElem?_cons_succ, rows_len, dec_lt hi, br_true, Int.toNat_natCast]
      refine chkN (idxE h1 (chkN (idxE h2 ((eqEntry p.1 p.2 _).trans ?_))))
      rw [br_eq, wrapS (by omega)]
    case h2 =>
      rw [hz]
      simp only [lI, lL, List.getElem?_cons_zero, List.getElem?_cons_succ, rows_len, dec_ge, br_false]
  · rw [show ((a.length : Int) != (b.length : Int)) = true by simp; omega]
    rw [br_true, decide_eq_false (fun e => hl (by rw [e]))]

theorem ent_eq (a b : Entry) : ((a.top == b.top) && ((a.host == b.host) && ((a.path == b.path) && ((a.status == b.status) && ((a.kind == b.kind) && ((a.body == b.body) && ((a.age == b.age) && ((a.shares == b.shares) && ((a.policy == b.policy) && ((a.expire == b.expire) && true)))))))))) = decide (a = b) := by
  obtain ⟨a1, a2, a3, a4, a5, a6, a7, a8, a9, a10⟩ := a
  obtain ⟨b1, b2, b3, b4, b5, b6, b7, b8, b9, b10⟩ := b
  rw [Bool.eq_iff_iff]
  simp only [Entry.mk.injEq, Bool.and_true, Bool.and_eq_true, beq_iff_eq, decide_eq_true_eq]
theorem has (a : List Entry) (e : Entry) (ha : a.length ≤ maxLen) (k : Bool → Option β) : F47 β (rows kE Entry.row a) e.top e.host e.path e.status e.kind e.body e.age e.shares e.policy e.expire k = k (decide (e ∈ a)) := by
  unfold maxLen at ha
  simp only [F47, P47, whileK]
  rw [while_any (fun i : Nat => ([.i (i : Int), .l (rows kE Entry.row a), .s e.top, .s e.host, .s e.path, .i e.status, .i e.kind, .s e.body, .i e.age, .b e.shares, .s e.policy, .i e.expire] : List Leaf)) a (fun y => decide (y = e)) (0, [.b true]) (1, []) ?h1 ?h2 _ ?hs]
  case hs => rfl
  case h1 =>
    intro i y hi
    have hlt : i < a.length := (List.getElem?_eq_some_iff.1 hi).1
    simp only [lI, lL, lS, lB, List.getElem?_cons_zero, List.getElem?_cons_succ, rows_len, dec_lt hlt, br_true, Int.toNat_natCast]
    exact chkN (idxE hi (brB (ent_eq y e) rfl (by rw [wrapS (by omega)])))
  case h2 =>
    simp only [lI, lL, List.getElem?_cons_zero, List.getElem?_cons_succ, rows_len, dec_ge, br_false]
  · have : a.any (fun y => decide (y = e)) = decide (e ∈ a) := by
      rw [Bool.eq_iff_iff]; simp
    rw [this]
    by_cases c : e ∈ a <;> simp [c, lB]
theorem index (a : List Entry) (e : Entry) (ha : a.length ≤ maxLen) (k : Bool → Option β) : F89 β (rows kE Entry.row a) e.top e.host e.path e.status e.kind e.body e.age e.shares e.policy e.expire k = k (decide (e ∈ a)) := by
  unfold maxLen at ha
  simp only [F89, P89, F124, P124, whileK, rows_len]
  rw [while_find (fun i : Nat => ([.l (rows kE Entry.row a), .i (a.length : Int), .i (i : Int), .s e.top, .s e.host, .s e.path, .i e.status, .i e.kind, .s e.body, .i e.age, .b e.shares, .s e.policy, .i e.expire] : List Leaf)) a (fun y => decide (e = y)) (fun i _ => (0, [.i (i : Int)])) (1, []) ?h1 ?h2 _ ?hs]
  case hs => rfl
  case h1 =>
    intro i y hi
    have hlt : i < a.length := (List.getElem?_eq_some_iff.1 hi).1
    exact brE (Int.ofNat_lt.2 hlt) (chkE (Int.natCast_nonneg _) (idxE (i := i) hi (brB (ent_eq e y) rfl (congrArg (fun j : Int => (some (Sum.inl ([.l (rows kE Entry.row a), .i (a.length : Int), .i j, .s e.top, .s e.host, .s e.path, .i e.status, .i e.kind, .s e.body, .i e.age, .b e.shares, .s e.policy, .i e.expire] : List Leaf)) : Option (List Leaf ⊕ (Nat × List Leaf)))) (wrapS (i := i) (by omega))))))
  case h2 =>
    exact brN (Int.lt_irrefl _) rfl
  · cases hf : a.findIdx? (fun y => decide (e = y)) with
    | none =>
      have := List.findIdx?_eq_none_iff.1 hf
      have hn : ¬ e ∈ a := fun hm => by simpa using this e hm
      simp [hn]
    | some i =>
      obtain ⟨hi, hp, _⟩ := List.findIdx?_eq_some_iff_getElem.1 hf
      have hm : e ∈ a := by
        have := of_decide_eq_true hp
        rw [this]; exact List.getElem_mem hi
      simp [hm, hi, lI]
theorem covered (a b : List Entry) (ha : a.length ≤ maxLen) (hb : b.length ≤ maxLen) (k : Bool → Option β) : F49 β (rows kE Entry.row a) (rows kE Entry.row b) k = k (a.all fun e => decide (e ∈ b)) := by
  have ha' := ha
  unfold maxLen at ha
  simp only [F49, P49, whileK, rows_len]
  rw [while_any (fun i : Nat => ([.l (rows kE Entry.row a), .i (a.length : Int), .i (i : Int), .l (rows kE Entry.row b)] : List Leaf)) a (fun y => !decide (y ∈ b)) (0, [.b false]) (1, []) ?h1 ?h2 _ ?hs]
  case hs => rfl
  case h1 =>
    intro i y hi
    have hlt : i < a.length := (List.getElem?_eq_some_iff.1 hi).1
    exact brE (Int.ofNat_lt.2 hlt) (chkE (Int.natCast_nonneg _) (idxE (i := i) hi ((index b y hb _).trans (brB rfl rfl (congrArg (fun j : Int => (some (Sum.inl ([.l (rows kE Entry.row a), .i (a.length : Int), .i j, .l (rows kE Entry.row b)] : List Leaf)) : Option (List Leaf ⊕ (Nat × List Leaf)))) (wrapS (i := i) (by omega)))))))
  case h2 =>
    exact brN (Int.lt_irrefl _) rfl
  · have : a.any (fun y => !decide (y ∈ b)) = !(a.all fun e => decide (e ∈ b)) := by rw [List.not_all_eq_any_not]
    rw [this]
    cases a.all fun e => decide (e ∈ b) <;> simp [lB]
theorem sameImpl (a b : List Entry) (ha : a.length ≤ maxLen) (hb : b.length ≤ maxLen) (k : Bool → Option β) : F14 β (rows kE Entry.row a) (rows kE Entry.row b) k = k ((a.all fun e => decide (e ∈ b)) && (b.all fun e => decide (e ∈ a))) := by
  simp only [F14, P14]
  rw [covered a b ha hb, br_eq]
  cases a.all fun e => decide (e ∈ b)
  · simp
  · simp only [if_true, Bool.true_and]; exact covered b a hb ha _
theorem sameSpec (a b : List Entry) (ha : a.length ≤ maxLen) (hb : b.length ≤ maxLen) (k : Bool → Option β) : F12 β (rows kE Entry.row a) (rows kE Entry.row b) k = k ((a.all fun e => decide (e ∈ b)) && (b.all fun e => decide (e ∈ a))) := by
  have ha' := ha
  have hb' := hb
  unfold maxLen at ha hb
  simp only [F12, P12, whileK]
  rw [while_any (fun i : Nat => ([.i (i : Int), .l (rows kE Entry.row a), .l (rows kE Entry.row b)] : List Leaf)) a (fun y => !decide (y ∈ b)) (0, [.b false, .l (rows kE Entry.row a), .l (rows kE Entry.row b)]) (1, [.l (rows kE Entry.row a), .l (rows kE Entry.row b)]) ?h1 ?h2 _ ?hs]
  case hs => rfl
  case h1 =>
    intro i y hi
    have hlt : i < a.length := (List.getElem?_eq_some_iff.1 hi).1
    simp only [lI, lL, List.getElem?_cons_zero, List.getElem?_cons_succ, rows_len, dec_lt hlt, br_true, Int.toNat_natCast]
    refine chkN (idxE hi ((has b y hb' _).trans ?_))
    rw [br_eq, wrapS (by omega)]
  case h2 =>
    simp only [lI, lL, List.getElem?_cons_zero, List.getElem?_cons_succ, rows_len, dec_ge, br_false]
  rw [show a.any (fun y => !decide (y ∈ b)) = !(a.all fun e => decide (e ∈ b)) by rw [List.not_all_eq_any_not]]
  cases a.all fun e => decide (e ∈ b)
  · simp [lB]
  · simp only [Bool.not_true, Bool.false_eq_true, if_false, Option.bind_some, Bool.true_and, reduceCtorEq, Nat.one_ne_zero]
    rw [while_any (fun i : Nat => ([.i (i : Int), .l (rows kE Entry.row a), .l (rows kE Entry.row b)] : List Leaf)) b (fun y => !decide (y ∈ a)) (0, [.b false]) (1, []) ?h1 ?h2 _ ?hs]
    case hs => rfl
    case h1 =>
      intro i y hi
      have hlt : i < b.length := (List.getElem?_eq_some_iff.1 hi).1
      simp only [lI, lL, List.getElem?_cons_zero, List.getElem?_cons_succ, rows_len, dec_lt hlt, br_true, Int.toNat_natCast]
      refine chkN (idxE hi ((has a y ha' _).trans ?_))
      rw [br_eq, wrapS (by omega)]
    case h2 =>
      simp only [lI, lL, List.getElem?_cons_zero, List.getElem?_cons_succ, rows_len, dec_ge, br_false]
    rw [show b.any (fun y => !decide (y ∈ a)) = !(b.all fun e => decide (e ∈ a)) by rw [List.not_all_eq_any_not]]
    cases b.all fun e => decide (e ∈ a) <;> simp [lB]

theorem toEntry (e : Entry) (k : List UInt8 → List UInt8 → List UInt8 → Int → Int → List UInt8 → Int → Bool → List UInt8 → Int → Option β) : F88 β e.top e.host e.path e.status e.kind e.body e.age e.shares e.policy e.expire k = k e.top e.host e.path e.status e.kind e.body e.age e.shares e.policy e.expire := rfl
def Entry.nul : Entry := ⟨[], [], [], 0, 0, [], 0, false, [], 0⟩
theorem toEntryS (a : List Entry) (ha : a.length ≤ 1048576) (k : List V → Option β) : F48 β (rows kE Entry.row a) k = k (rows kE Entry.row a) := by
  simp only [F48, P48, rows_len, whileK, Int.toNat_natCast]
  refine chkE ⟨by omega, by omega, by omega, by omega⟩ ?_
  rw [while_each (fun i : Nat => ([.l (rows kE Entry.row a), .l (rows kE Entry.row (copyS a Entry.nul i)), .i (i : Int)] : List Leaf)) a (0, [.l (rows kE Entry.row a)]) ?h1 ?h2 _ ?hs]
  case hs => rw [← rows_copy0 rfl]; rfl
  case h1 =>
    intro i y hi
    have hlt : i < a.length := (List.getElem?_eq_some_iff.1 hi).1
    have hl := copyS_len (a := a) (n := Entry.nul) (i := i) (by omega)
    refine brE (Int.ofNat_lt.2 (by rw [show (lL _ 0 : List V) = rows kE Entry.row a from rfl, rows_len]; exact hlt)) (chkE (Int.natCast_nonneg _) (idxE (i := i) hi ((toEntry y _).trans (chkE ⟨Int.natCast_nonneg _, ?_⟩ (storeE (g := Entry.row) (y := y) (i := i) rfl (by rw [hl]; exact hlt) ?_)))))
    · show (Int.toNat (i : Int)) < (rows kE Entry.row (copyS a Entry.nul i)).length
      rw [rows_len, hl]; exact hlt
    · rw [copyS_set hi]
      exact congrArg (fun j : Int => (some (Sum.inl ([.l (rows kE Entry.row a), .l (rows kE Entry.row (copyS a Entry.nul (i + 1))), .i j] : List Leaf)) : Option (List Leaf ⊕ (Nat × List Leaf)))) (wrapS (i := i) (by omega))
  case h2 =>
    rw [copyS_end]
    exact brN (by rw [show (lL _ 0 : List V) = rows kE Entry.row a from rfl, rows_len]; exact Int.lt_irrefl _) rfl
  · rfl
def okL (a : List Entry) : Prop := a.length ≤ maxLen ∧ ∀ e ∈ a, e.ok
theorem law (a b : List Entry) (ha : okL a) (hb : okL b) (k : Bool → Option β) : F3 β (rows kE Entry.row a) (rows kE Entry.row b) k = k true := by
  simp only [F3, P3, F11, P11]
  rw [szEntryS a _ (by omega) (by omega) ha.1 ha.2]
  unfold szL
  by_cases c1 : (1048576 : Int) < ((a.length + sumL Entry.size a : Nat) : Int)
  · rw [if_pos c1]; rfl
  · rw [if_neg c1]
    have d1 : decide ((1048576 : Int) - ((a.length + sumL Entry.size a : Nat) : Int) < 0) = false := by simp; omega
    simp only [d1, br_false]
    rw [szEntryS b _ (by omega) (by omega) hb.1 hb.2]
    unfold szL
    by_cases c2 : (1048576 : Int) - ((a.length + sumL Entry.size a : Nat) : Int) < ((b.length + sumL Entry.size b : Nat) : Int)
    · rw [if_pos c2]; rfl
    · rw [if_neg c2]
      have d2 : decide ((1048576 : Int) - ((a.length + sumL Entry.size a : Nat) : Int) - ((b.length + sumL Entry.size b : Nat) : Int) < 0) = false := by simp; omega
      simp only [d2, br_false]
      have la : a.length ≤ 1048576 := by omega
      have lb : b.length ≤ 1048576 := by omega
      have la' : a.length < 4611686018427387904 := by omega
      have lb' : b.length < 4611686018427387904 := by omega
      simp only [F13, P13, F15, P15, toEntryS a la, toEntryS b lb, sameSpec a b ha.1 hb.1, sameImpl a b ha.1 hb.1, eqEntryS a a la', eqEntryS b b lb', decide_true, Bool.not_true, br_false, BEq.rfl]
end Go.Am

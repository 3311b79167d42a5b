/-
  Reckoning with the functions that the machine's looking form gives: rows as data, loops over lists. No theorem about a Go program stands here.
-/
import Derived.Test.YtcajalfelmgeiaaAmEvOk2
set_option linter.unusedVariables false
set_option linter.unusedSimpArgs false
namespace Go.Am
open Go
section
variable {α : Type}

/-! ### rows as data -/
theorem ck_dec {k : CK} (e : k.T) : k.dec (k.enc e) = some e := by
  cases k with
  | bool => rfl
  | int k => simp [CK.dec, CK.enc]
  | str => rfl
  | sl s f => simp [CK.dec, CK.enc]
theorem cells_dec : ∀ {ks : List CK} (e : cellsT ks), cellsDec ks (cellsEnc ks e) = some e := by
  intro ks
  induction ks with
  | nil => intro e; rfl
  | cons k ks ih =>
    intro e
    show (match k.dec (k.enc e.1), cellsDec ks (cellsEnc ks e.2) with
      | some a, some b => some (a, b)
      | _, _ => none) = some e
    rw [ck_dec, ih]
    rfl
theorem cells_one {k : CK} (e : cellsT [k]) : ∃ v, cellsEnc [k] e = [v] ∧ v.cells = [v] ∧ ∀ cs, v ≠ .agg cs := by
  cases k <;> exact ⟨_, rfl, rfl, fun _ h => by cases h⟩
theorem row_dec_true {ks : List CK} (e : cellsT ks) : rowDec true ks (rowEnc true ks e) = some e := cells_dec e
theorem row_dec_one {k : CK} (e : cellsT [k]) : rowDec false [k] (rowEnc false [k] e) = some e := by
  have := cells_dec e
  obtain ⟨v, h1, _, h3⟩ := cells_one e
  have h4 : rowEnc false [k] e = v := by
    show (cellsEnc [k] e).headD .undef = v
    rw [h1]; rfl
  rw [h4, ← this, h1]
  cases v <;> first | rfl | exact absurd rfl (h3 _)
/-- A list's rows. -/
def rows {T : Type} (ks : List CK) (g : T → cellsT ks) (ys : List T) : List V := ys.map (fun y => rowEnc true ks (g y))
def rows1 {T : Type} (k : CK) (g : T → k.T) (ys : List T) : List V := ys.map (fun y => k.enc (g y))
section
variable {T : Type} {ks : List CK} {g : T → cellsT ks} {kd : CK} {g1 : T → kd.T}
@[simp] theorem rows_len (ys : List T) : (rows ks g ys).length = ys.length := List.length_map _
@[simp] theorem rows1_len (ys : List T) : (rows1 kd g1 ys).length = ys.length := List.length_map _
@[simp] theorem rows_nil : rows ks g [] = [] := rfl
@[simp] theorem rows1_nil : rows1 kd g1 [] = [] := rfl
theorem rows_app (xs ys : List T) : rows ks g xs ++ rows ks g ys = rows ks g (xs ++ ys) := (List.map_append ..).symm
theorem rows1_app (xs ys : List T) : rows1 kd g1 xs ++ rows1 kd g1 ys = rows1 kd g1 (xs ++ ys) := (List.map_append ..).symm
theorem rows_take (ys : List T) (n : Nat) : (rows ks g ys).take n = rows ks g (ys.take n) := (List.map_take ..).symm
theorem rows_drop (ys : List T) (n : Nat) : (rows ks g ys).drop n = rows ks g (ys.drop n) := (List.map_drop ..).symm
theorem rows1_take (ys : List T) (n : Nat) : (rows1 kd g1 ys).take n = rows1 kd g1 (ys.take n) := (List.map_take ..).symm
theorem rows1_drop (ys : List T) (n : Nat) : (rows1 kd g1 ys).drop n = rows1 kd g1 (ys.drop n) := (List.map_drop ..).symm
theorem idx_rows {ys : List T} {i : Nat} {y : T} {k : cellsT ks → Option α} (h : ys[i]? = some y) : idx true ks (rows ks g ys) i k = k (g y) := by
  unfold idx rows
  rw [List.getElem?_map, h]
  simp only [Option.map_some, Option.bind_some, row_dec_true]
theorem idx_rows1 {ys : List T} {i : Nat} {y : T} {k : cellsT [kd] → Option α} (h : ys[i]? = some y) : idx false [kd] (rows1 kd g1 ys) i k = k (g1 y, ()) := by
  unfold idx rows1
  rw [List.getElem?_map, h]
  have : rowDec false [kd] (kd.enc (g1 y)) = some (g1 y, ()) := row_dec_one (k := kd) (g1 y, ())
  simp only [Option.map_some, Option.bind_some, this]
  rfl
theorem storeO_rows {ys : List T} {i : Nat} {y : T} {new : List V} {k : List V → Option α} (hn : new = cellsEnc ks (g y)) (h : i < ys.length) : storeO (rows ks g ys) i 0 new k = k (rows ks g (ys.set i y)) := by
  subst hn
  unfold storeO storeRow rows
  rw [List.getElem?_map, List.getElem?_eq_getElem h]
  have hl : ∀ e : cellsT ks, (cellsEnc ks e).length = ks.length := fun e => (cells_enc (cells_dec e)).2
  have h1 : over (rowEnc true ks (g ys[i])).cells 0 (cellsEnc ks (g y)) = some (cellsEnc ks (g y)) := by
    show over (cellsEnc ks (g ys[i])) 0 (cellsEnc ks (g y)) = _
    unfold over
    rw [if_pos (by rw [hl, hl]; omega)]
    simp [hl]
  simp only [Option.map_some, h1]
  rw [List.map_set]
  rfl
theorem storeO_rows1 {ys : List T} {i : Nat} {y : T} {new : List V} {k : List V → Option α} (hn : new = [kd.enc (g1 y)]) (h : i < ys.length) : storeO (rows1 kd g1 ys) i 0 new k = k (rows1 kd g1 (ys.set i y)) := by
  subst hn
  unfold storeO storeRow rows1
  rw [List.getElem?_map, List.getElem?_eq_getElem h]
  have hc : ∀ e : kd.T, (kd.enc e).cells = [kd.enc e] := fun e => by cases kd <;> rfl
  have hr : ∀ (e : kd.T) (v : V), reshape (kd.enc e) [v] = v := fun e v => by cases kd <;> rfl
  simp only [Option.map_some, hc, over]
  simp only [List.length_singleton, Nat.zero_add, Nat.le_refl, if_true, List.take_zero, List.nil_append, List.drop_succ_cons, List.drop_zero, List.append_nil, hr]
  rw [List.map_set]
theorem rows_replicate {e : V} {y : T} (n : Nat) (h : e = rowEnc true ks (g y)) : List.replicate n e = rows ks g (List.replicate n y) := by
  unfold rows
  rw [List.map_replicate, h]
theorem rows1_replicate {e : V} {y : T} (n : Nat) (h : e = kd.enc (g1 y)) : List.replicate n e = rows1 kd g1 (List.replicate n y) := by
  unfold rows1
  rw [List.map_replicate, h]
end

/-! ### branches and checks -/
@[simp] theorem br_true (x y : Option α) : br true x y = x := rfl
@[simp] theorem br_false (x y : Option α) : br false x y = y := rfl
theorem br_eq (b : Bool) (x y : Option α) : br b x y = if b = true then x else y := by cases b <;> rfl
theorem chk_pos {p : Prop} [Decidable p] {x : Option α} (h : p) : chk p x = x := if_pos h
theorem chk_nn {i : Nat} {d : Decidable ((0 : Int) ≤ (i : Int))} {x : Option α} : @chk α ((0 : Int) ≤ (i : Int)) d x = x := if_pos (Int.natCast_nonneg i)
theorem chk_p {p : Prop} {d : Decidable p} {x : Option α} (h : p) : @chk α p d x = x := if_pos h
theorem wrap_of {n : Int} (h1 : -9223372036854775808 ≤ n) (h2 : n ≤ 9223372036854775807) : IntKind.wrap .i64 n = n := by
  unfold IntKind.wrap
  simp [IntKind.bits, IntKind.signed, IntKind.min, IntKind.max]
  omega
theorem br_eq_ (b : Bool) (x y : Option α) : br b x y = if b = true then x else y := by cases b <;> rfl
theorem chkE {p : Prop} {d : Decidable p} {x y : Option α} (h : p) (e : x = y) : @chk α p d x = y := (if_pos h).trans e
theorem chkN {i : Nat} {d : Decidable ((0 : Int) ≤ (i : Int))} {x y : Option α} (e : x = y) : @chk α ((0 : Int) ≤ (i : Int)) d x = y := (if_pos (Int.natCast_nonneg i)).trans e
theorem idxE {T : Type} {ks : List CK} {g : T → cellsT ks} {ys : List T} {i : Nat} {y : T} {k : cellsT ks → Option α} {z : Option α} (h : ys[i]? = some y) (e : k (g y) = z) : idx true ks (rows ks g ys) i k = z := (idx_rows h).trans e
theorem idxE1 {T : Type} {kd : CK} {g1 : T → kd.T} {ys : List T} {i : Nat} {y : T} {k : cellsT [kd] → Option α} {z : Option α} (h : ys[i]? = some y) (e : k (g1 y, ()) = z) : idx false [kd] (rows1 kd g1 ys) i k = z := (idx_rows1 h).trans e
theorem brE {p : Prop} {d : Decidable p} {x y z : Option α} (h : p) (e : x = z) : br (@decide p d) x y = z := by rw [decide_eq_true h]; exact e
theorem brN {p : Prop} {d : Decidable p} {x y z : Option α} (h : ¬ p) (e : y = z) : br (@decide p d) x y = z := by rw [decide_eq_false h]; exact e
theorem brB {b c : Bool} {x y x' y' : Option α} (h : b = c) (hx : x = x') (hy : y = y') : br b x y = if c = true then x' else y' := by subst h; subst hx; subst hy; exact br_eq_ b x y
theorem br_k (b : Bool) (k : Bool → Option α) : br b (k true) (k false) = k b := by cases b <;> rfl
theorem br_nk (b : Bool) (k : Bool → Option α) : br (!b) (k false) (k true) = k b := by cases b <;> rfl

theorem ite_k (p : Prop) [Decidable p] (q : Bool) (k : Bool → Option α) : (if p then k q else k false) = k (decide p && q) := by by_cases h : p <;> simp [h]
theorem wrapS {i : Nat} (h : i < 9223372036854775807) : IntKind.wrap .i64 ((i : Int) + 1) = ((i + 1 : Nat) : Int) := by
  rw [wrap_of (by omega) (by omega)]; omega
theorem dec_lt {i n : Nat} (h : i < n) : decide ((i : Int) < (n : Int)) = true := by simp [h]
theorem dec_ge {n : Nat} : decide ((n : Int) < (n : Int)) = false := by simp

/-! ### loops over lists -/
section
variable {T A R σ β : Type}
def runL (body : Nat → T → A → A ⊕ R) : Nat → List T → A → A ⊕ R
  | _, [], a => .inl a
  | i, y :: ys, a => match body i y a with
    | .inl a' => runL body (i + 1) ys a'
    | .inr r => .inr r
def outL (fin : A → β) (out : R → β) : A ⊕ R → β
  | .inl a => fin a
  | .inr r => out r
theorem while_runL {step : σ → Option (σ ⊕ β)} (S : Nat → A → σ) (out : R → β) (fin : A → β) (ys : List T) (body : Nat → T → A → A ⊕ R) (Inv : Nat → A → Prop)
    (h1 : ∀ i y a, ys[i]? = some y → Inv i a → step (S i a) = (match body i y a with
      | .inl a' => some (.inl (S (i + 1) a'))
      | .inr r => some (.inr (out r))))
    (hI : ∀ i y a a', ys[i]? = some y → Inv i a → body i y a = .inl a' → Inv (i + 1) a')
    (h2 : ∀ a, Inv ys.length a → step (S ys.length a) = some (.inr (fin a))) (a0 : A) (h0 : Inv 0 a0) (s0 : σ) (hs : s0 = S 0 a0) :
    whileInf step s0 = some (outL fin out (runL body 0 ys a0)) := by
  have key : ∀ (zs : List T) (i : Nat) (a : A), ys.drop i = zs → i ≤ ys.length → Inv i a → whileInf step (S i a) = some (outL fin out (runL body i zs a)) := by
    intro zs
    induction zs with
    | nil =>
      intro i a hd hi ha
      have : i = ys.length := by
        have := List.drop_eq_nil_iff.1 hd
        omega
      subst this
      rw [whileInf_step, h2 a ha]
      rfl
    | cons y zs ih =>
      intro i a hd hi ha
      have hy : ys[i]? = some y := by
        have := congrArg (fun l => l[0]?) hd
        simpa using this
      have hlt := (List.getElem?_eq_some_iff.1 hy).1
      have hd' : ys.drop (i + 1) = zs := by
        rw [← List.tail_drop, hd]
        rfl
      rw [whileInf_step, h1 i y a hy ha, runL]
      cases hb : body i y a with
      | inl a' => exact ih (i + 1) a' hd' (by omega) (hI i y a a' hy ha hb)
      | inr r => rfl
  rw [hs]
  exact key ys 0 a0 rfl (Nat.zero_le _) h0

/-- A loop that looks for something. -/
theorem while_find {step : σ → Option (σ ⊕ β)} (S : Nat → σ) (ys : List T) (p : T → Bool) (hit : Nat → T → β) (fin : β)
    (h1 : ∀ i y, ys[i]? = some y → step (S i) = if p y then some (.inr (hit i y)) else some (.inl (S (i + 1)))) (h2 : step (S ys.length) = some (.inr fin)) (s0 : σ) (hs : s0 = S 0) :
    whileInf step s0 = some (match ys.findIdx? p with
      | some i => (match ys[i]? with
        | some y => hit i y
        | none => fin)
      | none => fin) := by
  have h := while_runL (A := Unit) (R := Nat × T) (fun i _ => S i) (fun r => hit r.1 r.2) (fun _ => fin) ys (fun i y _ => if p y then .inr (i, y) else .inl ()) (fun _ _ => True)
    (fun i y a hy _ => by rw [h1 i y hy]; cases p y <;> rfl) (fun _ _ _ _ _ _ _ => trivial) (fun _ _ => h2) () trivial s0 hs
  rw [h]
  have key : ∀ (zs : List T) (i : Nat), ys.drop i = zs → outL (fun _ : Unit => fin) (fun r : Nat × T => hit r.1 r.2) (runL (fun i y (_ : Unit) => if p y then .inr (i, y) else .inl ()) i zs ()) = (match (zs.findIdx? p).map (· + i) with
      | some i => (match ys[i]? with
        | some y => hit i y
        | none => fin)
      | none => fin) := by
    intro zs
    induction zs with
    | nil => intro i _; rfl
    | cons y zs ih =>
      intro i hd
      have hy : ys[i]? = some y := by
        have := congrArg (fun l => l[0]?) hd
        simpa using this
      have hd' : ys.drop (i + 1) = zs := by rw [← List.tail_drop, hd]; rfl
      rw [runL, List.findIdx?_cons]
      cases hp : p y with
      | true => simp [hy, outL]
      | false =>
        simp only [Bool.false_eq_true, if_false]
        rw [ih (i + 1) hd']
        cases zs.findIdx? p with
        | none => rfl
        | some j => simp [Nat.add_assoc, Nat.add_comm 1 i]
  rw [key ys 0 rfl]
  cases ys.findIdx? p <;> rfl
theorem while_any {step : σ → Option (σ ⊕ β)} (S : Nat → σ) (ys : List T) (p : T → Bool) (hit fin : β)
    (h1 : ∀ i y, ys[i]? = some y → step (S i) = if p y then some (.inr hit) else some (.inl (S (i + 1)))) (h2 : step (S ys.length) = some (.inr fin)) (s0 : σ) (hs : s0 = S 0) :
    whileInf step s0 = some (if ys.any p then hit else fin) := by
  rw [while_find S ys p (fun _ _ => hit) fin h1 h2 s0 hs]
  congr 1
  cases hf : ys.findIdx? p with
  | none =>
    have := List.findIdx?_eq_none_iff.1 hf
    have ha : ys.any p = false := by
      rw [List.any_eq_false]
      intro x hx
      simp [this x hx]
    simp [ha]
  | some i =>
    obtain ⟨hi, hp, _⟩ := List.findIdx?_eq_some_iff_getElem.1 hf
    have ha : ys.any p = true := List.any_eq_true.2 ⟨ys[i], List.getElem_mem hi, hp⟩
    simp [ha, hi]
end

/-! ### copying -/
def copyS {T : Type} (a : List T) (n : T) (i : Nat) : List T := a.take i ++ List.replicate (a.length - i) n
theorem copyS_len {T : Type} {a : List T} {n : T} {i : Nat} (h : i ≤ a.length) : (copyS a n i).length = a.length := by unfold copyS; simp; omega
theorem copyS_end {T : Type} {a : List T} {n : T} : copyS a n a.length = a := by unfold copyS; simp
theorem copyS_set {T : Type} {a : List T} {n : T} {i : Nat} {y : T} (h : a[i]? = some y) : (copyS a n i).set i y = copyS a n (i + 1) := by
  obtain ⟨hi, hy⟩ := List.getElem?_eq_some_iff.1 h
  unfold copyS
  rw [List.set_append]
  have hl : (a.take i).length = i := by simp; omega
  rw [if_neg (by omega), hl, Nat.sub_self, show a.length - i = (a.length - (i + 1)) + 1 by omega, List.replicate_succ, List.set_cons_zero, List.take_add_one, h]
  simp
theorem rows_copy0 {T : Type} {ks : List CK} {g : T → cellsT ks} {a : List T} {n : T} {e : V} (h : e = rowEnc true ks (g n)) : List.replicate a.length e = rows ks g (copyS a n 0) := by
  unfold copyS
  rw [rows_replicate a.length h]
  simp
theorem rows1_copy0 {T : Type} {kd : CK} {g1 : T → kd.T} {a : List T} {n : T} {e : V} (h : e = kd.enc (g1 n)) : List.replicate a.length e = rows1 kd g1 (copyS a n 0) := by
  unfold copyS
  rw [rows1_replicate a.length h]
  simp
theorem storeE {T : Type} {ks : List CK} {g : T → cellsT ks} {ys : List T} {i : Nat} {y : T} {new : List V} {k : List V → Option α} {z : Option α} (hn : new = cellsEnc ks (g y)) (h : i < ys.length) (e : k (rows ks g (ys.set i y)) = z) : storeO (rows ks g ys) i 0 new k = z := (storeO_rows hn h).trans e
theorem storeE1 {T : Type} {kd : CK} {g1 : T → kd.T} {ys : List T} {i : Nat} {y : T} {new : List V} {k : List V → Option α} {z : Option α} (hn : new = [kd.enc (g1 y)]) (h : i < ys.length) (e : k (rows1 kd g1 (ys.set i y)) = z) : storeO (rows1 kd g1 ys) i 0 new k = z := (storeO_rows1 hn h).trans e
/-- A loop that does a thing for every element, and never leaves early. -/
theorem while_each {T σ β : Type} {step : σ → Option (σ ⊕ β)} (S : Nat → σ) (ys : List T) (fin : β) (h1 : ∀ i y, ys[i]? = some y → step (S i) = some (.inl (S (i + 1)))) (h2 : step (S ys.length) = some (.inr fin)) (s0 : σ) (hs : s0 = S 0) : whileInf step s0 = some fin := by
  rw [while_any S ys (fun _ => false) fin fin (fun i y hi => by rw [h1 i y hi]; rfl) h2 s0 hs]
  simp
end
end Go.Am

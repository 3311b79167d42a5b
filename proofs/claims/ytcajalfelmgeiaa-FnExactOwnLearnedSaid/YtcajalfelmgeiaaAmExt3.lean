/-
  Functions that sort a fresh copy: what the machine answers for them (an own new slice), and that this is what they do. No theorem about a Go program of this place stands here.
-/
import Derived.Test.YtcajalfelmgeiaaAmExt
import Derived.Test.YtcajalfelmgeiaaAmComp
import Derived.Lib.Bytealg
import Derived.Lib.SlicesCompact
import Derived.Shelf.GgSortFunc.InsertionK
set_option linter.unusedVariables false
set_option linter.unusedSimpArgs false
namespace Go.Am
open Go Go.RowKit
section
variable {P : Program} {c : Cfg}

/-- An own new slice as an answer. -/
theorem answer_own {R : Nat → Prop} {w w' : World} {s : Nat} {q : Q} {ys : List V} {g o cap : Nat} {cur : Array Value} {ty : TypeId} (hk : Kept w w') (hq : flatOk q ys) (hn : w.heap.size ≤ g) (hg : w'.heap[g]? = some (.cells cur ty (0, 0))) (hl : ys.length ≤ cap) (hm : cap ≤ maxLen) (hc : o + cap * s ≤ cur.size)
    (hr : Rows w' (fun _ => False) s ys g o) : Answer R w (.own 0 s q ys) (.slice (some ⟨g, o, none⟩) ys.length cap) w' := by
  have hlt : g < w'.heap.size := by
    rcases Nat.lt_or_ge g w'.heap.size with h | h
    · exact h
    · rw [Array.getElem?_eq_none h] at hg; cases hg
  let Γ : Ctx := { w0 := w', F := fun k => w.heap.size ≤ k, S := fun _ => False, has := fun b => b = 0, blk := fun _ => g, off := fun _ => o, cap := fun _ => cap, sz := fun _ => s, ln := fun _ => ys.length, lb := fun _ => False, box := fun _ => 0, R := fun _ => False, Z := fun k => k = g }
  refine ⟨hk.1, hk.2.1, hk.2.2.1, hk.2.2.2.1, hk.2.2.2.2, Γ, ?_, fun _ h => h, fun _ h => h.elim, ?_, fun b b' h h' _ => h.trans h'.symm, fun _ _ => rfl, fun k hk => by rw [show k = g from hk]; exact ⟨hn, hlt, cur, ty, hg⟩⟩
  · exact VR.own (Γ := Γ) 0 s q ys rfl rfl ⟨hl, rfl⟩ (hr.mono (fun _ h => h.elim) (fun _ h => h.elim) (fun _ _ _ => rfl)) hq
  · intro b hb
    exact ⟨hn, hlt, fun h => h, hm, cur, ty, hg, hc⟩

theorem answer_ownNil {R : Nat → Prop} {w w' : World} {s : Nat} {q : Q} (hk : Kept w w') : Answer R w (.own 0 s q []) (.slice none 0 0) w' := by
  let Γ : Ctx := { w0 := w', F := fun k => w.heap.size ≤ k, S := fun _ => False, has := fun _ => False, blk := fun _ => 0, off := fun _ => 0, cap := fun _ => 0, sz := fun _ => 0, ln := fun _ => 0, lb := fun _ => False, box := fun _ => 0, R := fun _ => False, Z := fun _ => False }
  exact ⟨hk.1, hk.2.1, hk.2.2.1, hk.2.2.2.1, hk.2.2.2.2, Γ, VR.ownNil (Γ := Γ) 0 s q (fun h => h), fun _ h => h, fun _ h => h.elim, fun _ h => h.elim, fun _ _ h => h.elim, fun _ h => h.elim, fun _ h => h.elim⟩
theorem Kept.trans {w w1 w2 : World} (h : Kept w w1) (h' : Kept w1 w2) : Kept w w2 :=
  ⟨h'.1.trans h.1, h'.2.1.trans h.2.1, h'.2.2.1.trans h.2.2.1, Nat.le_trans h.2.2.2.1 h'.2.2.2.1, fun k hk => (h'.2.2.2.2 k (Nat.lt_of_lt_of_le hk h.2.2.2.1)).trans (h.2.2.2.2 k hk)⟩
theorem Kept.alloc (w : World) (o : Obj) : Kept w (w.alloc o) := ⟨rfl, rfl, rfl, by show w.heap.size ≤ (w.heap.push o).size; simp, fun k hk => by show (w.heap.push o)[k]? = _; rw [Array.getElem?_push, if_neg (by omega)]⟩
theorem Kept.of_answer {R : Nat → Prop} {w w' : World} {r : V} {x : Value} (h : Answer R w r x w') : Kept w w' := ⟨h.os, h.tape, h.output, h.size, h.old⟩
theorem Kept.glob {w w' : World} (h : Kept w w') (hg : globOk w) : globOk w' :=
  ⟨globStable _ _ hg.1 (fun k hk => h.2.2.2.2 k (Nat.lt_of_lt_of_le hk hg.2)), Nat.le_trans hg.2 h.2.2.2.1⟩
theorem Kept.rd {w w' : World} {R : Nat → Prop} (h : Kept w w') (hR : ∀ k, R k → k < w.heap.size) {v : V} {x : Value} (hr : Rd w R v x) : Rd w' R v x :=
  hr.mono (fun _ h => h) (fun k hk o => by simp only [World.cell?, h.2.2.2.2 k (hR k hk)])
theorem Kept.lt {w w' : World} (h : Kept w w') {R : Nat → Prop} (hR : ∀ k, R k → k < w.heap.size) : ∀ k, R k → k < w'.heap.size := fun k hk => Nat.lt_of_lt_of_le (hR k hk) h.2.2.2.1
theorem rd_sl {w : World} {S : Nat → Prop} {s : Nat} {f : Bool} {xs : List V} {v : Value} (h : Rd w S (.sl s f xs) v) : ∃ a n c, v = .slice a n c := by
  cases h with
  | empty => exact ⟨_, _, _, rfl⟩
  | sl => exact ⟨_, _, _, rfl⟩
/-- An answer that is an own slice of one cell a row: nil, or a new block. -/
theorem Answer.own1 {R : Nat → Prop} {w w' : World} {j : Nat} {xs : List V} {x : Value} (h : Answer R w (.own j 1 .flat xs) x w') : (xs = [] ∧ x = .slice none 0 0) ∨
    ∃ (g o cap : Nat) (cur : Array Value) (ty : TypeId), x = .slice (some ⟨g, o, none⟩) xs.length cap ∧ w.heap.size ≤ g ∧ w'.heap[g]? = some (.cells cur ty (0, 0)) ∧ xs.length ≤ cap ∧ cap ≤ maxLen ∧ o + cap ≤ cur.size ∧ ∀ (i : Nat) v, xs[i]? = some v → ∃ c, v.cells = [c] ∧ ∃ y, w'.cell? ⟨g, o + i, none⟩ = some y ∧ ∃ S, Rd w' S c y := by
  obtain ⟨Γ, hv, hF, hS, hb, _⟩ := h.val
  cases hv with
  | rd _ _ h => cases h
  | ownNil _ _ _ h => exact .inl ⟨rfl, rfl⟩
  | own _ _ _ _ hj hs hl hr hq =>
    obtain ⟨b1, b2, _, b4, cur, ty, b5, b6⟩ := hb j hj
    obtain ⟨r1, gf, r2, r3⟩ := hr
    refine .inr ⟨_, _, _, cur, ty, rfl, b1, b5, hl.1, b4, by rw [← hs, Nat.mul_one] at b6; exact b6, fun i v hi => ?_⟩
    have hil := (List.getElem?_eq_some_iff.1 hi).1
    have hc := r1 v (List.mem_of_getElem? hi)
    obtain ⟨c, hc2⟩ : ∃ c, v.cells = [c] := by
      match hh : v.cells, hc with
      | [c], _ => exact ⟨c, rfl⟩
    have h2 := (r2 i 0 hil (by omega)).1
    rw [Nat.mul_one, Nat.add_zero] at h2
    exact ⟨c, hc2, _, h2, _, r3 i v 0 c hi (by rw [hc2]; rfl)⟩

/-! ### slices of two strings' structs -/
abbrev Pr := List UInt8 × List UInt8
def prV (p : Pr) : V := .agg [.str p.1, .str p.2]
def prsOf : List V → Option (List Pr)
  | [] => some []
  | .agg [.str a, .str b] :: vs => (prsOf vs).map ((a, b) :: ·)
  | _ :: _ => none
theorem prsOf_inv : ∀ {xs : List V} {l : List Pr}, prsOf xs = some l → xs = l.map prV := by
  intro xs
  induction xs with
  | nil => intro l h; simp only [prsOf, Option.some.injEq] at h; subst h; rfl
  | cons x xs ih =>
    intro l h
    unfold prsOf at h
    split at h
    · rename_i h0; cases h0
    · rename_i a b vs h0
      injection h0 with h1 h2
      subst h1 h2
      cases hb : prsOf xs with
      | none => rw [hb] at h; cases h
      | some m =>
        rw [hb] at h
        simp only [Option.map_some, Option.some.injEq] at h
        rw [← h, List.map_cons, ← ih hb]
        rfl
    · cases h
theorem prsOf_map (l : List Pr) : prsOf (l.map prV) = some l := by
  induction l with
  | nil => rfl
  | cons p l ih =>
    show (prsOf (l.map prV)).map ((p.1, p.2) :: ·) = _
    rw [ih]
    rfl
/-- The order of two: by the first strings, then by the second. -/
def cmpPr (x y : Pr) : Int := if Lib.compareBytes x.1 y.1 ≠ 0 then Lib.compareBytes x.1 y.1 else Lib.compareBytes x.2 y.2
def ltPr (x y : Pr) : Bool := decide (cmpPr x y < 0)
/-- Sorted, without repetition. -/
def sortPr (l : List Pr) : List Pr := Lib.compact (l.mergeSort fun x y => !ltPr y x)
def sortPrV : List V → Option V
  | [.sl 2 true xs] => match prsOf xs with
    | some l => if l.length ≤ 1099511627776 then some (.own 0 2 .flat ((sortPr l).map prV)) else none
    | none => none
  | _ => none
def encPr (p : Pr) : List Value := [.string ⟨p.1.toArray⟩, .string ⟨p.2.toArray⟩]
/-- What such a function leaves. -/
def LeftPr (w : World) (l : List Pr) (e : Ending) (w' : World) : Prop := ∃ (g cap : Nat) (cur : Array Value) (ty : TypeId), e = .returned (.slice (some ⟨g, 0, none⟩) (sortPr l).length cap) ∧ Kept w w' ∧ w.heap.size ≤ g ∧ w'.heap[g]? = some (.cells cur ty (0, 0)) ∧
  (sortPr l).length ≤ cap ∧ cap ≤ maxLen ∧ cap * 2 ≤ cur.size ∧ ∀ j x, (sortPr l)[j]? = some x → ∀ t, t < 2 → cur[j * 2 + t]? = (encPr x)[t]?

/-! ### the order of two -/
theorem cb_self : ∀ a : List UInt8, Lib.compareBytes a a = 0 := by
  intro a
  induction a with
  | nil => rfl
  | cons x a ih => simp [Lib.compareBytes, ih]
theorem cb_eq : ∀ {a b : List UInt8}, Lib.compareBytes a b = 0 → a = b := by
  intro a
  induction a with
  | nil => intro b h; cases b with
    | nil => rfl
    | cons y b => simp [Lib.compareBytes] at h
  | cons x a ih =>
    intro b h
    cases b with
    | nil => simp [Lib.compareBytes] at h
    | cons y b =>
      simp only [Lib.compareBytes] at h
      split at h
      · simp at h
      · split at h
        · simp at h
        · rename_i h1 h2
          have : x = y := by
            apply UInt8.toNat_inj.1
            rw [UInt8.lt_iff_toNat_lt] at h1 h2
            omega
          rw [this, ih h]
theorem cb_anti : ∀ a b : List UInt8, Lib.compareBytes b a = - Lib.compareBytes a b := by
  intro a
  induction a with
  | nil => intro b; cases b <;> rfl
  | cons x a ih =>
    intro b
    cases b with
    | nil => rfl
    | cons y b =>
      simp only [Lib.compareBytes]
      by_cases h1 : x < y
      · have h2 : ¬ y < x := by rw [UInt8.lt_iff_toNat_lt] at h1 ⊢; omega
        rw [if_pos h1, if_neg h2, if_pos h1]; rfl
      · by_cases h2 : y < x
        · simp [h1, h2]
        · simp [h1, h2, ih]
theorem cb_trans : ∀ a b c : List UInt8, Lib.compareBytes a b < 0 → Lib.compareBytes b c < 0 → Lib.compareBytes a c < 0 := by
  intro a
  induction a with
  | nil =>
    intro b c h1 h2
    cases c with
    | nil => cases b <;> simp [Lib.compareBytes] at h1 h2
    | cons z c => simp [Lib.compareBytes]
  | cons x a ih =>
    intro b c h1 h2
    cases b with
    | nil => simp [Lib.compareBytes] at h1
    | cons y b =>
      cases c with
      | nil => simp [Lib.compareBytes] at h2
      | cons z c =>
        simp only [Lib.compareBytes] at h1 h2 ⊢
        simp only [UInt8.lt_iff_toNat_lt] at h1 h2 ⊢
        by_cases e1 : x.toNat < y.toNat
        · by_cases e2 : y.toNat < z.toNat
          · rw [if_pos (by omega)]; omega
          · rw [if_neg e2] at h2
            by_cases e3 : z.toNat < y.toNat
            · rw [if_pos e3] at h2; omega
            · rw [if_pos (by omega)]; omega
        · rw [if_neg e1] at h1
          by_cases e3 : y.toNat < x.toNat
          · rw [if_pos e3] at h1; omega
          · rw [if_neg e3] at h1
            by_cases e2 : y.toNat < z.toNat
            · rw [if_pos (by omega)]; omega
            · rw [if_neg e2] at h2
              by_cases e4 : z.toNat < y.toNat
              · rw [if_pos e4] at h2; omega
              · rw [if_neg e4] at h2
                rw [if_neg (by omega), if_neg (by omega)]
                exact ih b c h1 h2
theorem cmp_self (x : Pr) : cmpPr x x = 0 := by simp [cmpPr, cb_self]
theorem cmp_eq {x y : Pr} (h : cmpPr x y = 0) : x = y := by
  unfold cmpPr at h
  by_cases h1 : Lib.compareBytes x.1 y.1 = 0
  · rw [if_neg (by simpa using h1)] at h
    exact Prod.ext (cb_eq h1) (cb_eq h)
  · rw [if_pos h1] at h; exact absurd h h1
theorem cmp_anti (x y : Pr) : cmpPr y x = - cmpPr x y := by
  unfold cmpPr
  rw [cb_anti x.1 y.1, cb_anti x.2 y.2]
  by_cases h1 : Lib.compareBytes x.1 y.1 = 0
  · simp [h1]
  · rw [if_pos (by omega), if_pos h1]
theorem cmp_trans (x y z : Pr) (h1 : cmpPr x y < 0) (h2 : cmpPr y z < 0) : cmpPr x z < 0 := by
  unfold cmpPr at *
  by_cases e1 : Lib.compareBytes x.1 y.1 = 0
  · have e := cb_eq e1
    rw [if_neg (by simpa using e1)] at h1
    rw [e]
    by_cases e2 : Lib.compareBytes y.1 z.1 = 0
    · rw [if_neg (by simpa using e2)] at h2 ⊢
      exact cb_trans _ _ _ h1 h2
    · rw [if_pos e2] at h2 ⊢; exact h2
  · rw [if_pos e1] at h1
    by_cases e2 : Lib.compareBytes y.1 z.1 = 0
    · have e := cb_eq e2
      rw [← e, if_pos e1]; exact h1
    · rw [if_pos e2] at h2
      have := cb_trans _ _ _ h1 h2
      rw [if_pos (by omega)]; exact this
theorem lt_irrefl (x : Pr) : ltPr x x = false := by simp [ltPr, cmp_self]
theorem lt_asym {x y : Pr} (h : ltPr x y = true) : ltPr y x = false := by
  have := cmp_anti x y
  simp only [ltPr, decide_eq_true_eq, decide_eq_false_iff_not] at h ⊢
  omega
theorem lt_trans' {x y z : Pr} (h1 : ltPr x y = true) (h2 : ltPr y z = true) : ltPr x z = true := by
  simp only [ltPr, decide_eq_true_eq] at h1 h2 ⊢
  exact cmp_trans _ _ _ h1 h2
theorem lt_tri {x y : Pr} (h1 : ltPr x y = false) (h2 : ltPr y x = false) : x = y := by
  have := cmp_anti x y
  simp only [ltPr, decide_eq_false_iff_not] at h1 h2
  exact cmp_eq (by omega)
theorem lt_of_not {x y : Pr} (h1 : ltPr y x = false) (hne : x ≠ y) : ltPr x y = true := by
  cases h : ltPr x y with
  | true => rfl
  | false => exact absurd (lt_tri h h1) hne

/-! ### the worlds behind the sort -/
theorem block_putRow {w : World} {blk : Nat} {F cur : Array Value} {ty : TypeId} (h : w.heap[blk]? = some (.cells cur ty (0, 0))) (hs : F.size ≤ cur.size) :
    ∃ cur' : Array Value, (Sort.putRow id w blk 0 F).heap[blk]? = some (.cells cur' ty (0, 0)) ∧ cur'.size = cur.size ∧ ∀ t, t < F.size → cur'[t]? = some F[t]! := by
  refine ⟨Sort.putCells id 0 F cur, ?_, by simp [Sort.putCells], fun t ht => ?_⟩
  · simp [Sort.putRow, Sort.mapBlock, Array.getElem?_modify, h, Sort.onCells]
  · have : t < cur.size := by omega
    simp [Sort.putCells, Array.getElem?_mapIdx, this, ht]
theorem below_put {B : Nat} {w0 w : World} {g q : Nat} {d : Array Value} (h : RowKit.Below B w0 w) (hg : B ≤ g) : RowKit.Below B w0 (Sort.putRow id (Sort.ahead w q) g 0 d) :=
  ⟨h.os, h.tape, h.output, by simpa [Sort.putRow, Sort.mapBlock, Sort.ahead] using h.size, fun k hk => by
    rw [← h.block k hk]
    simp [Sort.putRow, Sort.mapBlock, Sort.ahead, Array.getElem?_modify, show g ≠ k by omega]⟩
open Go.Proofs Go.Sort in
theorem left_pr {w W1 : World} {g cap nn q : Nat} {os : Array Obj} {ty : TypeId} {cur F : Array Value} {l : List Pr} {d' : Array Pr} (hb : RowKit.Below w.heap.size w W1) (hg : w.heap.size ≤ g) (hg1 : W1.heap[g]? = some (.cells cur ty (0, 0))) (hcap : l.length ≤ cap) (hm : cap ≤ maxLen) (hcs : cur.size = cap * 2)
    (hd : d' = (l.mergeSort fun x y => !ltPr y x).toArray) (hF : F.size = d'.size * 2) (hFx : ∀ j x, (Lib.compactUpTo d' d'.size)[j]? = some x → ∀ t, t < 2 → F[j * 2 + t]! = (encPr x)[t]!) :
    LeftPr w l (.returned (.slice (some ⟨g, 0, none⟩) (Lib.compactUpTo d' d'.size).length cap)) (putRow id (Sort.ahead (sortWorldK encPr 2 W1 g 0 nn d' os) q) g 0 F) := by
  have hds : d'.size = l.length := by rw [hd]; simp
  have hsp : sortPr l = Lib.compactUpTo d' d'.size := by
    rw [hd]
    unfold sortPr Lib.compact
    simp
  have hlen : (sortPr l).length ≤ l.length := by
    unfold sortPr Lib.compact Lib.compactUpTo
    rw [List.length_map]
    exact Nat.le_trans (List.length_filter_le _ _) (by simp)
  obtain ⟨cur2, hg2, hs2, _⟩ := block_putRow (w := Sort.ahead W1 nn) (blk := g) (F := flatK encPr 2 d') (cur := cur) (ty := ty) hg1 (by rw [size_flatK, hds, hcs]; omega)
  have hlt1 : g < W1.heap.size := by
    rcases Nat.lt_or_ge g W1.heap.size with h | h
    · exact h
    · rw [Array.getElem?_eq_none h] at hg1; cases hg1
  have hb2 : RowKit.Below w.heap.size w (sortWorldK encPr 2 W1 g 0 nn d' os) := by
    have h1 : RowKit.Below w.heap.size w (putRow id (Sort.ahead W1 nn) g 0 (flatK encPr 2 d')) := below_put hb hg
    refine ⟨h1.os, h1.tape, h1.output, ?_, fun k hk => ?_⟩
    · have := h1.size
      simp only [sortWorldK, putRowK, grow, Array.size_append]
      omega
    · rw [← h1.block k hk]
      show (grow (putRowK encPr 2 (Sort.ahead W1 nn) g 0 d') os).heap[k]? = _
      rw [heap_grow_old]
      · rfl
      · have := hb.size
        simp only [putRowK, size_putRow, heap_ahead]
        omega
  have hg3 : (Sort.ahead (sortWorldK encPr 2 W1 g 0 nn d' os) q).heap[g]? = some (.cells cur2 ty (0, 0)) := by
    show (grow (putRowK encPr 2 (Sort.ahead W1 nn) g 0 d') os).heap[g]? = _
    rw [heap_grow_old]
    · exact hg2
    · simp only [putRowK, size_putRow, heap_ahead]
      exact hlt1
  obtain ⟨cur3, hg4, hs4, hx4⟩ := block_putRow (F := F) hg3 (by rw [hF, hds, hs2, hcs]; omega)
  refine ⟨g, cap, cur3, ty, by rw [hsp], Kept.below (below_put hb2 hg), hg, hg4, by omega, hm, by omega, fun j x hj t ht => ?_⟩
  have hjl : j < (sortPr l).length := (List.getElem?_eq_some_iff.1 hj).1
  rw [hsp] at hj
  rw [hx4 _ (by omega), hFx j x hj t ht]
  have h5 : t < (encPr x).length := ht
  rw [List.getElem?_eq_getElem h5, getElem!_pos (encPr x) t h5]
theorem rd_pr_str {w : World} {S : Nat → Prop} {s : List UInt8} {x : Value} (h : Rd w S (.str s) x) : x = .string ⟨s.toArray⟩ := by
  cases h with
  | str _ y hy =>
    congr 1
    apply ByteArray.ext
    apply Array.ext'
    rw [hy]
theorem ext_sortPr {f : Nat} {fn : Func} (hf : P.funcs[f]? = some fn) (hb : fn.body.isNone = false) (hn : (fn.name == "runtime.NumGoroutine") = false)
    (h0 : ∀ (a : Option Addr) (cap : Nat) (w : World), Calls P f #[.slice a 0 cap] w fun e w' => LeftPr w [] e w')
    (h1 : ∀ (bk o cap : Nat) (l : List Pr) (w : World), 0 < l.length → (∀ j x, l[j]? = some x → ∀ t v, (encPr x)[t]? = some v → w.cell? ⟨bk, o + j * 2 + t, none⟩ = some v) → bk < w.heap.size → l.length ≤ 1099511627776 → l.length ≤ cap →
      Calls P f #[.slice (some ⟨bk, o, none⟩) l.length cap] w fun e w' => LeftPr w l e w') : ExtOk P f sortPrV := by
  intro args r h
  refine ⟨⟨fn, hf, hb, hn⟩, fun R w vals hg hR hl hv => ?_⟩
  unfold sortPrV at h
  split at h
  · rename_i xs
    split at h
    · rename_i l hxs
      split at h
      · rename_i hc
        simp only [Option.some.injEq] at h
        subst h
        obtain ⟨x, rfl, e0⟩ := vals1 hl
        have hx := hv 0 _ _ rfl e0
        have hxl := prsOf_inv hxs
        have key : ∀ e w', LeftPr w l e w' → (match e, w' with
            | .returned x, w' => Answer R w (.own 0 2 .flat ((sortPr l).map prV)) x w'
            | _, _ => False) := by
          rintro e w' ⟨g, cap, cur, ty, rfl, hk, hng, hgg, hlen, hm, hcs, hcur⟩
          have := answer_own (R := R) (s := 2) (q := .flat) (ys := (sortPr l).map prV) (o := 0) hk (fun _ x hx c hc => by
            obtain ⟨p, _, rfl⟩ := List.mem_map.1 hx
            simp only [prV, V.cells, List.mem_cons, List.not_mem_nil, or_false] at hc
            rcases hc with rfl | rfl <;> exact trivial) hng hgg (by simpa using hlen) hm (by omega) ⟨fun x hx => by
              obtain ⟨p, _, rfl⟩ := List.mem_map.1 hx
              rfl, fun i j => (((sortPr l)[i]?.bind fun p => (encPr p)[j]?).getD (.bool false)), fun i j hi hj => ?_, fun i x j c hx hc => ?_⟩
          · simpa using this
          · rw [List.length_map] at hi
            have hp : (sortPr l)[i]? = some (sortPr l)[i] := List.getElem?_eq_getElem hi
            have hcc := hcur i _ hp j hj
            have hcell : w'.cell? ⟨g, 0 + i * 2 + j, none⟩ = cur[i * 2 + j]? := by
              simp [World.cell?, hgg]
            rw [hcell, hcc]
            show _ = some (((sortPr l)[i]?.bind fun p => (encPr p)[j]?).getD (Value.bool false)) ∧ (((sortPr l)[i]?.bind fun p => (encPr p)[j]?).getD (Value.bool false)).oneCell' = true
            rw [hp]
            have : j = 0 ∨ j = 1 := by omega
            rcases this with rfl | rfl <;> exact ⟨rfl, rfl⟩
          · rw [List.getElem?_map] at hx
            cases hp : (sortPr l)[i]? with
            | none => rw [hp] at hx; cases hx
            | some p =>
              rw [hp] at hx
              simp only [Option.map_some, Option.some.injEq] at hx
              subst hx
              match j, hc with
              | 0, hc =>
                simp only [prV, V.cells, List.getElem?_cons_zero, Option.some.injEq] at hc
                subst hc
                show Rd w' _ _ (((sortPr l)[i]?.bind fun p => (encPr p)[0]?).getD (Value.bool false))
                rw [hp]
                exact .str _ _ rfl
              | 1, hc =>
                simp only [prV, V.cells, List.getElem?_cons_succ, List.getElem?_cons_zero, Option.some.injEq] at hc
                subst hc
                show Rd w' _ _ (((sortPr l)[i]?.bind fun p => (encPr p)[1]?).getD (Value.bool false))
                rw [hp]
                exact .str _ _ rfl
              | j + 2, hc => simp [prV, V.cells] at hc
        cases hx with
        | empty _ _ a cap =>
          obtain rfl : l = [] := by cases l with
            | nil => rfl
            | cons s l => cases hxl
          exact (h0 a cap w).mono key
        | sl _ _ _ k o cap g hl2 hcap hS hsz hf2 hg2 hr2 =>
          have hlen : xs.length = l.length := by rw [hxl]; simp
          have := h1 k o cap l w (by omega) (fun j x hj t v ht => by
            have hjl := (List.getElem?_eq_some_iff.1 hj).1
            have hxj : xs[j]? = some (prV x) := by rw [hxl, List.getElem?_map, hj]; rfl
            match t, ht with
            | 0, ht =>
              simp only [encPr, List.getElem?_cons_zero, Option.some.injEq] at ht
              subst ht
              rw [(hg2 j 0 (by omega) (by omega)).1, rd_pr_str (hr2 j _ 0 _ hxj rfl)]
            | 1, ht =>
              simp only [encPr, List.getElem?_cons_succ, List.getElem?_cons_zero, Option.some.injEq] at ht
              subst ht
              rw [(hg2 j 1 (by omega) (by omega)).1, rd_pr_str (hr2 j _ 1 _ hxj rfl)]
            | t + 2, ht => simp [encPr] at ht) (hR k hS) hc (by omega)
          rw [← hlen] at this
          exact this.mono key
      · cases h
    · cases h
  · cases h
def sortPrK : (β : Type) → List V → (List V → Option β) → Option β := fun β xs k =>
  match prsOf xs with
  | some l => chk (l.length ≤ 1099511627776) (k ((sortPr l).map prV))
  | none => none
theorem sortPrV_of {xs : List V} {l : List Pr} (hl : prsOf xs = some l) (h1 : l.length ≤ 1099511627776) : sortPrV [.sl 2 true xs] = some (.own 0 2 .flat ((sortPr l).map prV)) := by
  simp only [sortPrV, hl]
  rw [if_pos h1]
theorem ok_sortPr {ext : Nat → List V → Option V} {f : Nat} (hE : ∀ args, ext f args = sortPrV args) : FnOk (den P c ext) f (wrap [(false, [.sl 2 true])] (fun β e k => sortPrK β e.1.1 (fun y => k (.own 0 2 .flat y)))) := by
  refine ext_okW hE (fun β x k r hr => ?_)
  obtain ⟨⟨xs, _⟩, _⟩ := x
  simp only [sortPrK] at hr
  split at hr
  · rename_i l hl
    obtain ⟨h1, h2⟩ := chk_some hr
    exact ⟨.own 0 2 .flat ((sortPr l).map prV), sortPrV_of hl h1, h2⟩
  · cases hr
def sortPrE {T : Type} (to : T → Pr) (of : Pr → T) (l : List T) : Option (List T) := chk (l.length ≤ 1099511627776) (some ((sortPr (l.map to)).map of))
theorem ei_sortPrE {β T : Type} {g : T → cellsT [.str, .str]} (to : T → Pr) (of : Pr → T) (h : ∀ a, rowEnc true [.str, .str] (g a) = prV (to a)) (h' : ∀ p, to (of p) = p) (l : List T) (k : List V → Option β) :
    Imp (sortPrK β (rows [.str, .str] g l) k) (sortPrE to of l) (fun r => k (rows [.str, .str] g r)) := by
  have e1 : rows [.str, .str] g l = (l.map to).map prV := by
    unfold rows
    rw [List.map_map]
    exact List.map_congr_left (fun a _ => h a)
  have e2 : ∀ m : List Pr, m.map prV = rows [.str, .str] g (m.map of) := by
    intro m
    unfold rows
    rw [List.map_map]
    exact List.map_congr_left (fun p _ => by rw [Function.comp, h, h'])
  unfold sortPrK sortPrE
  rw [e1, prsOf_map]
  refine Imp.chk (by rw [List.length_map]) (fun _ => ?_)
  rw [e2]
  exact Imp.ret rfl
/-! ### strings sorted -/
def sortS (l : List (List UInt8)) : List (List UInt8) := l.mergeSort fun x y => decide (x ≤ y)
def sortStrV (v : V) : Option V :=
  match v with
  | .own _ 1 .flat xs => match strsOf xs with
    | some l => if l.length ≤ 1099511627776 then some (.own 0 1 .flat (rStr (sortS l))) else none
    | none => none
  | _ => none
/-- A function that asks another one for strings and sorts them. -/
def topsV (d : List V → Option V) : List V → Option V
  | [.agg [.sl a1 b1 c1, .sl a2 b2 c2, .sl a3 b3 c3, .int k n], .str h] => (d [.agg [.sl a1 b1 c1, .sl a2 b2 c2, .sl a3 b3 c3, .int k n], .str h]).bind sortStrV
  | _ => none
def sortStrK : (β : Type) → List V → (List V → Option β) → Option β := fun β xs k =>
  match strsOf xs with
  | some l => chk (l.length ≤ 1099511627776) (k (rStr (sortS l)))
  | none => none
theorem ok_tops {ext d1 : Nat → List V → Option V} {f g : Nat} {sh : List (Bool × List CK)} {Fg : (β : Type) → argsT sh → (List V → Option β) → Option β} (hE : ∀ args, ext f args = topsV (d1 g) args) (hd : FnOk d1 g (wrap sh (fun β e k => Fg β e (fun y => k (.own 0 1 .flat y)))))
    (hs : ∀ x : argsT sh, ∃ a1 b1 c1 a2 b2 c2 a3 b3 c3 k n h, argsEnc sh x = [.agg [.sl a1 b1 c1, .sl a2 b2 c2, .sl a3 b3 c3, .int k n], .str h]) (hw : ∀ (β : Type) (x : argsT sh) (G : (β : Type) → argsT sh → (V → Option β) → Option β) (k : V → Option β), wrap sh G β (argsEnc sh x) k = G β x k) :
    FnOk (den P c ext) f (wrap sh (fun β e k => Fg β e (fun y => sortStrK β y (fun z => k (.own 0 1 .flat z))))) := by
  refine ext_okW hE (fun β x k r hr => ?_)
  obtain ⟨a1, b1, c1, a2, b2, c2, a3, b3, c3, k0, n0, h0, he⟩ := hs x
  obtain ⟨v, hv, hk⟩ := hd β (argsEnc sh x) (fun v => match v with
    | .own _ 1 .flat y => sortStrK β y (fun z => k (.own 0 1 .flat z))
    | _ => none) r (by rw [hw]; exact hr)
  split at hk
  · rename_i j y
    unfold sortStrK at hk
    split at hk
    · rename_i l hl
      obtain ⟨h1, h2⟩ := chk_some hk
      refine ⟨_, ?_, h2⟩
      rw [he] at hv ⊢
      simp only [topsV]
      rw [hv]
      simp only [Option.bind_some, sortStrV, hl]
      rw [if_pos h1]
    · cases hk
  · cases hk
def sortStrE (l : List (List UInt8)) : Option (List (List UInt8)) := chk (l.length ≤ 1099511627776) (some (sortS l))
theorem ei_sortStrE {β : Type} (l : List (List UInt8)) (k : List V → Option β) : Imp (sortStrK β (rStr l) k) (sortStrE l) (fun r => k (rStr r)) := by
  unfold sortStrK sortStrE
  rw [strsOf_rStr]
  exact Imp.chk rfl (fun _ => Imp.ret rfl)
end
end Go.Am

/-
  Laws that write marks into a fresh slice of numbers: what they ask of the functions that they call, and what those then do. No theorem about a Go program of this place stands here.
-/
import Derived.Test.YtcajalfelmgeiaaAmExt3
import Derived.Sort.Row
import Derived.Sort.Grow
set_option linter.unusedVariables false
set_option linter.unusedSimpArgs false
namespace Go.Am
open Go Go.RowKit Go.Sort
section
variable {P : Program} {c : Cfg}
def mark1V : List V → Option V
  | [.int .i64 n] => if -9223372036854775808 ≤ n ∧ n ≤ 9223372036854775807 then some (.bool true) else none
  | _ => none
def mark1K : (β : Type) → Int → (Bool → Option β) → Option β := fun β n k => chk (-9223372036854775808 ≤ n ∧ n ≤ 9223372036854775807) (k true)
theorem mark1K_inv {β : Type} {n : Int} {k : Bool → Option β} {r : β} (h : mark1K β n k = some r) : (-9223372036854775808 ≤ n ∧ n ≤ 9223372036854775807) ∧ k true = some r := chk_some h
theorem ok_mark1 {ext : Nat → List V → Option V} {f : Nat} (hE : ∀ args, ext f args = mark1V args) : FnOk (den P c ext) f (wrap [(false, [.int .i64])] (fun β e k => mark1K β e.1.1 (fun y => k (.bool y)))) := by
  refine ext_okW hE (fun β x k r hr => ?_)
  obtain ⟨⟨n, _⟩, _⟩ := x
  obtain ⟨h1, h2⟩ := mark1K_inv (n := n) hr
  refine ⟨.bool true, ?_, h2⟩
  show mark1V [.int .i64 n] = _
  simp only [mark1V]
  rw [if_pos h1]
theorem cell_at {W : World} {g o : Nat} {cur : Array Value} {ty : TypeId} (h : W.heap[g]? = some (.cells cur ty (0, 0))) : W.cell? ⟨g, o, none⟩ = cur[o]? := by simp [World.cell?, h]
def mark1E (n : Int) : Option Bool := chk (-9223372036854775808 ≤ n ∧ n ≤ 9223372036854775807) (some true)
theorem ei_mark1E {β : Type} (n : Int) (k : Bool → Option β) : Imp (mark1K β n k) (mark1E n) (fun r => k r) := Imp.chk rfl (fun _ => Imp.ret rfl)
theorem fnok_some {d : Nat → List V → Option V} {f : Nat} {W : (β : Type) → List V → (V → Option β) → Option β} (h : FnOk d f W) {args : List V} {v : V} (hw : W V args some = some v) : d f args = some v := by
  obtain ⟨v', h1, h2⟩ := h V args some v hw
  injection h2 with h2
  rw [← h2]; exact h1
/-- A slice of numbers in a world. -/
def IntsAt (W : World) (x : Value) (g : Nat) (l : List Int) : Prop := ∃ (o cap : Nat) (cur : Array Value) (ty : TypeId), x = .slice (some ⟨g, o, none⟩) l.length cap ∧ W.heap[g]? = some (.cells cur ty (0, 0)) ∧ l.length ≤ cap ∧ ∀ (i : Nat) v, l[i]? = some v → cur[o + i]? = some (.int .i64 v)
theorem IntsAt.same {W W' : World} {x : Value} {g : Nat} {l : List Int} (h : IntsAt W x g l) (he : W'.heap[g]? = W.heap[g]?) : IntsAt W' x g l := by
  obtain ⟨o, cap, cur, ty, h1, h2, h3⟩ := h
  exact ⟨o, cap, cur, ty, h1, by rw [he]; exact h2, h3⟩
theorem IntsAt.lt {W : World} {x : Value} {g : Nat} {l : List Int} (h : IntsAt W x g l) : g < W.heap.size := by
  obtain ⟨o, cap, cur, ty, h1, h2, h3⟩ := h
  rcases Nat.lt_or_ge g W.heap.size with h' | h'
  · exact h'
  · rw [Array.getElem?_eq_none h'] at h2; cases h2
theorem IntsAt.kept {W W' : World} {x : Value} {g : Nat} {l : List Int} (h : IntsAt W x g l) (hk : Kept W W') : IntsAt W' x g l := h.same (hk.2.2.2.2 g h.lt)
theorem IntsAt.rd {W : World} {x : Value} {g : Nat} {l : List Int} (h : IntsAt W x g l) : Rd W (fun k => k < W.heap.size) (.sl 1 true (rInt l)) x := by
  have hlt := h.lt
  obtain ⟨o, cap, cur, ty, rfl, h2, h3, h4⟩ := h
  by_cases h0 : l = []
  · subst h0
    exact .empty 1 true _ _
  · have hl : (rInt l).length = l.length := List.length_map _
    have hpos : 0 < l.length := by
      rcases Nat.eq_zero_or_pos l.length with h | h
      · exact absurd (List.length_eq_zero_iff.1 h) h0
      · exact h
    have hget : ∀ (i : Nat) (x : V), (rInt l)[i]? = some x → ∃ v, l[i]? = some v ∧ x = V.int .i64 v := fun i x hx => by
      rw [show rInt l = l.map (V.int .i64) from rfl, List.getElem?_map] at hx
      cases hv : l[i]? with
      | none => rw [hv] at hx; cases hx
      | some v =>
        rw [hv] at hx
        simp only [Option.map_some, Option.some.injEq] at hx
        exact ⟨v, rfl, hx.symm⟩
    rw [← hl]
    refine .sl 1 true (rInt l) g o cap (fun i _ => Value.int .i64 l[i]!) (by omega) (by omega) hlt (fun x hx => ?_) (fun _ x hx c hc => ?_) (fun i j hi hj => ?_) (fun i x j c hx hc => ?_)
    · obtain ⟨i, hi⟩ := List.mem_iff_getElem?.1 hx
      obtain ⟨v, _, rfl⟩ := hget i x hi
      rfl
    · obtain ⟨i, hi⟩ := List.mem_iff_getElem?.1 hx
      obtain ⟨v, _, rfl⟩ := hget i x hi
      simp only [V.cells, List.mem_cons, List.not_mem_nil, or_false] at hc
      subst hc
      exact trivial
    · have hi' : i < l.length := by omega
      have hj0 : j = 0 := by omega
      subst hj0
      refine ⟨?_, rfl⟩
      rw [Nat.mul_one, Nat.add_zero, cell_at h2, h4 i l[i] (List.getElem?_eq_getElem hi'), getElem!_pos l i hi']
    · obtain ⟨v, hv, rfl⟩ := hget i x hx
      obtain ⟨hi', hv'⟩ := List.getElem?_eq_some_iff.1 hv
      have hc' : c = .int .i64 v := by
        match j, hc with
        | 0, hc => injection hc with hc; exact hc.symm
        | j + 1, hc => simp [V.cells] at hc
      subst hc'
      show Rd _ _ _ (.int .i64 l[i]!)
      rw [getElem!_pos l i hi', hv']
      exact .int _ _
theorem IntsAt.of_answer {R : Nat → Prop} {w w' : World} {j : Nat} {l : List Int} {x : Value} (h : Answer R w (.own j 1 .flat (rInt l)) x w') (h0 : 0 < l.length) : ∃ g, w.heap.size ≤ g ∧ IntsAt w' x g l := by
  rcases h.own1 with ⟨e, _⟩ | ⟨g, o, cap, cur, ty, rfl, hn, hg, hc, hm, hs, hr⟩
  · have := congrArg List.length e
    rw [show (rInt l).length = l.length from List.length_map _] at this
    rw [List.length_nil] at this
    omega
  · have hl : (rInt l).length = l.length := List.length_map _
    rw [hl] at hc
    refine ⟨g, hn, o, cap, cur, ty, by rw [hl], hg, hc, fun i v hv => ?_⟩
    obtain ⟨c', hc1, y, hy, S, hrd⟩ := hr i (.int .i64 v) (by rw [show rInt l = l.map (V.int .i64) from rfl, List.getElem?_map, hv]; rfl)
    simp only [V.cells, List.cons.injEq, and_true] at hc1
    subst hc1
    rw [rd_int hrd] at hy
    rwa [cell_at hg] at hy
/-- Marks from k on. -/
def marks (n k : Nat) : List Int := (List.range n).map (fun i => ((k + i : Nat) : Int))
theorem marks_len (n k : Nat) : (marks n k).length = n := by simp [marks]
theorem IntsAt.marked {w : World} {bk o cap q k n : Nat} {d' : Array Int} {cur : Array Value} {ty : TypeId} (hg : w.heap[bk]? = some (.cells cur ty (0, 0))) (hn : d'.size = n) (hc : n ≤ cap) (hs : o + n ≤ cur.size) (hd : ∀ i, i < n → d'[i]! = ((k + i : Nat) : Int)) :
    IntsAt (putRow (Value.int .i64) (Sort.ahead w q) bk o d') (.slice (some ⟨bk, o, none⟩) n cap) bk (marks n k) := by
  refine ⟨o, cap, putCells (Value.int .i64) o d' cur, ty, by rw [marks_len], ?_, by rw [marks_len]; exact hc, fun i v hv => ?_⟩
  · simp [putRow, mapBlock, Array.getElem?_modify, hg, onCells, Sort.ahead]
  · have hi : i < n := by have := (List.getElem?_eq_some_iff.1 hv).1; rwa [marks_len] at this
    have hv' : v = ((k + i : Nat) : Int) := by
      rw [marks, List.getElem?_map, List.getElem?_range hi] at hv
      simp only [Option.map_some, Option.some.injEq] at hv
      exact hv.symm
    have : o + i < cur.size := by omega
    rw [hv', ← hd i hi]
    simp [putCells, Array.getElem?_mapIdx, this, hn, hi]
/-- The calls of such a law, one behind the other. -/
theorem mark1_calls {d : Nat → List V → Option V} (hA : Answers P d) {fa fb fe fm fh : Nat} {n : Int} {l : List Int} {ja jb : Nat} (h0 : 0 < l.length) (hl : l.length ≤ 1000)
    (ha : d fa [.int .i64 n] = some (.own ja 1 .flat (rInt l))) (hb : d fb [.int .i64 n] = some (.own jb 1 .flat (rInt l))) (he : d fe [.sl 1 true (rInt l), .sl 1 true (rInt l)] = some (.bool true))
    (hh : d fh [.sl 1 true (rInt (marks l.length 1)), .int .i64 1] = some (.int .i64 ((1 + l.length : Nat) : Int)))
    (hm : ∀ (bk o cap : Nat) (dd : Array Int) (w : World), Holds (Value.int .i64) w bk o dd → dd.size ≤ 1000 → Calls P fm #[.slice (some ⟨bk, o, none⟩) dd.size cap, .int .i64 1] w fun e w' => e = .returned (.int .i64 ((1 + dd.size : Nat) : Int)) ∧ ∃ q d', d'.size = dd.size ∧ w' = putRow (Value.int .i64) (Sort.ahead w q) bk o d' ∧ ∀ i, i < dd.size → d'[i]! = ((1 + i : Nat) : Int))
    {R : Nat → Prop} {w : World} (hg : globOk w) :
    Calls P fa #[.int .i64 n] w fun e w1 => ∃ x1, e = .returned x1 ∧ Calls P fb #[.int .i64 n] w1 fun e w2 => ∃ x2, e = .returned x2 ∧ Calls P fe #[x2, x1] w2 fun e w3 => e = .returned (.bool true) ∧
      Calls P fm #[x2, .int .i64 1] w3 fun e w4 => e = .returned (.int .i64 ((1 + l.length : Nat) : Int)) ∧ Calls P fh #[x2, .int .i64 1] w4 fun e w5 => e = .returned (.int .i64 ((1 + l.length : Nat) : Int)) ∧
      Calls P fb #[.int .i64 n] w5 fun e w6 => ∃ x3, e = .returned x3 ∧ Calls P fe #[x3, x1] w6 fun e w7 => e = .returned (.bool true) ∧ Calls P fh #[x2, .int .i64 1] w7 fun e w8 => e = .returned (.int .i64 ((1 + l.length : Nat) : Int)) ∧ Answer R w (.bool true) (.bool true) w8 := by
  have ret : ∀ {f : Nat} {args : List V} {vals : Array Value} {W : World} {r : V} {Q : Ending → World → Prop}, d f args = some r → globOk W → args.length = vals.size → (∀ (i : Nat) (c : V) (v : Value), args[i]? = some c → vals[i]? = some v → Rd W (fun k => k < W.heap.size) c v) →
      (∀ x W', Answer (fun k => k < W.heap.size) W r x W' → Q (.returned x) W') → Calls P f vals W Q := fun hd hg hl hv hq =>
    ((hA _ _ _ hd).2 (fun k => k < _) _ _ hg (fun _ h => h) hl hv).mono (fun e W' h => by
      cases e with
      | returned x => exact hq x W' h
      | _ => exact h.elim)
  have one : ∀ (W : World) (i : Nat) (c : V) (v : Value), [V.int .i64 n][i]? = some c → #[Value.int .i64 n][i]? = some v → Rd W (fun k => k < W.heap.size) c v := fun W i c v h1 h2 => by
    match i, h1, h2 with
    | 0, h1, h2 => injection h1 with h1; injection h2 with h2; subst h1; subst h2; exact .int _ _
    | i + 1, h1, _ => simp at h1
  have two : ∀ {W : World} {a b : V} {x y : Value}, Rd W (fun k => k < W.heap.size) a x → Rd W (fun k => k < W.heap.size) b y → ∀ (i : Nat) (c : V) (v : Value), [a, b][i]? = some c → #[x, y][i]? = some v → Rd W (fun k => k < W.heap.size) c v := fun ha hb i c v h1 h2 => by
    match i, h1, h2 with
    | 0, h1, h2 => injection h1 with h1; injection h2 with h2; subst h1; subst h2; exact ha
    | 1, h1, h2 => injection h1 with h1; injection h2 with h2; subst h1; subst h2; exact hb
    | i + 2, h1, _ => simp at h1
  refine ret ha hg rfl (one w) (fun x1 w1 a1 => ⟨x1, rfl, ?_⟩)
  have k1 := Kept.of_answer a1
  obtain ⟨g1, n1, i1⟩ := IntsAt.of_answer a1 h0
  refine ret hb (k1.glob hg) rfl (one w1) (fun x2 w2 a2 => ⟨x2, rfl, ?_⟩)
  have k2 := Kept.of_answer a2
  obtain ⟨g2, n2, i2⟩ := IntsAt.of_answer a2 h0
  have g12 : g1 ≠ g2 := by have := i1.lt; omega
  have i1b := i1.kept k2
  refine ret he (k2.glob (k1.glob hg)) rfl (two i2.rd i1b.rd) (fun y w3 a3 => ?_)
  have k3 := Kept.of_answer a3
  have hy : y = .bool true := by
    obtain ⟨Γ, hv, _⟩ := a3.val
    cases hv with
    | rd _ _ h => cases h; rfl
  subst hy
  refine ⟨rfl, ?_⟩
  have i2c := i2.kept k3
  have i1c := i1b.kept k3
  have k13 : Kept w w3 := k1.trans (k2.trans k3)
  have g3 := k13.glob hg
  obtain ⟨o, cap, cur, ty, rfl, hgg, hcp, hcur⟩ := id i2c
  have hcs : o + l.length ≤ cur.size := by
    have := hcur (l.length - 1) l[l.length - 1] (List.getElem?_eq_getElem (by omega))
    have := (Array.getElem?_eq_some_iff.1 this).1
    omega
  have hH : Holds (Value.int .i64) w3 g2 o l.toArray := fun t ht => by
    have ht' : t < l.length := by simpa using ht
    refine ⟨?_, by simp [World.frozen?, hgg]⟩
    simp only [World.cell?, hgg]
    rw [hcur t l[t] (List.getElem?_eq_getElem ht')]
    simp [ht']
  have hmk := hm g2 o cap l.toArray w3 hH (by simpa using hl)
  simp only [List.size_toArray] at hmk
  refine hmk.mono ?_
  rintro e w4 ⟨rfl, q, d', hd1, rfl, hd2⟩
  refine ⟨rfl, ?_⟩
  have i2d := IntsAt.marked (w := w3) (bk := g2) (o := o) (cap := cap) (q := q) (k := 1) (d' := d') hgg hd1 hcp hcs hd2
  have hn2 : w.heap.size ≤ g2 := Nat.le_trans k1.2.2.2.1 n2
  generalize hW4 : putRow (Value.int .i64) (Sort.ahead w3 q) g2 o d' = w4 at i2d
  have same4 : ∀ k, k ≠ g2 → w4.heap[k]? = w3.heap[k]? := fun k hk => by
    rw [← hW4]
    simp [putRow, mapBlock, Sort.ahead, Array.getElem?_modify, Ne.symm hk]
  have k4 : Kept w w4 := by
    obtain ⟨c1, c2, c3, c4, c5⟩ := k13
    refine ⟨by rw [← hW4]; exact c1, by rw [← hW4]; exact c2, by rw [← hW4]; exact c3, by rw [← hW4]; simpa [putRow, mapBlock, Sort.ahead] using c4, fun k hk => by rw [same4 k (by omega)]; exact c5 k hk⟩
  have i1d := i1c.same (same4 g1 g12)
  refine ret hh (k4.glob hg) rfl (two i2d.rd (.int _ _)) (fun y w5 a5 => ?_)
  have int_of : ∀ {R' : Nat → Prop} {W W' : World} {m : Int} {y : Value}, Answer R' W (.int .i64 m) y W' → y = .int .i64 m := fun a => by
    obtain ⟨Γ, hv, _⟩ := a.val
    cases hv with
    | rd _ _ h => cases h; rfl
  rw [int_of a5]
  refine ⟨rfl, ?_⟩
  have k5 := Kept.of_answer a5
  have i2e := i2d.kept k5
  have i1e := i1d.kept k5
  refine ret hb (k5.glob (k4.glob hg)) rfl (one w5) (fun x3 w6 a6 => ⟨x3, rfl, ?_⟩)
  have k6 := Kept.of_answer a6
  obtain ⟨g6, n6, i6⟩ := IntsAt.of_answer a6 h0
  have i2f := i2e.kept k6
  have i1f := i1e.kept k6
  refine ret he (k6.glob (k5.glob (k4.glob hg))) rfl (two i6.rd i1f.rd) (fun y w7 a7 => ?_)
  have hy : y = .bool true := by
    obtain ⟨Γ, hv, _⟩ := a7.val
    cases hv with
    | rd _ _ h => cases h; rfl
  subst hy
  refine ⟨rfl, ?_⟩
  have k7 := Kept.of_answer a7
  have i2g := i2f.kept k7
  refine ret hh (k7.glob (k6.glob (k5.glob (k4.glob hg)))) rfl (two i2g.rd (.int _ _)) (fun y w8 a8 => ?_)
  rw [int_of a8]
  refine ⟨rfl, answer_plain (k4.trans (k5.trans (k6.trans (k7.trans (Kept.of_answer a8))))) (.bool _)⟩
end
end Go.Am

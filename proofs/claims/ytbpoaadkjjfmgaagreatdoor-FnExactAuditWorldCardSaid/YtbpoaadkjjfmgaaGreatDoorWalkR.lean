/-
  impl.ParsePolicy and impl.IsResponse walked: the policy's text is cut by the library's contract and written again by what the machine answers. Written by program (walkresp.py).
-/
import Derived.Test.YtbpoaadkjjfmgaaGreatDoorAmExt6
import Derived.Test.YtbpoaadkjjfmgaaGreatDoorShelf
import Derived.RegionTactic
import Derived.Handy
import Derived.Laws.ResultCell
import Derived.WalkKit
set_option linter.unusedVariables false
set_option linter.unusedSimpArgs false
namespace Go.Proofs
open Go Go.Am Go.Shelf Go.RowKit Go.Lib Go.Sort
theorem Tryz.inRange (n a b : Int) (w : World) : Calls Tryz.prog 50 #[.int .i64 n, .int .i64 a, .int .i64 b] w fun e w' => e = .returned (.bool (decide (a ≤ n) && decide (n ≤ b))) ∧ w' = w := by
 by_cases h1 : a ≤ n
 ·by_cases h2 : n ≤ b
  ·go_enter Tryz.func50, Tryz.ntmps50
   go_wp2
   go_ret
   exact ⟨by simp [h1, h2], rfl⟩
  ·go_enter Tryz.func50, Tryz.ntmps50
   go_wp2
   go_ret
   exact ⟨by simp [h1, h2], rfl⟩
 ·go_enter Tryz.func50, Tryz.ntmps50
  go_wp2
  go_ret
  exact ⟨by simp; omega, rfl⟩
theorem rd_part {W : World} {g : Nat} {q : ByteArray} {t : List ByteArray} {ty : TypeId} (hg : W.heap[g]? = some (.cells ((q :: t).map Value.string).toArray ty (0, 0))) :
  Rd W (fun k => k < W.heap.size) (.sl 1 true (rStr (t.map (·.data.toList)))) (.slice (some ⟨g, 1, none⟩) t.length t.length) := by
 have hlt : g < W.heap.size := by
  rcases Nat.lt_or_ge g W.heap.size with h | h
  ·exact h
  ·rw [Array.getElem?_eq_none h] at hg; cases hg
 cases t with
 | nil => exact .empty 1 true _ _
 | cons x t =>
  have hl : (rStr ((x :: t).map (·.data.toList))).length = (x :: t).length := by rw [rStr_len, List.length_map]
  rw [← hl]
  have hget : ∀ (i : Nat) (v : V), (rStr ((x :: t).map (·.data.toList)))[i]? = some v → ∃ y, (x :: t)[i]? = some y ∧ v = .str y.data.toList := fun i v hv => by
   rw [show rStr ((x :: t).map (·.data.toList)) = ((x :: t).map (·.data.toList)).map V.str from rfl, List.map_map, List.getElem?_map] at hv
   cases hy : (x :: t)[i]? with
   | none => rw [hy] at hv; cases hv
   | some y =>
    rw [hy] at hv
    simp only [Option.map_some, Option.some.injEq] at hv
    exact ⟨y, rfl, hv.symm⟩
  refine .sl 1 true _ g 1 _ (fun i _ => Value.string (((x :: t)[i]?).getD ByteArray.empty)) (by rw [hl]; simp) (Nat.le_refl _) hlt (fun v hv => ?_) (fun _ v hv c hc => ?_) (fun i j hi hj => ?_) (fun i v j c hv hc => ?_)
  ·obtain ⟨i, hi⟩ := List.mem_iff_getElem?.1 hv
   obtain ⟨y, _, rfl⟩ := hget i v hi
   rfl
  ·obtain ⟨i, hi⟩ := List.mem_iff_getElem?.1 hv
   obtain ⟨y, _, rfl⟩ := hget i v hi
   simp only [V.cells, List.mem_cons, List.not_mem_nil, or_false] at hc
   subst hc
   exact trivial
  ·rw [hl] at hi
   have hj0 : j = 0 := by omega
   subst hj0
   refine ⟨?_, rfl⟩
   simp only [World.cell?, hg, Nat.mul_one, Nat.add_zero]
   have : 1 + i = i + 1 := by omega
   rw [this]
   have hi2 : i < (x :: t).length := hi
   simp only [List.map_cons, List.getElem?_toArray, List.getElem?_cons_succ]
   rw [← List.map_cons, List.getElem?_map, List.getElem?_eq_getElem hi2]
   rfl
  ·obtain ⟨y, hy, rfl⟩ := hget i v hv
   have hc' : c = .str y.data.toList := by
    match j, hc with
    | 0, hc => injection hc with hc; exact hc.symm
    | j + 1, hc => simp [V.cells] at hc
   subst hc'
   show Rd _ _ _ (Value.string (((x :: t)[i]?).getD ByteArray.empty))
   rw [hy]
   exact .str _ _ rfl
theorem rd_pol {W : World} {a b c : List (List UInt8)} {n : ByteArray} {n' : List UInt8} {x y z : Value} (hn : n.data.toList = n') (h1 : Rd W (fun k => k < W.heap.size) (.sl 1 true (rStr a)) x) (h2 : Rd W (fun k => k < W.heap.size) (.sl 1 true (rStr b)) y) (h3 : Rd W (fun k => k < W.heap.size) (.sl 1 true (rStr c)) z) :
  Rd W (fun k => k < W.heap.size) (.agg [.bool true, .sl 1 true (rStr a), .sl 1 true (rStr b), .sl 1 true (rStr c), .str n']) (.agg #[.bool true, x, y, z, .string n]) := by
 refine .agg _ _ rfl (fun i c v h1' h2' => ?_)
 match i, h1', h2' with
 | 0, e1, e2 => injection e1 with e1; injection e2 with e2; subst e1; subst e2; exact .bool _
 | 1, e1, e2 => injection e1 with e1; injection e2 with e2; subst e1; subst e2; exact h1
 | 2, e1, e2 => injection e1 with e1; injection e2 with e2; subst e1; subst e2; exact h2
 | 3, e1, e2 => injection e1 with e1; injection e2 with e2; subst e1; subst e2; exact h3
 | 4, e1, e2 => injection e1 with e1; injection e2 with e2; subst e1; subst e2; exact .str _ _ hn
 | i + 5, e1, e2 => simp at e1
def LeftP (w : World) (ok : Bool) (e : Ending) (w' : World) : Prop := ∃ (b : Bool) (p0 p1 p2 : Option Addr) (n0 n1 n2 c0 c1 c2 : Nat) (s : ByteArray), e = .returned (.tuple #[.agg #[.bool b, .slice p0 n0 c0, .slice p1 n1 c1, .slice p2 n2 c2, .string s], .bool ok]) ∧ Kept w w'
theorem kept_below {w w' : World} (h : RowKit.Below w.heap.size w w') : Kept w w' := Kept.below h
set_option maxHeartbeats 1000000 in
set_option maxRecDepth 100000 in
theorem Tryz.parse_nil (w : World) : Calls Tryz.prog 155 #[.string ⟨#[]⟩] w (LeftP w true) := by
 go_enter Tryz.func155, Tryz.ntmps155
 go_wp2
 (try simp only [Exit.inBlock, Exit.then])
 refine bodyPost_ret (v := .tuple #[.agg #[.bool false, .slice none 0 0, .slice none 0 0, .slice none 0 0, .string ⟨#[]⟩], .bool true]) ?_ rfl ⟨_, _, _, _, _, _, _, _, _, _, _, rfl, kept_below (by go_grown)⟩
 rw [results_cell_tmp rfl]
 go_simp
set_option maxHeartbeats 1000000 in
set_option maxRecDepth 100000 in
theorem Tryz.parse_few (s : ByteArray) (n : Nat) (os : Obj) (w : World) (hne : s.toList.isEmpty = false) (hn : n < 3)
  (hS : ∀ W, RowKit.Below w.heap.size w W → Calls Tryz.prog 180 #[.string s, .string ⟨#[59]⟩] W fun e W' => e = .returned (.slice (some ⟨W.heap.size, 0, none⟩) n n) ∧ W' = W.alloc os) :
  Calls Tryz.prog 155 #[.string s] w (LeftP w false) := by
 go_enter Tryz.func155, Tryz.ntmps155
 go_wp2_with (go_at_call 180; refine (hS _ (by go_grown)).mono ?_; rintro e w' ⟨rfl, rfl⟩)
 (try simp only [Exit.inBlock, Exit.then])
 refine bodyPost_ret (v := .tuple #[.agg #[.bool false, .slice none 0 0, .slice none 0 0, .slice none 0 0, .string ⟨#[]⟩], .bool false]) ?_ rfl ⟨_, _, _, _, _, _, _, _, _, _, _, rfl, kept_below (by go_grown)⟩
 rw [results_cell_tmp rfl]
 go_simp
theorem kept_at {W W' : World} {g : Nat} {cs : Array Value} {ty : TypeId} (h : Kept W W') (hg : W.heap[g]? = some (.cells cs ty (0, 0))) : W'.heap[g]? = some (.cells cs ty (0, 0)) := by
 have hlt : g < W.heap.size := by
  rcases Nat.lt_or_ge g W.heap.size with h | h
  ·exact h
  ·rw [Array.getElem?_eq_none h] at hg; cases hg
 rw [h.2.2.2.2 g hlt, hg]
theorem cell_of {W : World} {g o : Nat} {cs : Array Value} {ty : TypeId} (h : W.heap[g]? = some (.cells cs ty (0, 0))) : W.cell? ⟨g, o, none⟩ = cs[o]? ∧ W.frozen? ⟨g, o, none⟩ = false := ⟨by simp [World.cell?, h], by simp [World.frozen?, h]⟩
theorem kept_rule {W W' : World} {g : Nat} (h : Kept W W') (hg : g < W.heap.size) : ∀ o, W'.cell? ⟨g, o, none⟩ = W.cell? ⟨g, o, none⟩ := fun o => by simp only [World.cell?, h.2.2.2.2 g hg]
theorem set5 {W : World} {g : Nat} {cur : Array Value} {ty : TypeId} (h : W.heap[g]? = some (.cells cur ty (0, 0))) (hs : cur.size = 5) (v0 v1 v2 v3 v4 : Value) :
  (((((W.setCell ⟨g, 0, none⟩ v0).setCell ⟨g, 1, none⟩ v1).setCell ⟨g, 2, none⟩ v2).setCell ⟨g, 3, none⟩ v3).setCell ⟨g, 4, none⟩ v4).heap[g]? = some (.cells #[v0, v1, v2, v3, v4] ty (0, 0)) := by
 obtain ⟨l⟩ := cur
 match l, hs with
 | [a, b, c, d, e], _ =>
  simp only [setCell_eq, mapBlock_mapBlock]
  simp [mapBlock, Array.getElem?_modify, h, onCells]
theorem kept_set {w W : World} {a : Addr} {v : Value} (h : Kept w W) (ha : w.heap.size ≤ a.block) : Kept w (W.setCell a v) := by
 have := Below.setCell (B := w.heap.size) (a := w) (w := W) ⟨h.1, h.2.1, h.2.2.1, h.2.2.2.1, h.2.2.2.2⟩ ha v
 exact Kept.below this
theorem kept_rule_alloc {W W' : World} {g : Nat} (h : Kept W W') (hg : g < W.heap.size) : ∀ ob o, (W'.alloc ob).cell? ⟨g, o, none⟩ = W.cell? ⟨g, o, none⟩ := fun ob o => by
 have h1 : g < W'.heap.size := Nat.lt_of_lt_of_le hg h.2.2.2.1
 have : (W'.alloc ob).heap[g]? = W'.heap[g]? := by simp only [World.alloc, Array.getElem?_push]; rw [if_neg (by omega)]
 simp only [World.cell?, this, h.2.2.2.2 g hg]
theorem kept_frozen {W W' : World} {g : Nat} (h : Kept W W') (hg : g < W.heap.size) : ∀ o, W'.frozen? ⟨g, o, none⟩ = W.frozen? ⟨g, o, none⟩ := fun o => by simp only [World.frozen?, h.2.2.2.2 g hg]
set_option maxHeartbeats 8000000 in
set_option maxRecDepth 100000 in
theorem Tryz.parse_three (s b0 b1 b2 q0 q1 q2 : ByteArray) (t0 t1 t2 : List ByteArray) (w : World) (hne : s.toList.isEmpty = false) (f : ByteArray)
    (hS : ∀ W, RowKit.Below w.heap.size w W → Calls Tryz.prog 180 #[.string s, .string ⟨#[59]⟩] W fun e W' => e = .returned (.slice (some ⟨W.heap.size, 0, none⟩) 3 3) ∧ W' = W.alloc (.cells ((b0 :: b1 :: b2 :: ([] : List ByteArray)).map Value.string).toArray 9))
    (hS0 : ∀ W, RowKit.Below w.heap.size w W → Calls Tryz.prog 180 #[.string b0, .string ⟨#[32]⟩] W fun e W' => e = .returned (.slice (some ⟨W.heap.size, 0, none⟩) (t0.length + 1) (t0.length + 1)) ∧ W' = W.alloc (.cells ((q0 :: t0).map Value.string).toArray 9))
    (hS1 : ∀ W, RowKit.Below w.heap.size w W → Calls Tryz.prog 180 #[.string b1, .string ⟨#[32]⟩] W fun e W' => e = .returned (.slice (some ⟨W.heap.size, 0, none⟩) (t1.length + 1) (t1.length + 1)) ∧ W' = W.alloc (.cells ((q1 :: t1).map Value.string).toArray 9))
    (hS2 : ∀ W, RowKit.Below w.heap.size w W → Calls Tryz.prog 180 #[.string b2, .string ⟨#[32]⟩] W fun e W' => e = .returned (.slice (some ⟨W.heap.size, 0, none⟩) (t2.length + 1) (t2.length + 1)) ∧ W' = W.alloc (.cells ((q2 :: t2).map Value.string).toArray 9))
    (hT : ∀ b W, Calls Tryz.prog 181 #[.string b, .string ⟨#[110, 111, 110, 99, 101, 32]⟩] W fun e W' => e = .returned (.string ⟨(Lib.trimPrefix b.data.toList nonceW).toArray⟩) ∧ W' = W)
    (hF : ∀ W x y z n, RowKit.Below w.heap.size w W → Rd W (fun k => k < W.heap.size) (.sl 1 true (rStr (t0.map (·.data.toList)))) x → Rd W (fun k => k < W.heap.size) (.sl 1 true (rStr (t1.map (·.data.toList)))) y → Rd W (fun k => k < W.heap.size) (.sl 1 true (rStr (t2.map (·.data.toList)))) z → n.data.toList = nonceOf ((([] : List ByteArray)).map (·.data.toList)) →
      Calls Tryz.prog 182 #[.agg #[.bool true, x, y, z, .string n]] W fun e W' => e = .returned (.string f) ∧ Kept W W' ∧ Calls Tryz.prog 183 #[.agg #[.bool true, x, y, z, .string n]] W' fun e W2 => ∃ (bb : Bool) (p0 p1 p2 : Option Addr) (n0 n1 n2 c0 c1 c2 : Nat) (ss : ByteArray), e = .returned (.agg #[.bool bb, .slice p0 n0 c0, .slice p1 n1 c1, .slice p2 n2 c2, .string ss]) ∧ Kept W' W2)
    :
    Calls Tryz.prog 155 #[.string s] w (LeftP w (f.toList == s.toList)) := by
  rcases t0 with _ | ⟨y0, t0⟩ <;> rcases t1 with _ | ⟨y1, t1⟩ <;> rcases t2 with _ | ⟨y2, t2⟩
  all_goals go_enter Tryz.func155, Tryz.ntmps155
  all_goals go_wp2_with (go_at_call 180; refine (hS _ (by go_grown)).mono ?_; rintro e w' ⟨rfl, rfl⟩)
  all_goals refine wp_loop_rounds 4 ?_
  all_goals rw [rounds_succ]
  all_goals go_wp2_with (go_at_call 180; refine (hS0 _ (by go_grown)).mono ?_; rintro e w' ⟨rfl, rfl⟩)
  all_goals rw [rounds_succ]
  all_goals go_wp2_with (go_at_call 180; refine (hS1 _ (by go_grown)).mono ?_; rintro e w' ⟨rfl, rfl⟩)
  all_goals rw [rounds_succ]
  all_goals go_wp2_with (go_at_call 180; refine (hS2 _ (by go_grown)).mono ?_; rintro e w' ⟨rfl, rfl⟩)
  all_goals rw [rounds_succ]
  all_goals go_wp2_with (first
    | (go_at_call 181; refine (hT _ _).mono ?_; rintro e w' ⟨rfl, rfl⟩)
    | (go_at_call 182
       refine Calls.mono (hF _ _ _ _ _ (by go_grown) ?_ ?_ ?_ (by rfl)) ?_
       (focus first | exact .empty 1 true _ _ | (refine rd_part (q := q0) (t := _ :: _) (ty := 9) ?_; simp only [World.alloc, Array.getElem?_push, Array.size_push]; simp))
       (focus first | exact .empty 1 true _ _ | (refine rd_part (q := q1) (t := _ :: _) (ty := 9) ?_; simp only [World.alloc, Array.getElem?_push, Array.size_push]; simp))
       (focus first | exact .empty 1 true _ _ | (refine rd_part (q := q2) (t := _ :: _) (ty := 9) ?_; simp only [World.alloc, Array.getElem?_push, Array.size_push]; simp))
       rintro e w' ⟨rfl, hk, hcp⟩
       have hk1 := Kept.trans (kept_below (w := w) (by go_grown)) hk
       have r2 := kept_rule hk (g := w.heap.size) (by first | (simp; done) | (simp; omega) | omega)
       have f2 := kept_frozen hk (g := w.heap.size) (by first | (simp; done) | (simp; omega) | omega)
       have r7 := kept_rule hk (g := w.heap.size + 1 + 1 + 1 + 1 + 1 + 1) (by first | (simp; done) | (simp; omega) | omega)
       have l2 : w.heap.size < w'.heap.size := by have := hk.2.2.2.1; simp at this; omega
       have b2 := kept_at hk (g := w.heap.size) (cs := #[.bool false, .slice none 0 0, .slice none 0 0, .slice none 0 0, .string ⟨#[]⟩]) (ty := 67) (by simp only [World.alloc, Array.getElem?_push, Array.size_push]; first | (simp [Nat.add_assoc]; done) | (repeat rw [if_neg (by omega)]; simp))
       have K1 : Aside (Kept w w' ∧ w.heap.size < w'.heap.size ∧ w'.heap[w.heap.size]? = some (.cells #[.bool false, .slice none 0 0, .slice none 0 0, .slice none 0 0, .string ⟨#[]⟩] 67 (0, 0))) := ⟨hk1, l2, b2⟩
       clear hk hk1 l2 b2)
    | (go_at_call 183; refine hcp.mono ?_; rintro e w2 ⟨bb, p0, p1, p2, n0, n1, n2, c0, c1, c2, ss, rfl, hk2⟩
       have s2 := kept_rule hk2 (g := w.heap.size) K1.out.2.1
       have g2 := kept_frozen hk2 (g := w.heap.size) K1.out.2.1
       have K2 : Aside (Kept w w2 ∧ w2.heap[w.heap.size]? = some (.cells #[.bool false, .slice none 0 0, .slice none 0 0, .slice none 0 0, .string ⟨#[]⟩] 67 (0, 0))) := ⟨K1.out.1.trans hk2, kept_at hk2 K1.out.2.2⟩
       clear hk2))
  all_goals try simp only [Exit.inBlock, Exit.then]
  all_goals first
    | (rename_i h9
       have h8 : (f.toList == s.toList) = false := by simpa using h9
       rw [h8]
       have b5 := set5 K1.out.2.2 rfl (.bool false) (.slice none 0 0) (.slice none 0 0) (.slice none 0 0) (.string ⟨#[]⟩)
       have k5 := kept_set (a := ⟨w.heap.size, 4, none⟩) (v := .string ⟨#[]⟩) (kept_set (a := ⟨w.heap.size, 3, none⟩) (v := .slice none 0 0) (kept_set (a := ⟨w.heap.size, 2, none⟩) (v := .slice none 0 0) (kept_set (a := ⟨w.heap.size, 1, none⟩) (v := .slice none 0 0) (kept_set (a := ⟨w.heap.size, 0, none⟩) (v := .bool false) K1.out.1 (Nat.le_refl _)) (Nat.le_refl _)) (Nat.le_refl _)) (Nat.le_refl _)) (Nat.le_refl _)
       generalize World.setCell _ _ _ = W5 at b5 k5 ⊢
       refine bodyPost_ret (v := .tuple #[.agg #[.bool false, .slice none 0 0, .slice none 0 0, .slice none 0 0, .string ⟨#[]⟩], .bool false]) ?_ rfl ⟨_, _, _, _, _, _, _, _, _, _, _, rfl, k5⟩
       rw [results_cell_tmp rfl]
       have d0 := (cell_of (o := 0) b5).1
       have d1 := (cell_of (o := 1) b5).1
       have d2 := (cell_of (o := 2) b5).1
       have d3 := (cell_of (o := 3) b5).1
       have d4 := (cell_of (o := 4) b5).1
       clear r2 f2 r7 b5 k5 h8 h9
       go_simp
       try simp [d0, d1, d2, d3, d4])
    | (rename_i h9
       have h8 : (f.toList == s.toList) = true := by
         cases hh : (f.toList == s.toList) with
         | true => rfl
         | false => rw [hh] at h9; cases h9
       rw [h8]
       have b5 := set5 K2.out.2 rfl (.bool bb) (.slice p0 n0 c0) (.slice p1 n1 c1) (.slice p2 n2 c2) (.string ss)
       have k5 := kept_set (a := ⟨w.heap.size, 4, none⟩) (v := .string ss) (kept_set (a := ⟨w.heap.size, 3, none⟩) (v := .slice p2 n2 c2) (kept_set (a := ⟨w.heap.size, 2, none⟩) (v := .slice p1 n1 c1) (kept_set (a := ⟨w.heap.size, 1, none⟩) (v := .slice p0 n0 c0) (kept_set (a := ⟨w.heap.size, 0, none⟩) (v := .bool bb) K2.out.1 (Nat.le_refl _)) (Nat.le_refl _)) (Nat.le_refl _)) (Nat.le_refl _)) (Nat.le_refl _)
       generalize World.setCell _ _ _ = W5 at b5 k5 ⊢
       refine bodyPost_ret (v := .tuple #[.agg #[.bool bb, .slice p0 n0 c0, .slice p1 n1 c1, .slice p2 n2 c2, .string ss], .bool true]) ?_ rfl ⟨_, _, _, _, _, _, _, _, _, _, _, rfl, k5⟩
       rw [results_cell_tmp rfl]
       have d0 := (cell_of (o := 0) b5).1
       have d1 := (cell_of (o := 1) b5).1
       have d2 := (cell_of (o := 2) b5).1
       have d3 := (cell_of (o := 3) b5).1
       have d4 := (cell_of (o := 4) b5).1
       clear r2 f2 r7 s2 g2 b5 k5 h8 h9
       go_simp
       try simp [d0, d1, d2, d3, d4])
set_option maxHeartbeats 8000000 in
set_option maxRecDepth 100000 in
theorem Tryz.parse_four (s b0 b1 b2 q0 q1 q2 b3 : ByteArray) (rest t0 t1 t2 : List ByteArray) (w : World) (hne : s.toList.isEmpty = false) (f : ByteArray)
    (hS : ∀ W, RowKit.Below w.heap.size w W → Calls Tryz.prog 180 #[.string s, .string ⟨#[59]⟩] W fun e W' => e = .returned (.slice (some ⟨W.heap.size, 0, none⟩) (rest.length + 4) (rest.length + 4)) ∧ W' = W.alloc (.cells ((b0 :: b1 :: b2 :: (b3 :: rest)).map Value.string).toArray 9))
    (hS0 : ∀ W, RowKit.Below w.heap.size w W → Calls Tryz.prog 180 #[.string b0, .string ⟨#[32]⟩] W fun e W' => e = .returned (.slice (some ⟨W.heap.size, 0, none⟩) (t0.length + 1) (t0.length + 1)) ∧ W' = W.alloc (.cells ((q0 :: t0).map Value.string).toArray 9))
    (hS1 : ∀ W, RowKit.Below w.heap.size w W → Calls Tryz.prog 180 #[.string b1, .string ⟨#[32]⟩] W fun e W' => e = .returned (.slice (some ⟨W.heap.size, 0, none⟩) (t1.length + 1) (t1.length + 1)) ∧ W' = W.alloc (.cells ((q1 :: t1).map Value.string).toArray 9))
    (hS2 : ∀ W, RowKit.Below w.heap.size w W → Calls Tryz.prog 180 #[.string b2, .string ⟨#[32]⟩] W fun e W' => e = .returned (.slice (some ⟨W.heap.size, 0, none⟩) (t2.length + 1) (t2.length + 1)) ∧ W' = W.alloc (.cells ((q2 :: t2).map Value.string).toArray 9))
    (hT : ∀ b W, Calls Tryz.prog 181 #[.string b, .string ⟨#[110, 111, 110, 99, 101, 32]⟩] W fun e W' => e = .returned (.string ⟨(Lib.trimPrefix b.data.toList nonceW).toArray⟩) ∧ W' = W)
    (hF : ∀ W x y z n, RowKit.Below w.heap.size w W → Rd W (fun k => k < W.heap.size) (.sl 1 true (rStr (t0.map (·.data.toList)))) x → Rd W (fun k => k < W.heap.size) (.sl 1 true (rStr (t1.map (·.data.toList)))) y → Rd W (fun k => k < W.heap.size) (.sl 1 true (rStr (t2.map (·.data.toList)))) z → n.data.toList = nonceOf (((b3 :: rest)).map (·.data.toList)) →
      Calls Tryz.prog 182 #[.agg #[.bool true, x, y, z, .string n]] W fun e W' => e = .returned (.string f) ∧ Kept W W' ∧ Calls Tryz.prog 183 #[.agg #[.bool true, x, y, z, .string n]] W' fun e W2 => ∃ (bb : Bool) (p0 p1 p2 : Option Addr) (n0 n1 n2 c0 c1 c2 : Nat) (ss : ByteArray), e = .returned (.agg #[.bool bb, .slice p0 n0 c0, .slice p1 n1 c1, .slice p2 n2 c2, .string ss]) ∧ Kept W' W2)
    (hl : rest.length < 4294967281):
    Calls Tryz.prog 155 #[.string s] w (LeftP w (f.toList == s.toList)) := by
  rcases t0 with _ | ⟨y0, t0⟩ <;> rcases t1 with _ | ⟨y1, t1⟩ <;> rcases t2 with _ | ⟨y2, t2⟩
  all_goals go_enter Tryz.func155, Tryz.ntmps155
  all_goals go_wp2_with (go_at_call 180; refine (hS _ (by go_grown)).mono ?_; rintro e w' ⟨rfl, rfl⟩)
  all_goals refine wp_loop_rounds 4 ?_
  all_goals rw [rounds_succ]
  all_goals go_wp2_with (go_at_call 180; refine (hS0 _ (by go_grown)).mono ?_; rintro e w' ⟨rfl, rfl⟩)
  all_goals rw [rounds_succ]
  all_goals go_wp2_with (go_at_call 180; refine (hS1 _ (by go_grown)).mono ?_; rintro e w' ⟨rfl, rfl⟩)
  all_goals rw [rounds_succ]
  all_goals go_wp2_with (go_at_call 180; refine (hS2 _ (by go_grown)).mono ?_; rintro e w' ⟨rfl, rfl⟩)
  all_goals rw [rounds_succ]
  all_goals go_wp2_with (first
    | (go_at_call 181; refine (hT _ _).mono ?_; rintro e w' ⟨rfl, rfl⟩)
    | (go_at_call 182
       refine Calls.mono (hF _ _ _ _ _ (by go_grown) ?_ ?_ ?_ (by rfl)) ?_
       (focus first | exact .empty 1 true _ _ | (refine rd_part (q := q0) (t := _ :: _) (ty := 9) ?_; simp only [World.alloc, Array.getElem?_push, Array.size_push]; simp))
       (focus first | exact .empty 1 true _ _ | (refine rd_part (q := q1) (t := _ :: _) (ty := 9) ?_; simp only [World.alloc, Array.getElem?_push, Array.size_push]; simp))
       (focus first | exact .empty 1 true _ _ | (refine rd_part (q := q2) (t := _ :: _) (ty := 9) ?_; simp only [World.alloc, Array.getElem?_push, Array.size_push]; simp))
       rintro e w' ⟨rfl, hk, hcp⟩
       have hk1 := Kept.trans (kept_below (w := w) (by go_grown)) hk
       have r2 := kept_rule hk (g := w.heap.size) (by first | (simp; done) | (simp; omega) | omega)
       have f2 := kept_frozen hk (g := w.heap.size) (by first | (simp; done) | (simp; omega) | omega)
       have r7 := kept_rule hk (g := w.heap.size + 1 + 1 + 1 + 1 + 1 + 1) (by first | (simp; done) | (simp; omega) | omega)
       have l2 : w.heap.size < w'.heap.size := by have := hk.2.2.2.1; simp at this; omega
       have b2 := kept_at hk (g := w.heap.size) (cs := #[.bool false, .slice none 0 0, .slice none 0 0, .slice none 0 0, .string ⟨#[]⟩]) (ty := 67) (by simp only [World.alloc, Array.getElem?_push, Array.size_push]; first | (simp [Nat.add_assoc]; done) | (repeat rw [if_neg (by omega)]; simp))
       have K1 : Aside (Kept w w' ∧ w.heap.size < w'.heap.size ∧ w'.heap[w.heap.size]? = some (.cells #[.bool false, .slice none 0 0, .slice none 0 0, .slice none 0 0, .string ⟨#[]⟩] 67 (0, 0))) := ⟨hk1, l2, b2⟩
       clear hk hk1 l2 b2)
    | (go_at_call 183; refine hcp.mono ?_; rintro e w2 ⟨bb, p0, p1, p2, n0, n1, n2, c0, c1, c2, ss, rfl, hk2⟩
       have s2 := kept_rule hk2 (g := w.heap.size) K1.out.2.1
       have g2 := kept_frozen hk2 (g := w.heap.size) K1.out.2.1
       have K2 : Aside (Kept w w2 ∧ w2.heap[w.heap.size]? = some (.cells #[.bool false, .slice none 0 0, .slice none 0 0, .slice none 0 0, .string ⟨#[]⟩] 67 (0, 0))) := ⟨K1.out.1.trans hk2, kept_at hk2 K1.out.2.2⟩
       clear hk2))
  all_goals try simp only [Exit.inBlock, Exit.then]
  all_goals first
    | (rename_i h9
       have h8 : (f.toList == s.toList) = false := by simpa using h9
       rw [h8]
       have b5 := set5 K1.out.2.2 rfl (.bool false) (.slice none 0 0) (.slice none 0 0) (.slice none 0 0) (.string ⟨#[]⟩)
       have k5 := kept_set (a := ⟨w.heap.size, 4, none⟩) (v := .string ⟨#[]⟩) (kept_set (a := ⟨w.heap.size, 3, none⟩) (v := .slice none 0 0) (kept_set (a := ⟨w.heap.size, 2, none⟩) (v := .slice none 0 0) (kept_set (a := ⟨w.heap.size, 1, none⟩) (v := .slice none 0 0) (kept_set (a := ⟨w.heap.size, 0, none⟩) (v := .bool false) K1.out.1 (Nat.le_refl _)) (Nat.le_refl _)) (Nat.le_refl _)) (Nat.le_refl _)) (Nat.le_refl _)
       generalize World.setCell _ _ _ = W5 at b5 k5 ⊢
       refine bodyPost_ret (v := .tuple #[.agg #[.bool false, .slice none 0 0, .slice none 0 0, .slice none 0 0, .string ⟨#[]⟩], .bool false]) ?_ rfl ⟨_, _, _, _, _, _, _, _, _, _, _, rfl, k5⟩
       rw [results_cell_tmp rfl]
       have d0 := (cell_of (o := 0) b5).1
       have d1 := (cell_of (o := 1) b5).1
       have d2 := (cell_of (o := 2) b5).1
       have d3 := (cell_of (o := 3) b5).1
       have d4 := (cell_of (o := 4) b5).1
       clear r2 f2 r7 b5 k5 h8 h9
       go_simp
       try simp [d0, d1, d2, d3, d4])
    | (rename_i h9
       have h8 : (f.toList == s.toList) = true := by
         cases hh : (f.toList == s.toList) with
         | true => rfl
         | false => rw [hh] at h9; cases h9
       rw [h8]
       have b5 := set5 K2.out.2 rfl (.bool bb) (.slice p0 n0 c0) (.slice p1 n1 c1) (.slice p2 n2 c2) (.string ss)
       have k5 := kept_set (a := ⟨w.heap.size, 4, none⟩) (v := .string ss) (kept_set (a := ⟨w.heap.size, 3, none⟩) (v := .slice p2 n2 c2) (kept_set (a := ⟨w.heap.size, 2, none⟩) (v := .slice p1 n1 c1) (kept_set (a := ⟨w.heap.size, 1, none⟩) (v := .slice p0 n0 c0) (kept_set (a := ⟨w.heap.size, 0, none⟩) (v := .bool bb) K2.out.1 (Nat.le_refl _)) (Nat.le_refl _)) (Nat.le_refl _)) (Nat.le_refl _)) (Nat.le_refl _)
       generalize World.setCell _ _ _ = W5 at b5 k5 ⊢
       refine bodyPost_ret (v := .tuple #[.agg #[.bool bb, .slice p0 n0 c0, .slice p1 n1 c1, .slice p2 n2 c2, .string ss], .bool true]) ?_ rfl ⟨_, _, _, _, _, _, _, _, _, _, _, rfl, k5⟩
       rw [results_cell_tmp rfl]
       have d0 := (cell_of (o := 0) b5).1
       have d1 := (cell_of (o := 1) b5).1
       have d2 := (cell_of (o := 2) b5).1
       have d3 := (cell_of (o := 3) b5).1
       have d4 := (cell_of (o := 4) b5).1
       clear r2 f2 r7 s2 g2 b5 k5 h8 h9
       go_simp
       try simp [d0, d1, d2, d3, d4])
set_option maxHeartbeats 2000000 in
set_option maxRecDepth 100000 in
theorem Tryz.resp_walk (st kd age : Int) (body pol : ByteArray) (sh ok b1 b2 b4 : Bool) (w : World)
    (hP : ∀ W, RowKit.Below w.heap.size w W → Calls Tryz.prog 155 #[.string pol] W (LeftP W ok))
    (h1 : (decide ((100 : Int) ≤ st) && decide (st ≤ 599)) = b1)
    (h2 : (decide ((1 : Int) ≤ kd) && decide (kd ≤ 5)) = b2)
    (h4 : (decide ((0 : Int) ≤ age) && decide (age ≤ 1000)) = b4) :
    Calls Tryz.prog 112 #[.agg #[.int .i64 st, .int .i64 kd, .string body, .int .i64 age, .bool sh, .string pol]] w fun e w' => e = .returned (.bool (ok && b1 && b2 && decide ((body.size : Int) ≤ 400) && b4)) ∧ Kept w w' := by
  cases ok with
  | false =>
    go_enter Tryz.func112, Tryz.ntmps112
    go_wp2_with (first
      | (go_at_call 155; refine (hP _ (by go_grown)).mono ?_; rintro e w1 ⟨bb, p0, p1, p2, n0, n1, n2, c0, c1, c2, ss, rfl, hk⟩
         have hk1 := Kept.trans (kept_below (w := w) (by go_grown)) hk
         have r1 := kept_rule_alloc hk (g := w.heap.size) (by first | (simp; done) | (simp; omega) | omega)
         have K1 : Aside (Kept w w1) := hk1
         clear hk hk1)
      | (go_at_call 50; refine (Tryz.inRange _ _ _ _).mono ?_; rintro e w' ⟨rfl, rfl⟩; rw [h1])
      | (go_at_call 50; refine (Tryz.inRange _ _ _ _).mono ?_; rintro e w' ⟨rfl, rfl⟩; rw [h2])
      | (go_at_call 50; refine (Tryz.inRange _ _ _ _).mono ?_; rintro e w' ⟨rfl, rfl⟩; rw [h4]))
    go_ret
    exact ⟨by first | (simp; done) | (simp; omega) | (simp; intros; omega), K1.out.trans (Kept.alloc _ _)⟩
  | true =>
    cases b1 with
    | false =>
      go_enter Tryz.func112, Tryz.ntmps112
      go_wp2_with (first
        | (go_at_call 155; refine (hP _ (by go_grown)).mono ?_; rintro e w1 ⟨bb, p0, p1, p2, n0, n1, n2, c0, c1, c2, ss, rfl, hk⟩
           have hk1 := Kept.trans (kept_below (w := w) (by go_grown)) hk
           have r1 := kept_rule_alloc hk (g := w.heap.size) (by first | (simp; done) | (simp; omega) | omega)
           have K1 : Aside (Kept w w1) := hk1
           clear hk hk1)
        | (go_at_call 50; refine (Tryz.inRange _ _ _ _).mono ?_; rintro e w' ⟨rfl, rfl⟩; rw [h1])
        | (go_at_call 50; refine (Tryz.inRange _ _ _ _).mono ?_; rintro e w' ⟨rfl, rfl⟩; rw [h2])
        | (go_at_call 50; refine (Tryz.inRange _ _ _ _).mono ?_; rintro e w' ⟨rfl, rfl⟩; rw [h4]))
      go_ret
      exact ⟨by first | (simp; done) | (simp; omega) | (simp; intros; omega), K1.out.trans (Kept.alloc _ _)⟩
    | true =>
      cases b2 with
      | false =>
        go_enter Tryz.func112, Tryz.ntmps112
        go_wp2_with (first
          | (go_at_call 155; refine (hP _ (by go_grown)).mono ?_; rintro e w1 ⟨bb, p0, p1, p2, n0, n1, n2, c0, c1, c2, ss, rfl, hk⟩
             have hk1 := Kept.trans (kept_below (w := w) (by go_grown)) hk
             have r1 := kept_rule_alloc hk (g := w.heap.size) (by first | (simp; done) | (simp; omega) | omega)
             have K1 : Aside (Kept w w1) := hk1
             clear hk hk1)
          | (go_at_call 50; refine (Tryz.inRange _ _ _ _).mono ?_; rintro e w' ⟨rfl, rfl⟩; rw [h1])
          | (go_at_call 50; refine (Tryz.inRange _ _ _ _).mono ?_; rintro e w' ⟨rfl, rfl⟩; rw [h2])
          | (go_at_call 50; refine (Tryz.inRange _ _ _ _).mono ?_; rintro e w' ⟨rfl, rfl⟩; rw [h4]))
        go_ret
        exact ⟨by first | (simp; done) | (simp; omega) | (simp; intros; omega), K1.out.trans (Kept.alloc _ _)⟩
      | true =>
        by_cases h3 : (body.size : Int) ≤ 400
        · cases b4 with
          | false =>
            go_enter Tryz.func112, Tryz.ntmps112
            go_wp2_with (first
              | (go_at_call 155; refine (hP _ (by go_grown)).mono ?_; rintro e w1 ⟨bb, p0, p1, p2, n0, n1, n2, c0, c1, c2, ss, rfl, hk⟩
                 have hk1 := Kept.trans (kept_below (w := w) (by go_grown)) hk
                 have r1 := kept_rule_alloc hk (g := w.heap.size) (by first | (simp; done) | (simp; omega) | omega)
                 have K1 : Aside (Kept w w1) := hk1
                 clear hk hk1)
              | (go_at_call 50; refine (Tryz.inRange _ _ _ _).mono ?_; rintro e w' ⟨rfl, rfl⟩; rw [h1])
              | (go_at_call 50; refine (Tryz.inRange _ _ _ _).mono ?_; rintro e w' ⟨rfl, rfl⟩; rw [h2])
              | (go_at_call 50; refine (Tryz.inRange _ _ _ _).mono ?_; rintro e w' ⟨rfl, rfl⟩; rw [h4]))
            go_ret
            exact ⟨by first | (simp; done) | (simp; omega) | (simp; intros; omega), K1.out.trans (Kept.alloc _ _)⟩
          | true =>
            go_enter Tryz.func112, Tryz.ntmps112
            go_wp2_with (first
              | (go_at_call 155; refine (hP _ (by go_grown)).mono ?_; rintro e w1 ⟨bb, p0, p1, p2, n0, n1, n2, c0, c1, c2, ss, rfl, hk⟩
                 have hk1 := Kept.trans (kept_below (w := w) (by go_grown)) hk
                 have r1 := kept_rule_alloc hk (g := w.heap.size) (by first | (simp; done) | (simp; omega) | omega)
                 have K1 : Aside (Kept w w1) := hk1
                 clear hk hk1)
              | (go_at_call 50; refine (Tryz.inRange _ _ _ _).mono ?_; rintro e w' ⟨rfl, rfl⟩; rw [h1])
              | (go_at_call 50; refine (Tryz.inRange _ _ _ _).mono ?_; rintro e w' ⟨rfl, rfl⟩; rw [h2])
              | (go_at_call 50; refine (Tryz.inRange _ _ _ _).mono ?_; rintro e w' ⟨rfl, rfl⟩; rw [h4]))
            go_ret
            exact ⟨by first | (simp; done) | (simp; omega) | (simp; intros; omega), K1.out.trans (Kept.alloc _ _)⟩
        · go_enter Tryz.func112, Tryz.ntmps112
          go_wp2_with (first
            | (go_at_call 155; refine (hP _ (by go_grown)).mono ?_; rintro e w1 ⟨bb, p0, p1, p2, n0, n1, n2, c0, c1, c2, ss, rfl, hk⟩
               have hk1 := Kept.trans (kept_below (w := w) (by go_grown)) hk
               have r1 := kept_rule_alloc hk (g := w.heap.size) (by first | (simp; done) | (simp; omega) | omega)
               have K1 : Aside (Kept w w1) := hk1
               clear hk hk1)
            | (go_at_call 50; refine (Tryz.inRange _ _ _ _).mono ?_; rintro e w' ⟨rfl, rfl⟩; rw [h1])
            | (go_at_call 50; refine (Tryz.inRange _ _ _ _).mono ?_; rintro e w' ⟨rfl, rfl⟩; rw [h2])
            | (go_at_call 50; refine (Tryz.inRange _ _ _ _).mono ?_; rintro e w' ⟨rfl, rfl⟩; rw [h4]))
          go_ret
          exact ⟨by first | (simp; done) | (simp; omega) | (simp; intros; omega), K1.out.trans (Kept.alloc _ _)⟩
end Go.Proofs

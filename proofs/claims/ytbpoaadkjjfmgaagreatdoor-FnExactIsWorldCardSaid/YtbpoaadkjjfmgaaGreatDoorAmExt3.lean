/-
  Functions that sort a fresh copy: what the machine answers for them (an own new slice), and that this is what they do. No theorem about a Go program of this place stands here.
-/
import Derived.Test.YtbpoaadkjjfmgaaGreatDoorAmExt
import Derived.Test.YtbpoaadkjjfmgaaGreatDoorAmComp
import Derived.Lib.Bytealg
import Derived.Lib.SlicesCompact
import Derived.Shelf.GgSortFunc.InsertionK
set_option linter.unusedVariables false
set_option linter.unusedSimpArgs false
namespace Go.Am
open Go Go.RowKit
section
variable {P : Program} {c : Cfg}
theorem answer_own {R : Nat → Prop} {w w' : World} {s : Nat} {q : Q} {ys : List V} {g o cap : Nat} {cur : Array Value} {ty : TypeId} (hk : Kept w w') (hq : flatOk q ys) (hn : w.heap.size ≤ g) (hg : w'.heap[g]? = some (.cells cur ty (0, 0))) (hl : ys.length ≤ cap) (hm : cap ≤ maxLen) (hc : o + cap * s ≤ cur.size)
    (hr : Rows w' (fun _ => False) s ys g o) : Answer R w (.own 0 s q ys) (.slice (some ⟨g, o, none⟩) ys.length cap) w' := by
  have hlt : g < w'.heap.size := by
    rcases Nat.lt_or_ge g w'.heap.size with h | h
    · exact h
    · rw [Array.getElem?_eq_none h] at hg; cases hg
  let Γ : Ctx := { w0 := w', F := fun k => w.heap.size ≤ k, S := fun _ => False, has := fun b => b = 0, blk := fun _ => g, off := fun _ => o, cap := fun _ => cap, sz := fun _ => s, ln := fun _ => ys.length, lb := fun _ => False, box := fun _ => 0, R := fun _ => False }
  refine ⟨hk.1, hk.2.1, hk.2.2.1, hk.2.2.2.1, hk.2.2.2.2, Γ, ?_, fun _ h => h, fun _ h => h.elim, ?_, fun b b' h h' _ => h.trans h'.symm⟩
  · exact VR.own (Γ := Γ) 0 s q ys rfl rfl ⟨hl, rfl⟩ (hr.mono (fun _ h => h.elim) (fun _ h => h.elim) (fun _ _ _ => rfl)) hq
  · intro b hb
    exact ⟨hn, hlt, fun h => h, hm, cur, ty, hg, hc⟩
theorem Kept.trans {w w1 w2 : World} (h : Kept w w1) (h' : Kept w1 w2) : Kept w w2 :=
  ⟨h'.1.trans h.1, h'.2.1.trans h.2.1, h'.2.2.1.trans h.2.2.1, Nat.le_trans h.2.2.2.1 h'.2.2.2.1, fun k hk => (h'.2.2.2.2 k (Nat.lt_of_lt_of_le hk h.2.2.2.1)).trans (h.2.2.2.2 k hk)⟩
theorem Kept.alloc (w : World) (o : Obj) : Kept w (w.alloc o) := ⟨rfl, rfl, rfl, by show w.heap.size ≤ (w.heap.push o).size; simp, fun k hk => by show (w.heap.push o)[k]? = _; rw [Array.getElem?_push, if_neg (by omega)]⟩
theorem Kept.of_answer {R : Nat → Prop} {w w' : World} {r : V} {x : Value} (h : Answer R w r x w') : Kept w w' := ⟨h.os, h.tape, h.output, h.size, h.old⟩
theorem Kept.glob {w w' : World} (h : Kept w w') (hg : globOk w) : globOk w' :=
  ⟨globStable _ _ hg.1 (fun k hk => h.2.2.2.2 k (Nat.lt_of_lt_of_le hk hg.2)), Nat.le_trans hg.2 h.2.2.2.1⟩
theorem Kept.rd {w w' : World} {R : Nat → Prop} (h : Kept w w') (hR : ∀ k, R k → k < w.heap.size) {v : V} {x : Value} (hr : Rd w R v x) : Rd w' R v x :=
  hr.mono (fun _ h => h) (fun k hk o => by simp only [World.cell?, h.2.2.2.2 k (hR k hk)])
theorem Kept.lt {w w' : World} (h : Kept w w') {R : Nat → Prop} (hR : ∀ k, R k → k < w.heap.size) : ∀ k, R k → k < w'.heap.size := fun k hk => Nat.lt_of_lt_of_le (hR k hk) h.2.2.2.1
abbrev Pr := List UInt8 × List UInt8
def cmpPr (x y : Pr) : Int := if Lib.compareBytes x.1 y.1 ≠ 0 then Lib.compareBytes x.1 y.1 else Lib.compareBytes x.2 y.2
def ltPr (x y : Pr) : Bool := decide (cmpPr x y < 0)
theorem cb_self : ∀ a : List UInt8, Lib.compareBytes a a = 0 := by
  intro a
  induction a with
  | nil => rfl
  | cons x a ih => simp [Lib.compareBytes, ih]
theorem cmp_self (x : Pr) : cmpPr x x = 0 := by simp [cmpPr, cb_self]
theorem lt_irrefl (x : Pr) : ltPr x x = false := by simp [ltPr, cmp_self]
theorem rd_pr_str {w : World} {S : Nat → Prop} {s : List UInt8} {x : Value} (h : Rd w S (.str s) x) : x = .string ⟨s.toArray⟩ := by
  cases h with
  | str _ y hy =>
    congr 1
    apply ByteArray.ext
    apply Array.ext'
    rw [hy]
end
end Go.Am

/-
  strings.Split at a separator of one byte: what the machine answers for it, and that this is what it does.
-/
import Derived.Test.YtbpoaadkjjfmgaaGreatDoorAmExt3
import Derived.Lib.SplitLaws
import Derived.Lib.Split
set_option linter.unusedVariables false
set_option linter.unusedSimpArgs false
namespace Go.Am
open Go Go.RowKit
section
variable {P : Program} {c : Cfg}
def splitC (c : UInt8) : List UInt8 → List (List UInt8)
 | [] => [[]]
 | b :: l => if b = c then [] :: splitC c l else match splitC c l with
  | p :: ps => (b :: p) :: ps
  | [] => [[b]]
theorem splitC_ne (c : UInt8) (s : List UInt8) : splitC c s ≠ [] := by
 cases s with
 | nil => simp [splitC]
 | cons b l =>
  unfold splitC
  split
  ·simp
  ·split <;> simp
theorem splitK_one (c : UInt8) : ∀ s : List UInt8, Lib.splitK [c] 0 (Lib.count s [c]) s = splitC c s := by
 intro s
 induction s with
 | nil => rfl
 | cons b l ih =>
  by_cases h : b = c
  ·subst h
   rw [Lib.count_cons_eq, Nat.add_comm, Lib.splitK]
   have hi : Lib.index (b :: l) [b] = 0 := by simp [Lib.index]
   rw [hi]
   show ((b :: l).take (0 + 0)) :: Lib.splitK [b] 0 (Lib.count l [b]) ((b :: l).drop (0 + 1)) = _
   rw [show (b :: l).drop (0 + 1) = l from rfl, ih]
   simp [splitC]
  ·rw [Lib.count_cons_ne _ _ _ h]
   have hi : Lib.index (b :: l) [c] = if Lib.index l [c] == -1 then -1 else Lib.index l [c] + 1 := by
    rw [Lib.index]
    have : ([c].isPrefixOf (b :: l)) = false := by simp [List.isPrefixOf, Ne.symm h]
    rw [this]
    rfl
   unfold splitC
   rw [if_neg h, ← ih]
   cases hn : Lib.count l [c] with
   | zero => rfl
   | succ m =>
    rw [Lib.splitK, Lib.splitK, hi]
    by_cases h1 : Lib.index l [c] = -1
    ·simp [h1]
    ·have hge := Lib.index_ge l [c]
     have h2 : (Lib.index l [c] == -1) = false := by simpa using h1
     have h3 : (Lib.index l [c] + 1 == -1) = false := by
      simp only [beq_eq_false_iff_ne, Ne]
      omega
     rw [h2]
     simp only [Bool.false_eq_true, if_false, h3]
     have h4 : (Lib.index l [c] + 1).toNat = (Lib.index l [c]).toNat + 1 := by omega
     rw [h4]
     simp
theorem splitB_one (c : UInt8) (s : ByteArray) : (Lib.splitB ⟨#[c]⟩ 0 (Lib.countB s ⟨#[c]⟩) s).map (·.data.toList) = splitC c s.data.toList := by
 rw [Lib.splitB_data]
 exact splitK_one c s.data.toList
theorem splitC_len (c : UInt8) (s : List UInt8) : (splitC c s).length ≤ s.length + 1 := by
 induction s with
 | nil => exact Nat.le_refl _
 | cons b l ih =>
  unfold splitC
  split
  ·simp; exact ih
  ·split
   ·rename_i p ps h
    rw [h] at ih
    simp at ih ⊢
    omega
   ·simp
def splitV : List V → Option V
 | [.str s, .str [c]] => if s.length < 4294967281 then some (.own 0 1 .flat (rStr (splitC c s))) else none
 | _ => none
theorem ext_split {f : Nat} {fn : Func} {ty : TypeId} (hf : P.funcs[f]? = some fn) (hb : fn.body.isNone = false) (hn : (fn.name == "runtime.NumGoroutine") = false)
  (h1 : ∀ (s : ByteArray) (c : UInt8) (w : World), globOk w → s.size < 4294967281 → Calls P f #[.string s, .string ⟨#[c]⟩] w fun e w' =>
   e = .returned (.slice (some ⟨w.heap.size, 0, none⟩) (Lib.countB s ⟨#[c]⟩ + 1) (Lib.countB s ⟨#[c]⟩ + 1)) ∧ w' = w.alloc (.cells ((Lib.splitB ⟨#[c]⟩ 0 (Lib.countB s ⟨#[c]⟩) s).map Value.string).toArray ty)) : ExtOk P f splitV := by
 intro args r h
 refine ⟨⟨fn, hf, hb, hn⟩, fun R w vals hg hR hl hv => ?_⟩
 unfold splitV at h
 split at h
 ·rename_i s c
  split at h
  ·rename_i hc
   simp only [sj_] at h
   subst h
   obtain ⟨x, y, rfl, e0, e1⟩ := vals2 hl
   obtain ⟨sa, rfl, ha⟩ := rd_str (hv 0 _ _ rfl e0)
   obtain rfl := rd_pr_str (hv 1 _ _ rfl e1)
   have hsz : sa.size < 4294967281 := by
    show sa.data.size < _
    rw [← Array.length_toList, ha]
    exact hc
   refine (h1 sa c w hg hsz).mono (fun e w' he => ?_)
   obtain ⟨rfl, rfl⟩ := he
   have hlen : (Lib.splitB ⟨#[c]⟩ 0 (Lib.countB sa ⟨#[c]⟩) sa).length = Lib.countB sa ⟨#[c]⟩ + 1 := Lib.splitB_all ⟨#[c]⟩ (Nat.le_refl 1) 0 _ sa rfl
   have hsp := splitB_one c sa
   rw [ha] at hsp
   generalize Lib.splitB ⟨#[c]⟩ 0 (Lib.countB sa ⟨#[c]⟩) sa = ps at hlen hsp
   have hl2 : (splitC c s).length = ps.length := by rw [← hsp, List.length_map]
   have hle := splitC_len c s
   have hcell : (w.alloc (.cells (ps.map Value.string).toArray ty)).heap[w.heap.size]? = some (.cells (ps.map Value.string).toArray ty (0, 0)) := by
    show (w.heap.push _)[w.heap.size]? = _
    simp
   have := answer_own (R := R) (s := 1) (q := .flat) (ys := rStr (splitC c s)) (o := 0) (g := w.heap.size) (cap := ps.length) (Kept.alloc w (.cells (ps.map Value.string).toArray ty)) (fun _ x hx cc hcc => by
    obtain ⟨p, _, rfl⟩ := List.mem_map.1 hx
    simp only [CK.enc, V.cells, List.mem_cons, List.not_mem_nil, or_false] at hcc
    subst hcc
    exact trivial) (Nat.le_refl _) hcell (by rw [rStr_len]; omega) (by unfold maxLen; omega) (by simp) ⟨fun x hx => by
     obtain ⟨p, _, rfl⟩ := List.mem_map.1 hx
     rfl, fun i _ => Value.string ((ps[i]?).getD ByteArray.empty), fun i j hi hj => ?_, fun i x j cc hx hcc => ?_⟩
   ·rw [rStr_len, hl2] at this
    rw [← hlen]
    exact this
   ·rw [rStr_len] at hi
    have hj0 : j = 0 := by omega
    subst hj0
    have hip : i < ps.length := by omega
    refine ⟨?_, rfl⟩
    simp only [World.cell?, hcell, Nat.mul_one, Nat.add_zero, Nat.zero_add]
    simp [hip]
   ·have hi := (gs_ hx).1
    rw [rStr_len] at hi
    have hip : i < ps.length := by omega
    have hx2 : x = .str (splitC c s)[i] := by
     rw [show rStr (splitC c s) = (splitC c s).map V.str from rfl, List.getElem?_map, List.getElem?_eq_getElem hi] at hx
     injection hx with hx
     exact hx.symm
    subst hx2
    have hj0 : cc = .str (splitC c s)[i] := by
     match j, hcc with
     | 0, hcc => injection hcc with hcc; exact hcc.symm
     | j + 1, hcc => simp [V.cells] at hcc
    subst hj0
    have e5 : (splitC c s)[i] = (ps[i]).data.toList := by
     have : (splitC c s)[i]? = (ps.map (·.data.toList))[i]? := by rw [hsp]
     rw [List.getElem?_eq_getElem hi, List.getElem?_map, List.getElem?_eq_getElem hip] at this
     simpa using this
    show Rd _ _ _ (Value.string ((ps[i]?).getD ByteArray.empty))
    rw [List.getElem?_eq_getElem hip, e5]
    exact .str _ _ rfl
  ·cases h
 ·cases h
def splitK : (β : Type) → List UInt8 → List UInt8 → (List V → Option β) → Option β := fun β s sep k =>
 match sep with
 | [c] => chk (s.length < 4294967281) (k (rStr (splitC c s)))
 | _ => none
end
end Go.Am

/-
  More functions of Go's library that are met by their contracts: strconv.Itoa, strings.Compare, TrimPrefix, CutPrefix, IndexByte.
-/
import Derived.Test.YtbpoaadkjjfmgaaGreatDoorAmExt
import Derived.Lib.ItoaNum
import Derived.Lib.Bytealg
import Derived.Lib.Strings
import Derived.Sort.Grow
import Derived.Deep.Draws
set_option linter.unusedVariables false
set_option linter.unusedSimpArgs false
namespace Go.Am
open Go Go.RowKit Go.Sort
section
variable {P : Program} {c : Cfg}
theorem Kept.grow (w : World) (k : Nat) (os : Array Obj) : Kept w (grow (w.drewN k) os) := by
 refine ⟨rfl, rfl, rfl, ?_, fun g h => ?_⟩
 ·simp [Go.Sort.grow, World.drewN]
 ·simp [Go.Sort.grow, World.drewN, Array.getElem?_append, h]
def cmpV : List V → Option V
 | [.str a, .str b] => some (.int .i64 (Lib.compareBytes a b))
 | _ => none
theorem ext_cmp {f : Nat} {fn : Func} (hf : P.funcs[f]? = some fn) (hb : fn.body.isNone = false) (hn : (fn.name == "runtime.NumGoroutine") = false)
  (h1 : ∀ (a b : ByteArray) (w : World), Calls P f #[.string a, .string b] w fun e w' => e = .returned (.int .i64 (Lib.compareBytes a.data.toList b.data.toList)) ∧ w' = w) : ExtOk P f cmpV := by
 intro args r h
 refine ⟨⟨fn, hf, hb, hn⟩, fun R w vals hg hR hl hv => ?_⟩
 unfold cmpV at h
 split at h
 ·simp only [sj_] at h
  subst h
  obtain ⟨x, y, rfl, e0, e1⟩ := vals2 hl
  obtain ⟨sa, rfl, ha⟩ := rd_str (hv 0 _ _ rfl e0)
  obtain ⟨sb, rfl, hb'⟩ := rd_str (hv 1 _ _ rfl e1)
  refine (h1 sa sb w).mono (fun e w' he => ?_)
  obtain ⟨rfl, rfl⟩ := he
  exact answer_plain (Kept.refl _) (by rw [ha, hb']; exact .int _ _)
 ·cases h
def trimV : List V → Option V
 | [.str a, .str b] => some (.str (Lib.trimPrefix a b))
 | _ => none
theorem ext_trim {f : Nat} {fn : Func} (hf : P.funcs[f]? = some fn) (hb : fn.body.isNone = false) (hn : (fn.name == "runtime.NumGoroutine") = false)
  (h1 : ∀ (a b : ByteArray) (w : World), Calls P f #[.string a, .string b] w fun e w' => e = .returned (.string ⟨(Lib.trimPrefix a.data.toList b.data.toList).toArray⟩) ∧ w' = w) : ExtOk P f trimV := by
 intro args r h
 refine ⟨⟨fn, hf, hb, hn⟩, fun R w vals hg hR hl hv => ?_⟩
 unfold trimV at h
 split at h
 ·simp only [sj_] at h
  subst h
  obtain ⟨x, y, rfl, e0, e1⟩ := vals2 hl
  obtain ⟨sa, rfl, ha⟩ := rd_str (hv 0 _ _ rfl e0)
  obtain ⟨sb, rfl, hb'⟩ := rd_str (hv 1 _ _ rfl e1)
  refine (h1 sa sb w).mono (fun e w' he => ?_)
  obtain ⟨rfl, rfl⟩ := he
  exact answer_plain (Kept.refl _) (.str _ _ (by rw [ha, hb']))
 ·cases h
end
end Go.Am

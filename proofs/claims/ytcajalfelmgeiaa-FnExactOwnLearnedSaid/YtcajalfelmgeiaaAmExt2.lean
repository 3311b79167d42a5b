/-
  More functions of Go's library that are met by their contracts: strconv.Itoa, strings.Compare, TrimPrefix, CutPrefix, IndexByte. No theorem about a Go program of this place stands here.
-/
import Derived.Test.YtcajalfelmgeiaaAmExt
import Derived.Lib.ItoaNum
import Derived.Lib.Bytealg
import Derived.Lib.Strings
import Derived.Sort.Grow
import Derived.Deep.Draws
set_option linter.unusedVariables false
set_option linter.unusedSimpArgs false
namespace Go.Am
open Go Go.RowKit Go.Sort
section
variable {P : Program} {c : Cfg}
theorem Kept.grow (w : World) (k : Nat) (os : Array Obj) : Kept w (grow (w.drewN k) os) := by
  refine ⟨rfl, rfl, rfl, ?_, fun g h => ?_⟩
  · simp [Go.Sort.grow, World.drewN]
  · simp [Go.Sort.grow, World.drewN, Array.getElem?_append, h]

/-! ### strconv.Itoa -/
def itoaV : List V → Option V
  | [.int .i64 n] => if -9223372036854775808 ≤ n ∧ n ≤ 9223372036854775807 then some (.str (Lib.itoa n)) else none
  | _ => none
theorem ext_itoa {f : Nat} {fn : Func} (hf : P.funcs[f]? = some fn) (hb : fn.body.isNone = false) (hn : (fn.name == "runtime.NumGoroutine") = false)
    (h1 : ∀ (n : Int) (w : World), globOk w → -9223372036854775808 ≤ n → n ≤ 9223372036854775807 → Calls P f #[.int .i64 n] w fun e w' => e = .returned (.string ⟨(Lib.itoa n).toArray⟩) ∧ ∃ k os, w' = grow (w.drewN k) os) : ExtOk P f itoaV := by
  intro args r h
  refine ⟨⟨fn, hf, hb, hn⟩, fun R w vals hg hR hl hv => ?_⟩
  unfold itoaV at h
  split at h
  · rename_i n
    split at h
    · rename_i hc
      simp only [Option.some.injEq] at h
      subst h
      obtain ⟨x, rfl, e0⟩ := vals1 hl
      obtain rfl := rd_int (hv 0 _ _ rfl e0)
      refine (h1 n w hg hc.1 hc.2).mono (fun e w' he => ?_)
      obtain ⟨rfl, k, os, rfl⟩ := he
      exact answer_plain (Kept.grow _ _ _) (.str _ _ rfl)
    · cases h
  · cases h
def itoaK : (β : Type) → Int → (List UInt8 → Option β) → Option β := fun β n k => chk (-9223372036854775808 ≤ n ∧ n ≤ 9223372036854775807) (k (Lib.itoa n))
theorem itoaV_of {n : Int} (h1 : -9223372036854775808 ≤ n ∧ n ≤ 9223372036854775807) : itoaV [.int .i64 n] = some (.str (Lib.itoa n)) := by
  simp only [itoaV]
  rw [if_pos h1]
theorem itoaK_inv {β : Type} {n : Int} {k : List UInt8 → Option β} {r : β} (h : itoaK β n k = some r) : (-9223372036854775808 ≤ n ∧ n ≤ 9223372036854775807) ∧ k (Lib.itoa n) = some r := chk_some h
theorem ok_itoa {ext : Nat → List V → Option V} {f : Nat} (hE : ∀ args, ext f args = itoaV args) : FnOk (den P c ext) f (wrap [(false, [.int .i64])] (fun β e k => itoaK β e.1.1 (fun y => k (.str y)))) := by
  refine ext_okW hE (fun β x k r hr => ?_)
  obtain ⟨⟨n, _⟩, _⟩ := x
  obtain ⟨h1, h2⟩ := itoaK_inv (n := n) hr
  exact ⟨.str (Lib.itoa n), itoaV_of h1, h2⟩
def itoaE (n : Int) : Option (List UInt8) := chk (-9223372036854775808 ≤ n ∧ n ≤ 9223372036854775807) (some (Lib.itoa n))
theorem ei_itoaE {β : Type} (n : Int) (k : List UInt8 → Option β) : Imp (itoaK β n k) (itoaE n) (fun r => k r) := Imp.chk rfl (fun _ => Imp.ret rfl)

/-! ### strings.Compare -/
def cmpV : List V → Option V
  | [.str a, .str b] => some (.int .i64 (Lib.compareBytes a b))
  | _ => none
theorem ext_cmp {f : Nat} {fn : Func} (hf : P.funcs[f]? = some fn) (hb : fn.body.isNone = false) (hn : (fn.name == "runtime.NumGoroutine") = false)
    (h1 : ∀ (a b : ByteArray) (w : World), Calls P f #[.string a, .string b] w fun e w' => e = .returned (.int .i64 (Lib.compareBytes a.data.toList b.data.toList)) ∧ w' = w) : ExtOk P f cmpV := by
  intro args r h
  refine ⟨⟨fn, hf, hb, hn⟩, fun R w vals hg hR hl hv => ?_⟩
  unfold cmpV at h
  split at h
  · simp only [Option.some.injEq] at h
    subst h
    obtain ⟨x, y, rfl, e0, e1⟩ := vals2 hl
    obtain ⟨sa, rfl, ha⟩ := rd_str (hv 0 _ _ rfl e0)
    obtain ⟨sb, rfl, hb'⟩ := rd_str (hv 1 _ _ rfl e1)
    refine (h1 sa sb w).mono (fun e w' he => ?_)
    obtain ⟨rfl, rfl⟩ := he
    exact answer_plain (Kept.refl _) (by rw [ha, hb']; exact .int _ _)
  · cases h
def cmpK : (β : Type) → List UInt8 → List UInt8 → (Int → Option β) → Option β := fun β a b k => k (Lib.compareBytes a b)
theorem ok_cmp {ext : Nat → List V → Option V} {f : Nat} (hE : ∀ args, ext f args = cmpV args) : FnOk (den P c ext) f (wrap [(false, [.str]), (false, [.str])] (fun β e k => cmpK β e.1.1 e.2.1.1 (fun y => k (.int .i64 y)))) := by
  refine ext_okW hE (fun β x k r hr => ?_)
  obtain ⟨⟨a, _⟩, ⟨b, _⟩, _⟩ := x
  exact ⟨.int .i64 (Lib.compareBytes a b), rfl, hr⟩
def cmpE (a b : List UInt8) : Option Int := some (Lib.compareBytes a b)
theorem ei_cmpE {β : Type} (a b : List UInt8) (k : Int → Option β) : Imp (cmpK β a b k) (cmpE a b) (fun r => k r) := Imp.ret rfl

/-! ### strings.TrimPrefix -/
def trimV : List V → Option V
  | [.str a, .str b] => some (.str (Lib.trimPrefix a b))
  | _ => none
theorem ext_trim {f : Nat} {fn : Func} (hf : P.funcs[f]? = some fn) (hb : fn.body.isNone = false) (hn : (fn.name == "runtime.NumGoroutine") = false)
    (h1 : ∀ (a b : ByteArray) (w : World), Calls P f #[.string a, .string b] w fun e w' => e = .returned (.string ⟨(Lib.trimPrefix a.data.toList b.data.toList).toArray⟩) ∧ w' = w) : ExtOk P f trimV := by
  intro args r h
  refine ⟨⟨fn, hf, hb, hn⟩, fun R w vals hg hR hl hv => ?_⟩
  unfold trimV at h
  split at h
  · simp only [Option.some.injEq] at h
    subst h
    obtain ⟨x, y, rfl, e0, e1⟩ := vals2 hl
    obtain ⟨sa, rfl, ha⟩ := rd_str (hv 0 _ _ rfl e0)
    obtain ⟨sb, rfl, hb'⟩ := rd_str (hv 1 _ _ rfl e1)
    refine (h1 sa sb w).mono (fun e w' he => ?_)
    obtain ⟨rfl, rfl⟩ := he
    exact answer_plain (Kept.refl _) (.str _ _ (by rw [ha, hb']))
  · cases h
def trimK : (β : Type) → List UInt8 → List UInt8 → (List UInt8 → Option β) → Option β := fun β a b k => k (Lib.trimPrefix a b)
theorem ok_trim {ext : Nat → List V → Option V} {f : Nat} (hE : ∀ args, ext f args = trimV args) : FnOk (den P c ext) f (wrap [(false, [.str]), (false, [.str])] (fun β e k => trimK β e.1.1 e.2.1.1 (fun y => k (.str y)))) := by
  refine ext_okW hE (fun β x k r hr => ?_)
  obtain ⟨⟨a, _⟩, ⟨b, _⟩, _⟩ := x
  exact ⟨.str (Lib.trimPrefix a b), rfl, hr⟩
def trimE (a b : List UInt8) : Option (List UInt8) := some (Lib.trimPrefix a b)
theorem ei_trimE {β : Type} (a b : List UInt8) (k : List UInt8 → Option β) : Imp (trimK β a b k) (trimE a b) (fun r => k r) := Imp.ret rfl
end
end Go.Am

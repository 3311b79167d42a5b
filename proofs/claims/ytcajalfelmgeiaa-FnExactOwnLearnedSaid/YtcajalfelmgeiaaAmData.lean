/-
  A law's arguments as data: what a type's form says, told shape by shape. No theorem about a Go program stands here.
-/
import Derived.Test.YtcajalfelmgeiaaAmLaw
import Derived.Test.YtcajalfelmgeiaaAmMath
set_option linter.unusedVariables false
set_option linter.unusedSimpArgs false
namespace Go.Am
open Go
section
variable {P : Program} {fl : Nat → Bool} {n t e : Nat} {vs : List V}
theorem cn_bool (h : Cn P fl n t vs) (hu : P.underlying t = some .bool) : ∃ b, vs = [.bool b] := by
  cases n with
  | zero => cases h
  | succ n => unfold Cn at h; rw [hu] at h; exact h
theorem cn_int {k : IntKind} (h : Cn P fl n t vs) (hu : P.underlying t = some (.int k)) : ∃ m, vs = [.int k m] ∧ (Lit.int k m).wf = true := by
  cases n with
  | zero => cases h
  | succ n => unfold Cn at h; rw [hu] at h; exact h
theorem cn_str (h : Cn P fl n t vs) (hu : P.underlying t = some .string) : ∃ s, vs = [.str s] ∧ s.length ≤ maxLen := by
  cases n with
  | zero => cases h
  | succ n => unfold Cn at h; rw [hu] at h; exact h
def fieldsC (P : Program) (fl : Nat → Bool) (n : Nat) (vs : List V) : List Field → Prop
  | [] => True
  | f :: fs => Cn P fl n f.type ((vs.drop f.offset).take (P.cellsOf f.type)) ∧ fieldsC P fl n vs fs
theorem cn_struct {fs : Array Field} (h : Cn P fl n t vs) (hu : P.underlying t = some (.struct fs)) : ∃ m, vs.length = P.cellsOf t ∧ fieldsC P fl m vs fs.toList := by
  cases n with
  | zero => cases h
  | succ n =>
    unfold Cn at h
    rw [hu] at h
    refine ⟨n, h.1, ?_⟩
    have : ∀ l : List Field, (∀ f ∈ l, Cn P fl n f.type ((vs.drop f.offset).take (P.cellsOf f.type))) → fieldsC P fl n vs l := by
      intro l
      induction l with
      | nil => intro _; trivial
      | cons f l ih => intro g; exact ⟨g f (by simp), ih (fun f hf => g f (by simp [hf]))⟩
    exact this _ h.2
theorem cn_rows {fs : Array Field} (h : Cn P fl n t vs) (hu : P.underlying t = some (.slice e)) (he : P.underlying e = some (.struct fs)) : ∃ m rows, vs = [.sl (P.cellsOf e) (fl e) rows] ∧ rows.length ≤ maxLen ∧ ∀ r ∈ rows, ∃ us, Cn P fl m e us ∧ r = .agg us := by
  cases n with
  | zero => cases h
  | succ n =>
    unfold Cn at h
    rw [hu] at h
    obtain ⟨rows, h1, h2, h3⟩ := h
    refine ⟨n, rows, h1, h2, fun r hr => ?_⟩
    obtain ⟨us, _, g2, g3⟩ := h3 r hr
    rw [he] at g3
    exact ⟨us, g2, g3⟩
theorem cn_rows1 (h : Cn P fl n t vs) (hu : P.underlying t = some (.slice e)) (he : ∀ fs, P.underlying e ≠ some (.struct fs)) : ∃ m rows, vs = [.sl (P.cellsOf e) (fl e) rows] ∧ rows.length ≤ maxLen ∧ ∀ r ∈ rows, ∃ us, Cn P fl m e us ∧ r = us.headD .undef := by
  cases n with
  | zero => cases h
  | succ n =>
    unfold Cn at h
    rw [hu] at h
    obtain ⟨rows, h1, h2, h3⟩ := h
    refine ⟨n, rows, h1, h2, fun r hr => ?_⟩
    obtain ⟨us, _, g2, g3⟩ := h3 r hr
    refine ⟨us, g2, ?_⟩
    rw [g3]
    cases hd : P.underlying e with
    | none => rfl
    | some d => cases d <;> first | rfl | exact absurd hd (he _)
theorem pack_struct {fs : Array Field} (hu : P.underlying t = some (.struct fs)) : packT P t vs = .agg vs := by unfold packT; rw [hu]
theorem pack_one (hu : ∀ fs, P.underlying t ≠ some (.struct fs)) : packT P t vs = vs.headD .undef := by
  unfold packT
  cases hd : P.underlying t with
  | none => rfl
  | some d => cases d <;> first | rfl | exact absurd hd (hu _)
theorem rows_of {T : Type} {ks : List CK} {g : T → cellsT ks} {ok : T → Prop} {l : List V} (h : ∀ r ∈ l, ∃ y, ok y ∧ r = rowEnc true ks (g y)) : ∃ ys, l = rows ks g ys ∧ ∀ y ∈ ys, ok y := by
  induction l with
  | nil => exact ⟨[], rfl, fun y hy => by cases hy⟩
  | cons r l ih =>
    obtain ⟨ys, h1, h2⟩ := ih (fun r hr => h r (by simp [hr]))
    obtain ⟨y, g1, g2⟩ := h r (by simp)
    exact ⟨y :: ys, by rw [g2, h1]; rfl, fun z hz => (List.mem_cons.1 hz).elim (fun e => e ▸ g1) (fun hz => h2 z hz)⟩
theorem rows1_of {T : Type} {kd : CK} {g : T → kd.T} {ok : T → Prop} {l : List V} (h : ∀ r ∈ l, ∃ y, ok y ∧ r = kd.enc (g y)) : ∃ ys, l = rows1 kd g ys ∧ ∀ y ∈ ys, ok y := by
  induction l with
  | nil => exact ⟨[], rfl, fun y hy => by cases hy⟩
  | cons r l ih =>
    obtain ⟨ys, h1, h2⟩ := ih (fun r hr => h r (by simp [hr]))
    obtain ⟨y, g1, g2⟩ := h r (by simp)
    exact ⟨y :: ys, by rw [g2, h1]; rfl, fun z hz => (List.mem_cons.1 hz).elim (fun e => e ▸ g1) (fun hz => h2 z hz)⟩
theorem list1 {T : Type} {l : List T} (h : l.length = 1) : ∃ a, l = [a] := List.length_eq_one_iff.1 h
theorem list_next {T : Type} {l : List T} {k : Nat} (h : l.length = k + 1) : ∃ a m, l = a :: m ∧ m.length = k := by
  cases l with
  | nil => simp at h
  | cons a m => exact ⟨a, m, rfl, by simpa using h⟩
/-- Nothing outside answers. -/
theorem no_ext {P : Program} {ext : Nat → List V → Option V} (h : ∀ f az, ext f az = none) : Answers P ext := fun f az r hr => by rw [h] at hr; cases hr
end
end Go.Am

/-
  A law: what the machine answers, told in the form of the statements. No theorem about a Go program stands here.
-/
import Derived.Test.YtcajalfelmgeiaaAmOpen
import Derived.ChangeSame
import Derived.Handed
set_option linter.unusedVariables false
set_option linter.unusedSimpArgs false
namespace Go.Am
open Go Go.RowKit Go.ChangeShapes Go.WideShapes
section
variable {P : Program} {w w' : World} {H : Type} {enc : TypeId × Value → H}

def packT (P : Program) (t : Nat) (vs : List V) : V :=
  match P.underlying t with
  | some (.struct _) => .agg vs
  | _ => vs.headD .undef

theorem arg_open {L : List Nat} {fl : Nat → Bool} (hk : kidsOk P L = true) (hf : flOk P L fl = true) {t base : Nat} {v : Value} {d : DataW H} {ps : List MemPlace} (ht : t ∈ L) (hok : Value.okWide P w .any base t v)
    (h : DataW.Trod enc P w 0 (fun _ => true) true t v d ps) : ∃ (n : Nat) (vs : List V), Cn P fl n t vs ∧ Rd w (fun k => k < w.heap.size) (packT P t vs) v := by
  obtain ⟨n, hn⟩ := h
  obtain ⟨vs, h1, h2, h3, h4, h5⟩ := rd_of_trod hk hf n t _ _ ht hn
  refine ⟨n, vs, h3, ?_⟩
  have hkt := List.all_eq_true.1 hk t ht
  unfold packT
  cases hu : P.underlying t with
  | none => rw [hu] at hkt; cases hkt
  | some dd =>
    have one : P.cellsOf t = 1 → v.cells = #[v] → Rd w (fun k => k < w.heap.size) (vs.headD .undef) v := by
      intro e1 e2
      rw [e2] at h5 h1
      cases vs with
      | nil => simp at h1
      | cons x xs => exact h5 0 x v rfl rfl
    rw [hu] at hkt
    unfold Value.okWide at hok
    rw [hu] at hok
    cases dd with
    | struct fs =>
      obtain ⟨cs, rfl, h6, _⟩ := hok
      refine .agg vs cs ?_ (fun i c u h7 h8 => h5 i c u h7 (by simpa [Value.cells] using h8))
      rw [h1]
      simp [Value.cells]
    | bool =>
      simp only [beq_iff_eq] at hkt
      refine one hkt ?_
      cases v <;> first | rfl | simp [Cell.okWide, Cell.ok, hu] at hok
    | int k =>
      simp only [beq_iff_eq] at hkt
      refine one hkt ?_
      cases v <;> first | rfl | simp [Cell.okWide, Cell.ok, hu] at hok
    | string =>
      simp only [beq_iff_eq] at hkt
      refine one hkt ?_
      cases v <;> first | rfl | simp [Cell.okWide, Cell.ok, hu] at hok
    | slice e =>
      simp only [Bool.and_eq_true, beq_iff_eq] at hkt
      refine one hkt.1.1 ?_
      cases v <;> first | rfl | simp [Cell.okWide, Cell.ok, hu] at hok
    | _ => cases hkt

/-- What a law is asked of: data of its parameters' forms. -/
def LawArgs (P : Program) (fl : Nat → Bool) : List Nat → List V → Prop
  | [], [] => True
  | t :: ts, v :: vs => (∃ (n : Nat) (us : List V), Cn P fl n t us ∧ v = packT P t us) ∧ LawArgs P fl ts vs
  | _, _ => False

theorem args_open {L : List Nat} {fl : Nat → Bool} (hk : kidsOk P L = true) (hf : flOk P L fl = true) {base : Nat} : ∀ {ts : List Nat} {vs : List Value} {ds : List (DataW H)} {ps : List MemPlace}, (∀ t ∈ ts, t ∈ L) →
    (∀ (j : Nat) t v, ts[j]? = some t → vs[j]? = some v → Value.okWide P w .any base t v) → DataW.TrodAll enc P w 0 (fun _ => true) true ts vs ds ps →
    ∃ az : List V, LawArgs P fl ts az ∧ az.length = vs.length ∧ ∀ (i : Nat) (c : V) (v : Value), az[i]? = some c → vs[i]? = some v → Rd w (fun k => k < w.heap.size) c v := by
  intro ts
  induction ts with
  | nil =>
    intro vs ds ps _ _ h
    obtain ⟨rfl, rfl, rfl⟩ := trodAll_nil h
    exact ⟨[], trivial, rfl, fun i c v h => by simp at h⟩
  | cons t ts ih =>
    intro vs ds ps hL hok h
    obtain ⟨v, vs1, d, ds1, a, b, rfl, rfl, rfl, h1, h2⟩ := trodAll_cons h
    obtain ⟨n, us, g1, g2⟩ := arg_open hk hf (hL t (by simp)) (hok 0 t v rfl rfl) h1
    obtain ⟨az, k1, k2, k3⟩ := ih (fun t ht => hL t (by simp [ht])) (fun j t v e1 e2 => hok (j + 1) t v (by simpa using e1) (by simpa using e2)) h2
    refine ⟨packT P t us :: az, ⟨⟨n, us, g1, rfl⟩, k1⟩, by simp [k2], fun i c v e1 e2 => ?_⟩
    cases i with
    | zero => simp only [List.getElem?_cons_zero, Option.some.injEq] at e1 e2; subst e1; subst e2; exact g2
    | succ i => exact k3 i c v (by simpa using e1) (by simpa using e2)

theorem trodAll_carry {base : Nat} {spare : Nat → Bool} {held : Bool} : ∀ {ts : List Nat} {vs : List Value} {ds : List (DataW H)} {ps : List MemPlace}, DataW.TrodAll enc P w base spare held ts vs ds ps → (∀ p ∈ ps, w.sameAt w' p) → DataW.TrodAll enc P w' base spare held ts vs ds ps := by
  intro ts
  induction ts with
  | nil =>
    intro vs ds ps h _
    obtain ⟨rfl, rfl, rfl⟩ := trodAll_nil h
    exact rfl
  | cons t ts ih =>
    intro vs ds ps h hs
    obtain ⟨v, vs1, d, ds1, a, b, rfl, rfl, rfl, ⟨n, h1⟩, h2⟩ := trodAll_cons h
    exact ⟨a, b, ⟨n, DataW.trod_carry n _ _ _ h1 (fun p hp => hs p (List.mem_append_left _ hp))⟩, ih h2 (fun p hp => hs p (List.mem_append_right _ hp)), rfl⟩

/-- A law that holds of the machine's answers. -/
theorem law_calls {D : Nat → List V → Option V} (hD : Answers P D) {f : Nat} {fn : Func} {s : ChangeSpec} {L : List Nat} {fl : Nat → Bool} {tb : Nat} (hk : kidsOk P L = true) (hf : flOk P L fl = true) (hp : ∀ t ∈ fn.params.toList, t ∈ L)
    (hr : fn.resultTypes = #[tb]) (htb : P.underlying tb = some .bool) (hv : s.vars = []) (hs : ∀ (ds : List (DataW H)), ds.length = fn.params.size → s.fn H ds = { results := [.lit (.bool true)], args := ds })
    (hlaw : ∀ az, LawArgs P fl fn.params.toList az → D f az = some (.bool true))
    {W : World} {base : Nat} {args : Array Value} {ds gs : List (DataW H)} {before : List MemPlace}
    (hgl : globOk W) (hval : ∀ (j : Nat) t v, fn.params[j]? = some t → args[j]? = some v → Value.okWide P W .any base t v) (hW : DataW.Whole enc P fn.params.toList s.vars false W args.toList ds gs before) :
    Calls P f args W fun e W' => ∃ v, e = .returned v ∧ s.post enc P fn false true false false W args v W' := by
  have hlt := hW.lt
  have hW' := hW
  obtain ⟨p, q, hA, hV, rfl, hz, _⟩ := hW
  rw [hv] at hV
  obtain ⟨rfl, rfl⟩ := trodVars_none hV
  obtain ⟨az, g1, g2, g3⟩ := args_open (base := base) hk hf hp (fun j t v e1 e2 => hval j t v (by simpa using e1) (by simpa using e2)) hA
  obtain ⟨_, hcall⟩ := hD f az _ (hlaw az g1)
  refine (hcall (fun k => k < W.heap.size) W args hgl (fun k hk => hk) (by simpa using g2) (fun i c v e1 e2 => g3 i c v e1 (by simpa using e2))).mono (fun e W' he => ?_)
  cases e with
  | returned x =>
    obtain ⟨h1, h2, h3, h4, h5, Γ, hx, _⟩ := he
    have := hx.bool_inv
    subst this
    have hlen : ds.length = fn.params.size := by
      have : ∀ {ts : List Nat} {vs : List Value} {ds : List (DataW H)} {ps : List MemPlace}, DataW.TrodAll enc P W 0 (fun _ => true) true ts vs ds ps → ds.length = ts.length := by
        intro ts
        induction ts with
        | nil => intro vs ds ps h; obtain ⟨_, rfl, _⟩ := trodAll_nil h; rfl
        | cons t ts ih => intro vs ds ps h; obtain ⟨v, vs1, d, ds1, a, b, rfl, rfl, rfl, _, h2⟩ := trodAll_cons h; simp [ih h2]
      simpa using this hA
    have hfn : s.fn H (ds ++ []) = { results := [.lit (.bool true)], args := ds } := by rw [List.append_nil]; exact hs ds hlen
    have hsame : ∀ p' ∈ p, W.sameAt W' p' := by
      intro p' hp'
      have hl := hlt p' (by simpa using hp')
      cases p' with
      | cell b off => exact cell?_of_heap (h5 b hl) off
      | map b => exact h5 b hl
    refine ⟨_, rfl, ds, [], p ++ [], [], p, [], hW', ?_, ?_, ?_, ⟨h1, h3, fun i hi => ?_⟩, fun h => by cases h⟩
    · rw [hfn, hr]
      refine ⟨[], [], ⟨1, ?_⟩, rfl, rfl⟩
      simp [Value.cells, DataW.trod, htb]
    · rw [hfn]
      refine trodAll_carry (DataW.TrodAll.respare (kids_of hk) (kids_pos hk) hp hA (fun p' hp' => ?_)) hsame
      simpa using hlt p' (by simpa using hp')
    · rw [hfn, hv]
      exact rfl
    · rw [h5 i hi]
      cases hh : W.heap[i]? with
      | none => rfl
      | some o => cases o <;> first | exact ⟨rfl, rfl, rfl, fun _ _ => rfl⟩ | exact .inr ⟨rfl, rfl⟩ | rfl
  | panicked _ => exact he.elim
  | outgrown => exact he.elim
end
end Go.Am

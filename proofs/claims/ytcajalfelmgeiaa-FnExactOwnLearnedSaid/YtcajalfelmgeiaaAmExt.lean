/-
  Functions of Go's library that are met by their contracts: what the machine answers for them, and that this is what they do. No theorem about a Go program of this place stands here.
-/
import Derived.Test.YtcajalfelmgeiaaAmTyped
import Derived.Below
import Derived.Lib.Join
set_option linter.unusedVariables false
set_option linter.unusedSimpArgs false
namespace Go.Am
open Go Go.RowKit
section
variable {P : Program} {c : Cfg}

/-- What stands behind a call that keeps all that was there. -/
def Kept (w w' : World) : Prop := w'.os = w.os ∧ w'.tape = w.tape ∧ w'.output = w.output ∧ w.heap.size ≤ w'.heap.size ∧ ∀ k, k < w.heap.size → w'.heap[k]? = w.heap[k]?
theorem Kept.refl (w : World) : Kept w w := ⟨rfl, rfl, rfl, Nat.le_refl _, fun _ _ => rfl⟩
theorem Kept.below {w w' : World} (h : Below w.heap.size w w') : Kept w w' := ⟨h.os, h.tape, h.output, h.size, h.block⟩
theorem answer_plain {R : Nat → Prop} {w w' : World} {r : V} {x : Value} (hk : Kept w w') (hr : Rd w' (fun _ => False) r x) : Answer R w r x w' :=
  ⟨hk.1, hk.2.1, hk.2.2.1, hk.2.2.2.1, hk.2.2.2.2, { w0 := w', F := fun k => w.heap.size ≤ k, S := fun _ => False, has := fun _ => False, blk := fun _ => 0, off := fun _ => 0, cap := fun _ => 0, sz := fun _ => 0, ln := fun _ => 0, lb := fun _ => False, box := fun _ => 0, R := fun _ => False, Z := fun _ => False },
    .rd _ _ hr, fun _ h => h, fun _ h => h.elim, fun _ h => h.elim, fun _ _ h => h.elim, fun _ h => h.elim, fun _ h => h.elim⟩
/-- A function's answers by a contract. -/
def ExtOk (P : Program) (f : Nat) (e : List V → Option V) : Prop := ∀ args r, e args = some r →
  (∃ fn, P.funcs[f]? = some fn ∧ fn.body.isNone = false ∧ (fn.name == "runtime.NumGoroutine") = false) ∧
  ∀ (R : Nat → Prop) (w : World) (vals : Array Value), globOk w → (∀ k, R k → k < w.heap.size) → args.length = vals.size → (∀ (i : Nat) (c : V) (v : Value), args[i]? = some c → vals[i]? = some v → Rd w R c v) →
    Calls P f vals w fun
      | .returned x, w' => Answer R w r x w'
      | _, _ => False
def extL : List (Nat × (List V → Option V)) → Nat → List V → Option V
  | [], _, _ => none
  | (g, e) :: r, f, args => if f = g then e args else extL r f args
theorem ext_nil : Answers P (extL []) := fun f args r h => by cases h
theorem ext_cons {g : Nat} {e : List V → Option V} {l : List (Nat × (List V → Option V))} (he : ExtOk P g e) (hl : Answers P (extL l)) : Answers P (extL ((g, e) :: l)) := by
  intro f args r h
  rw [extL] at h
  split at h
  · rename_i hfg; subst hfg; exact he args r h
  · exact hl f args r h
/-- A library function's answers, in the looking form. -/
theorem ext_okW {ext : Nat → List V → Option V} {f : Nat} {e : List V → Option V} {sh : List (Bool × List CK)} {G : (β : Type) → argsT sh → (V → Option β) → Option β} (hE : ∀ args, ext f args = e args)
    (h : ∀ β (x : argsT sh) (k : V → Option β) r, G β x k = some r → ∃ v, e (argsEnc sh x) = some v ∧ k v = some r) : FnOk (den P c ext) f (wrap sh G) := by
  intro β args k r hr
  unfold wrap at hr
  split at hr
  · rename_i x hx
    obtain ⟨v, h1, h2⟩ := h β x k r hr
    exact ⟨v, den_ext (by rw [hE, ← args_enc hx]; exact h1), h2⟩
  · cases hr
/-- Arguments, one by one. -/
theorem vals1 {vals : Array Value} {a : V} (h : [a].length = vals.size) : ∃ x, vals = #[x] ∧ vals[0]? = some x := by
  obtain ⟨l⟩ := vals
  cases l with
  | nil => simp at h
  | cons x l => cases l with
    | nil => exact ⟨x, rfl, rfl⟩
    | cons y l => simp at h
theorem vals2 {vals : Array Value} {a b : V} (h : [a, b].length = vals.size) : ∃ x y, vals = #[x, y] ∧ vals[0]? = some x ∧ vals[1]? = some y := by
  obtain ⟨l⟩ := vals
  cases l with
  | nil => simp at h
  | cons x l => cases l with
    | nil => simp at h
    | cons y l => cases l with
      | nil => exact ⟨x, y, rfl, rfl, rfl⟩
      | cons z l => simp at h
theorem rd_str {w : World} {S : Nat → Prop} {s : List UInt8} {x : Value} (h : Rd w S (.str s) x) : ∃ y : ByteArray, x = .string y ∧ y.data.toList = s := by
  cases h with
  | str _ y hy => exact ⟨y, rfl, hy⟩
theorem rd_int {w : World} {S : Nat → Prop} {k : IntKind} {n : Int} {x : Value} (h : Rd w S (.int k n) x) : x = .int k n := by
  cases h; rfl

/-! ### strings.Join -/
def strsOf : List V → Option (List (List UInt8))
  | [] => some []
  | .str s :: vs => (strsOf vs).map (s :: ·)
  | _ :: _ => none
theorem strsOf_inv : ∀ {xs : List V} {l : List (List UInt8)}, strsOf xs = some l → xs = l.map V.str := by
  intro xs
  induction xs with
  | nil => intro l h; simp only [strsOf, Option.some.injEq] at h; subst h; rfl
  | cons x xs ih =>
    intro l h
    cases x with
    | str s =>
      simp only [strsOf] at h
      cases hb : strsOf xs with
      | none => rw [hb] at h; cases h
      | some m =>
        rw [hb] at h
        simp only [Option.map_some, Option.some.injEq] at h
        rw [← h, List.map_cons, ← ih hb]
    | _ => simp only [strsOf] at h; cases h
theorem strsOf_rStr (l : List (List UInt8)) : strsOf (rStr l) = some l := by
  induction l with
  | nil => rfl
  | cons s l ih =>
    show (strsOf (rStr l)).map (s :: ·) = _
    rw [ih]
    rfl
def joinV : List V → Option V
  | [.sl 1 true xs, .str sep] => match strsOf xs with
    | some l => if l.length ≤ 140737488355328 ∧ (Lib.join l sep).length ≤ 140737488355328 then some (.str (Lib.join l sep)) else none
    | none => none
  | _ => none
theorem ext_join {f : Nat} {fn : Func} (hf : P.funcs[f]? = some fn) (hb : fn.body.isNone = false) (hn : (fn.name == "runtime.NumGoroutine") = false)
    (h0 : ∀ (a : Option Addr) (c : Nat) (sep : ByteArray) (w : World), Calls P f #[.slice a 0 c, .string sep] w fun e w' => e = .returned (.string ⟨#[]⟩) ∧ w' = w)
    (h1 : ∀ (bk o c : Nat) (xs : List ByteArray) (sep : ByteArray) (w : World), (∀ (j : Nat) x, xs[j]? = some x → w.cell? ⟨bk, o + j, none⟩ = some (.string x)) → bk < w.heap.size → xs.length ≤ 140737488355328 → xs.length ≤ c →
      (Lib.join (xs.map (·.data.toList)) sep.data.toList).length ≤ 140737488355328 →
      Calls P f #[.slice (some ⟨bk, o, none⟩) xs.length c, .string sep] w fun e w' => e = .returned (.string ⟨(Lib.join (xs.map (·.data.toList)) sep.data.toList).toArray⟩) ∧ Below w.heap.size w w') : ExtOk P f joinV := by
  intro args r h
  refine ⟨⟨fn, hf, hb, hn⟩, fun R w vals hg hR hl hv => ?_⟩
  unfold joinV at h
  split at h
  · rename_i xs sep
    split at h
    · rename_i l hxs
      split at h
      · rename_i hc
        simp only [Option.some.injEq] at h
        subst h
        obtain ⟨x, y, rfl, e0, e1⟩ := vals2 hl
        obtain ⟨sp, rfl, hsp⟩ := rd_str (hv 1 _ _ rfl e1)
        have hx := hv 0 _ _ rfl e0
        have hxl := strsOf_inv hxs
        cases hx with
        | empty _ _ a cap =>
          obtain rfl : l = [] := by cases l with
            | nil => rfl
            | cons s l => cases hxl
          refine (h0 a cap sp w).mono (fun e w' he => ?_)
          obtain ⟨rfl, rfl⟩ := he
          exact answer_plain (Kept.refl _) (.str _ _ (by rw [Lib.join_nil]))
        | sl _ _ _ k o cap g hl2 hcap hS hsz hf2 hg2 hr2 =>
          have hlen : xs.length = l.length := by rw [hxl]; simp
          have hmap : (l.map (fun s => (⟨s.toArray⟩ : ByteArray))).map (·.data.toList) = l := by
            rw [List.map_map]
            conv => rhs; rw [← List.map_id l]
            exact List.map_congr_left (fun s _ => rfl)
          have := h1 k o cap (l.map (fun s => ⟨s.toArray⟩)) sp w (fun j x hj => by
            rw [List.getElem?_map] at hj
            cases hs : l[j]? with
            | none => rw [hs] at hj; cases hj
            | some s =>
              rw [hs] at hj
              simp only [Option.map_some, Option.some.injEq] at hj
              subst hj
              have hjl := (List.getElem?_eq_some_iff.1 hs).1
              have hxj : xs[j]? = some (.str s) := by rw [hxl, List.getElem?_map, hs]; rfl
              have hc1 := (hg2 j 0 (by omega) (by omega)).1
              have hrd := hr2 j _ 0 _ hxj rfl
              obtain ⟨z, hz, hz2⟩ := rd_str hrd
              rw [hz] at hc1
              rw [Nat.mul_one, Nat.add_zero] at hc1
              rw [hc1]
              congr 2
              apply ByteArray.ext
              apply Array.ext'
              rw [hz2]) (hR k hS) (by simpa using hc.1) (by simpa [hlen] using hcap) (by rw [hmap, hsp]; exact hc.2)
          rw [hmap, hsp, List.length_map, ← hlen] at this
          refine this.mono (fun e w' he => ?_)
          obtain ⟨rfl, hw⟩ := he
          exact answer_plain (Kept.below hw) (.str _ _ rfl)
      · cases h
    · cases h
  · cases h
def joinK : (β : Type) → List V → List UInt8 → (List UInt8 → Option β) → Option β := fun β xs sep k =>
  match strsOf xs with
  | some l => chk (l.length ≤ 140737488355328 ∧ (Lib.join l sep).length ≤ 140737488355328) (k (Lib.join l sep))
  | none => none
theorem joinV_of {xs : List V} {sep : List UInt8} {l : List (List UInt8)} (hl : strsOf xs = some l) (h1 : l.length ≤ 140737488355328 ∧ (Lib.join l sep).length ≤ 140737488355328) : joinV [.sl 1 true xs, .str sep] = some (.str (Lib.join l sep)) := by
  simp only [joinV, hl]
  rw [if_pos h1]
theorem ok_join {ext : Nat → List V → Option V} {f : Nat} (hE : ∀ args, ext f args = joinV args) : FnOk (den P c ext) f (wrap [(false, [.sl 1 true]), (false, [.str])] (fun β e k => joinK β e.1.1 e.2.1.1 (fun y => k (.str y)))) := by
  refine ext_okW hE (fun β x k r hr => ?_)
  obtain ⟨⟨xs, _⟩, ⟨sep, _⟩, _⟩ := x
  simp only [joinK] at hr
  split at hr
  · rename_i l hl
    obtain ⟨h1, h2⟩ := chk_some hr
    exact ⟨.str (Lib.join l sep), joinV_of hl h1, h2⟩
  · cases hr
def joinE (l : List (List UInt8)) (sep : List UInt8) : Option (List UInt8) := chk (l.length ≤ 140737488355328 ∧ (Lib.join l sep).length ≤ 140737488355328) (some (Lib.join l sep))
theorem ei_joinE {β : Type} (l : List (List UInt8)) (sep : List UInt8) (k : List UInt8 → Option β) : Imp (joinK β (rStr l) sep k) (joinE l sep) (fun r => k r) := by
  unfold joinK joinE
  rw [strsOf_rStr]
  exact Imp.chk rfl (fun _ => Imp.ret rfl)
end
end Go.Am

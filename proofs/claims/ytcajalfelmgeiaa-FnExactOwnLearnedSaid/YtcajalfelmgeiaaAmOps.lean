/-
  The operations that write nothing: what the abstract machine reckons is what the model's operation gives. No theorem about a Go program stands here.
-/
import Derived.Test.YtcajalfelmgeiaaAmRel
import Derived.Laws.Cells
import Derived.Laws.CopyRow
import Derived.Laws.Entries
import Derived.Laws.StructEq
set_option linter.unusedVariables false
set_option linter.unusedSimpArgs false
namespace Go.Am
open Go Go.RowKit

/-- A value of the machine that stands for one value of the model's, in every world. -/
def Always (v : V) (x : Value) : Prop := ∀ (w : World) (S : Nat → Prop), Rd w S v x

/-- A cell that can be compared. -/
def Scal (c : V) (v : Value) : Prop :=
  match c with
  | .bool b => v = .bool b
  | .int k n => v = .int k n
  | .str s => ∃ y : ByteArray, v = .string y ∧ y.data.toList = s
  | _ => True

structure AgreeT (P : Program) (c : Cfg) (t : Nat) (i : TyInfo) (ti : TypeInfo) : Prop where
  info : P.info? t = some ti
  size : ti.size = i.size
  bytes : ti.bytes = i.bytes
  zero : ∃ z, ti.zero = some z ∧ Always i.zero z ∧ z.cells.toList.length = i.zero.cells.length ∧ (∀ u ∈ z.cells.toList, u.oneCell' = true) ∧ (∀ (j : Nat) (c : V), i.zero.cells[j]? = some c → ∃ u, z.cells[j]? = some u ∧ Always c u)
  zsz : i.zero.cells.length = i.size
  bool : i.d = .bool → P.underlying t = some .bool
  int : ∀ k, i.d = .int k → P.underlying t = some (.int k)
  str : i.d = .str → P.underlying t = some .string
  slice : ∀ e, i.d = .slice e → P.underlying t = some (.slice e)
  struct : ∀ fs, i.d = .struct fs → ∃ fields, P.underlying t = some (.struct fields) ∧ fields.toList.map (fun f => (f.offset, f.type)) = fs ∧ ∀ f ∈ fields.toList, ∃ tj, P.info? f.type = some tj
  array : ∀ n e, i.d = .array n e → P.underlying t = some (.array n e)
  cmp : i.cmp = true → P.eqGuardType P.depth t = false ∧ ∀ (w : World) (xs ys : Array Value) (cs ds : List V) (r : Bool), cs.length = xs.size → ds.length = ys.size → sameKinds i.zero.cells cs = true → sameKinds i.zero.cells ds = true →
    (∀ (j : Nat) (c : V) (v : Value), cs[j]? = some c → xs[j]? = some v → Scal c v) → (∀ (j : Nat) (c : V) (v : Value), ds[j]? = some c → ys[j]? = some v → Scal c v) →
    eqCells cs ds = some r → (Op.equalIn 10000 t (.agg xs) (.agg ys)).run P w = .ok r w
  agg : i.d.isAgg = false → ∃ d, P.underlying t = some d ∧ (∀ fs, d ≠ .struct fs) ∧ (∀ n e, d ≠ .array n e)

def Agree (P : Program) (c : Cfg) : Prop := ∀ t i, c.ty t = some i → ∃ ti, AgreeT P c t i ti

section
variable {P : Program} {c : Cfg} {Γ : Ctx} {st : St} {a : Act} {w : World}

theorem VR.bool_inv {b : Bool} {x : Value} (h : VR Γ w (.bool b) x) : x = .bool b := by
  cases h with
  | rd _ _ h => cases h; rfl
theorem VR.int_inv {k : IntKind} {n : Int} {x : Value} (h : VR Γ w (.int k n) x) : x = .int k n := by
  cases h with
  | rd _ _ h => cases h; rfl
theorem VR.str_inv {s : List UInt8} {x : Value} (h : VR Γ w (.str s) x) : ∃ y : ByteArray, x = .string y ∧ y.data.toList = s := by
  cases h with
  | rd _ _ h => cases h with
    | str _ y h => exact ⟨y, rfl, h⟩
theorem VR.nil_inv {x : Value} (h : VR Γ w .nil x) : x = .slice none 0 0 := by
  cases h with
  | rd _ _ h => cases h; rfl
theorem VR.agg_inv {cs : List V} {x : Value} (h : VR Γ w (.agg cs) x) : ∃ vs : Array Value, x = .agg vs ∧ cs.length = vs.size ∧ ∀ (i : Nat) (c : V) (v : Value), cs[i]? = some c → vs[i]? = some v → VR Γ w c v := by
  cases h with
  | rd _ _ h => cases h with
    | agg _ vs hl hr => exact ⟨vs, rfl, hl, fun i c v h1 h2 => .rd _ _ (hr i c v h1 h2)⟩
  | agg _ vs hl hr => exact ⟨vs, rfl, hl, hr⟩
theorem VR.tup_inv {cs : List V} {x : Value} (h : VR Γ w (.tup cs) x) : ∃ vs : Array Value, x = .tuple vs ∧ cs.length = vs.size ∧ ∀ (i : Nat) (c : V) (v : Value), cs[i]? = some c → vs[i]? = some v → VR Γ w c v := by
  cases h with
  | rd _ _ h => cases h with
    | tup _ vs hl hr => exact ⟨vs, rfl, hl, fun i c v h1 h2 => .rd _ _ (hr i c v h1 h2)⟩
  | tup _ vs hl hr => exact ⟨vs, rfl, hl, hr⟩
theorem VR.clo_inv {f : Nat} {cs : List V} {x : Value} (h : VR Γ w (.clo f cs) x) : ∃ vs : Array Value, x = .func (.func f) #[] vs ∧ cs.length = vs.size ∧ ∀ (i : Nat) (c : V) (v : Value), cs[i]? = some c → vs[i]? = some v → VR Γ w c v := by
  cases h with
  | rd _ _ h => cases h with
    | clo _ _ vs hl hr => exact ⟨vs, rfl, hl, fun i c v h1 h2 => .rd _ _ (hr i c v h1 h2)⟩
  | clo _ _ vs hl hr => exact ⟨vs, rfl, hl, hr⟩
theorem VR.undef_ (x : Value) : VR Γ w .undef x := .rd _ _ (.undef x)
theorem VR.sl_inv {s : Nat} {f : Bool} {xs : List V} {x : Value} (h : VR Γ w (.sl s f xs) x) : Rd w Γ.S (.sl s f xs) x := by
  cases h with
  | rd _ _ h => exact h

theorem VR.ptr_inv {d n : Nat} {x : Value} (h : VR Γ w (.ptr d n) x) : x = .pointer (some ⟨Γ.box d, n, none⟩) ∧ Γ.lb d := by
  cases h with
  | rd _ _ h => cases h
  | ptr _ _ h => exact ⟨rfl, h⟩
theorem VR.iptr_inv {v : V} {n : Nat} {x : Value} (h : VR Γ w (.iptr v n) x) : ∃ (k o : Nat) (g : Nat → Value), x = .pointer (some ⟨k, o + n, none⟩) ∧ Γ.S k ∧
    (∀ j : Nat, j < v.cells.length → w.cell? ⟨k, o + j, none⟩ = some (g j)) ∧ (∀ (j : Nat) (c : V), v.cells[j]? = some c → Rd w Γ.S c (g j)) := by
  cases h with
  | rd _ _ h => cases h with
    | iptr _ k o _ g hS hg hr => exact ⟨k, o, g, rfl, hS, hg, hr⟩
theorem VR.vptr_inv {b : Nat} {v : V} {n : Nat} {x : Value} (h : VR Γ w (.vptr b v n) x) : ∃ (o : Nat) (g : Nat → Value), x = .pointer (some ⟨Γ.blk b, o + n, none⟩) ∧ Γ.has b ∧
    (∀ j : Nat, j < v.cells.length → w.cell? ⟨Γ.blk b, o + j, none⟩ = some (g j)) ∧ (∀ (j : Nat) (c : V), v.cells[j]? = some c → Rd w Γ.S c (g j)) := by
  cases h with
  | rd _ _ h => cases h
  | vptr _ _ o _ g hb hg hr => exact ⟨o, g, rfl, hb, hg, hr⟩
theorem VR.eptr_inv {b s : Nat} {q : Q} {xs : List V} {i n : Nat} {x : Value} (h : VR Γ w (.eptr b s q xs i n) x) : x = .pointer (some ⟨Γ.blk b, Γ.off b + i * s + n, none⟩) ∧
    Γ.has b ∧ s = Γ.sz b ∧ (xs.length ≤ Γ.cap b ∧ xs.length = Γ.ln b) ∧ i < xs.length ∧ Rows w (Γ.Sq q) s xs (Γ.blk b) (Γ.off b) ∧ flatOk q xs := by
  cases h with
  | rd _ _ h => cases h
  | eptr _ _ _ _ _ _ hb hs hl hi hr hq => exact ⟨rfl, hb, hs, hl, hi, hr, hq⟩
theorem VR.own_inv {b s : Nat} {q : Q} {xs : List V} {x : Value} (h : VR Γ w (.own b s q xs) x) : (x = .slice none 0 0 ∧ xs = [] ∧ ¬ Γ.has b) ∨
    (x = .slice (some ⟨Γ.blk b, Γ.off b, none⟩) xs.length (Γ.cap b) ∧ Γ.has b ∧ s = Γ.sz b ∧ (xs.length ≤ Γ.cap b ∧ xs.length = Γ.ln b) ∧ Rows w (Γ.Sq q) s xs (Γ.blk b) (Γ.off b) ∧ flatOk q xs) := by
  cases h with
  | rd _ _ h => cases h
  | ownNil _ _ _ hb => exact .inl ⟨rfl, rfl, hb⟩
  | own _ _ _ _ hb hs hl hr hq => exact .inr ⟨rfl, hb, hs, hl, hr, hq⟩
theorem VR.view_inv {b s : Nat} {q : Q} {xs : List V} {x : Value} (h : VR Γ w (.view b s q xs) x) : (∃ a cap, x = .slice a 0 cap ∧ xs = []) ∨
    (∃ o cap, x = .slice (some ⟨Γ.blk b, o, none⟩) xs.length cap ∧ Γ.has b ∧ 0 < xs.length ∧ xs.length ≤ cap ∧ o + cap * s ≤ Γ.off b + Γ.cap b * Γ.sz b ∧ Rows w (Γ.Sq q) s xs (Γ.blk b) o ∧ flatOk q xs) := by
  cases h with
  | rd _ _ h => cases h
  | view0 _ _ _ a cap => exact .inl ⟨a, cap, rfl, rfl⟩
  | view _ _ _ _ o cap hb hx hl hfit hr hq => exact .inr ⟨o, cap, rfl, hb, hx, hl, hfit, hr, hq⟩

theorem ofVal_rd (v : Value) : VR Γ w (ofVal v) v := by
  cases v with
  | bool b => exact .rd _ _ (.bool b)
  | int k n => exact .rd _ _ (.int k n)
  | string s => exact .rd _ _ (.str _ s rfl)
  | slice o l cp =>
    cases o with
    | some o => exact .undef_ _
    | none =>
      cases l with
      | succ l => exact .undef_ _
      | zero =>
        cases cp with
        | succ cp => exact .undef_ _
        | zero => exact .rd _ _ .nil
  | _ => exact .undef_ _

theorem Sim.ev (hs : Sim Γ st a w) (x : Operand) : VR Γ w (ev st.t x) (a.eval x) := by
  cases x with
  | tmp i =>
    simp only [Am.ev, Act.eval]
    cases h : st.t[i]? with
    | none => simp only [List.getD, h]; exact .undef_ _
    | some v =>
      obtain ⟨y, hy, hv⟩ := hs.tm i v h
      simp only [List.getD, h, Array.getD_eq_getD_getElem?, hy]
      exact hv
  | const v => exact ofVal_rd v
  | global g => exact .undef_ _
  | func f => exact .clo f [] #[] rfl (by simp)

theorem Sim.put (hs : Sim Γ st a w) {d : Nat} {v : V} {x : Value} (hv : VR Γ w v x) : Sim Γ { st with t := st.t.set d v } (a.put (some d) x) w := by
  refine ⟨hs.good, hs.dz, by simp [Act.put, hs.len], fun i u hu => ?_, hs.bx, hs.nds⟩
  simp only [Act.put] at hu ⊢
  rw [List.getElem?_set] at hu
  split at hu
  · rename_i hid
    subst hid
    split at hu
    · rename_i hlt
      injection hu with hu
      subst hu
      exact ⟨x, by rw [Array.getElem?_setIfInBounds]; simp [hs.len, hlt], hv⟩
    · cases hu
  · rename_i hid
    obtain ⟨y, hy, h⟩ := hs.tm i u hu
    exact ⟨y, by rw [Array.getElem?_setIfInBounds]; simp [hid, hy], h⟩

theorem VR.cellLen {v : V} {x : Value} (h : VR Γ w v x) (hd : v.isDef = true) : v.cells.length = x.cells.size := by
  cases h with
  | rd _ _ h => cases h with
    | undef => cases hd
    | agg _ _ hl => exact hl
    | _ => rfl
  | agg _ _ hl => exact hl
  | _ => rfl

/-- A value's cells stand for the cells of what it stands for. -/
theorem VR.cells {v : V} {x : Value} (h : VR Γ w v x) (hu : v.cells.length = x.cells.size) : ∀ (j : Nat) (c : V), v.cells[j]? = some c → ∃ y, x.cells[j]? = some y ∧ VR Γ w c y := by
  intro j c hc
  cases v with
  | agg cs =>
    obtain ⟨vs, rfl, hl, hr⟩ := h.agg_inv
    simp only [V.cells] at hc
    have hj : j < cs.length := (List.getElem?_eq_some_iff.1 hc).1
    refine ⟨vs[j]'(by omega), by simp [Value.cells, Array.getElem?_eq_getElem (show j < vs.size by omega)], hr j c _ hc (Array.getElem?_eq_getElem (by omega))⟩
  | undef =>
    obtain rfl : j = 0 := by
      cases j with
      | zero => rfl
      | succ j => simp [V.cells] at hc
    simp only [V.cells, List.getElem?_cons_zero, Option.some.injEq] at hc
    subst hc
    exact ⟨x.cells[0]'(by rw [← hu]; simp [V.cells]), Array.getElem?_eq_getElem _, .undef_ _⟩
  | _ =>
    obtain rfl : j = 0 := by
      cases j with
      | zero => rfl
      | succ j => simp [V.cells] at hc
    simp only [V.cells, List.getElem?_cons_zero, Option.some.injEq] at hc
    subst hc
    have hx : x.cells = #[x] := by
      cases h with
      | rd _ _ h => cases h <;> rfl
      | _ => rfl
    exact ⟨x, by rw [hx]; rfl, h⟩
end
end Go.Am

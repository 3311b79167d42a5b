/-
  What a value of the abstract machine says of a value of the model's in a world; what is kept from world to world. No theorem about a Go program stands here.
-/
import Derived.Test.YtcajalfelmgeiaaAmDen
import Derived.Test.YtcajalfelmgeiaaAmGlob
set_option linter.unusedVariables false
set_option linter.unusedSimpArgs false
namespace Go.Am
open Go Go.RowKit

/-- A cell that leads nowhere. -/
def noSl : V → Prop
  | .bool _ => True
  | .int _ _ => True
  | .str _ => True
  | .nil => True
  | _ => False

/-- Plain data, read in the blocks of S. -/
inductive Rd (w : World) (S : Nat → Prop) : V → Value → Prop
  | undef (x : Value) : Rd w S .undef x
  | bool (b : Bool) : Rd w S (.bool b) (.bool b)
  | int (k : IntKind) (n : Int) : Rd w S (.int k n) (.int k n)
  | str (s : List UInt8) (x : ByteArray) (h : x.data.toList = s) : Rd w S (.str s) (.string x)
  | nil : Rd w S .nil (.slice none 0 0)
  | empty (s : Nat) (f : Bool) (a : Option Addr) (cap : Nat) : Rd w S (.sl s f []) (.slice a 0 cap)
  | sl (s : Nat) (f : Bool) (xs : List V) (k o cap : Nat) (g : Nat → Nat → Value) (hl : 0 < xs.length) (hcap : xs.length ≤ cap) (hS : S k)
      (hsz : ∀ x ∈ xs, x.cells.length = s) (hf : f = true → ∀ x ∈ xs, ∀ c ∈ x.cells, noSl c)
      (hg : ∀ i j : Nat, i < xs.length → j < s → w.cell? ⟨k, o + i * s + j, none⟩ = some (g i j) ∧ (g i j).oneCell' = true)
      (hr : ∀ (i : Nat) (x : V) (j : Nat) (c : V), xs[i]? = some x → x.cells[j]? = some c → Rd w S c (g i j)) : Rd w S (.sl s f xs) (.slice (some ⟨k, o, none⟩) xs.length cap)
  | iptr (x : V) (k o n : Nat) (g : Nat → Value) (hS : S k) (hg : ∀ j : Nat, j < x.cells.length → w.cell? ⟨k, o + j, none⟩ = some (g j))
      (hr : ∀ (j : Nat) (c : V), x.cells[j]? = some c → Rd w S c (g j)) : Rd w S (.iptr x n) (.pointer (some ⟨k, o + n, none⟩))
  | agg (cs : List V) (vs : Array Value) (hl : cs.length = vs.size) (hr : ∀ (i : Nat) (c : V) (v : Value), cs[i]? = some c → vs[i]? = some v → Rd w S c v) : Rd w S (.agg cs) (.agg vs)
  | tup (cs : List V) (vs : Array Value) (hl : cs.length = vs.size) (hr : ∀ (i : Nat) (c : V) (v : Value), cs[i]? = some c → vs[i]? = some v → Rd w S c v) : Rd w S (.tup cs) (.tuple vs)
  | clo (f : Nat) (cs : List V) (vs : Array Value) (hl : cs.length = vs.size) (hr : ∀ (i : Nat) (c : V) (v : Value), cs[i]? = some c → vs[i]? = some v → Rd w S c v) : Rd w S (.clo f cs) (.func (.func f) #[] vs)

theorem Rd.mono {w w' : World} {S S' : Nat → Prop} (hS : ∀ k, S k → S' k) (hc : ∀ k, S k → ∀ o, w'.cell? ⟨k, o, none⟩ = w.cell? ⟨k, o, none⟩) {v : V} {x : Value} (h : Rd w S v x) : Rd w' S' v x := by
  induction h with
  | undef x => exact .undef x
  | bool b => exact .bool b
  | int k n => exact .int k n
  | str s x h => exact .str s x h
  | nil => exact .nil
  | empty s f a cap => exact .empty s f a cap
  | sl s f xs k o cap g hl hcap hk hsz hf hg hr ih => exact .sl s f xs k o cap g hl hcap (hS k hk) hsz hf (fun i j hi hj => ⟨(hc k hk _).trans (hg i j hi hj).1, (hg i j hi hj).2⟩) ih
  | iptr x k o n g hk hg hr ih => exact .iptr x k o n g (hS k hk) (fun j hj => (hc k hk _).trans (hg j hj)) ih
  | agg cs vs hl hr ih => exact .agg cs vs hl ih
  | tup cs vs hl hr ih => exact .tup cs vs hl ih
  | clo f cs vs hl hr ih => exact .clo f cs vs hl ih

/-- Rows in memory: each of s cells, from cell o of block k on. -/
def Rows (w : World) (S : Nat → Prop) (s : Nat) (xs : List V) (k o : Nat) : Prop :=
  (∀ x ∈ xs, x.cells.length = s) ∧ ∃ g : Nat → Nat → Value, (∀ i j : Nat, i < xs.length → j < s → w.cell? ⟨k, o + i * s + j, none⟩ = some (g i j) ∧ (g i j).oneCell' = true) ∧
    ∀ (i : Nat) (x : V) (j : Nat) (c : V), xs[i]? = some x → x.cells[j]? = some c → Rd w S c (g i j)
theorem Rows.mono {w w' : World} {S S' : Nat → Prop} (hS : ∀ k, S k → S' k) (hc : ∀ k, S k → ∀ o, w'.cell? ⟨k, o, none⟩ = w.cell? ⟨k, o, none⟩) {s : Nat} {xs : List V} {k o : Nat}
    (hk : ∀ j, o ≤ j → j < o + xs.length * s → w'.cell? ⟨k, j, none⟩ = w.cell? ⟨k, j, none⟩) (h : Rows w S s xs k o) : Rows w' S' s xs k o := by
  obtain ⟨h1, g, h2, h3⟩ := h
  refine ⟨h1, g, fun i j hi hj => ⟨?_, (h2 i j hi hj).2⟩, fun i x j c hx hcj => (h3 i x j c hx hcj).mono hS hc⟩
  rw [hk _ (by omega) ?_]
  · exact (h2 i j hi hj).1
  · have : i * s + s ≤ xs.length * s := by
      have := Nat.mul_le_mul_right s (show i + 1 ≤ xs.length from hi)
      rw [Nat.add_mul, Nat.one_mul] at this
      exact this
    omega

/-- What lies in the rows, by the kind that is told. -/
def flatOk (q : Q) (xs : List V) : Prop := q = .flat → ∀ x ∈ xs, ∀ c ∈ x.cells, noSl c

/-- The call's own memory: what it may write (F), what no one writes (S), where each base and each box lies, what it was given to read (R); what of the new memory nobody froze (Z). -/
structure Ctx where
  w0 : World
  F : Nat → Prop
  S : Nat → Prop
  has : Nat → Prop
  blk : Nat → Nat
  off : Nat → Nat
  cap : Nat → Nat
  sz : Nat → Nat
  ln : Nat → Nat
  lb : Nat → Prop
  box : Nat → Nat
  R : Nat → Prop
  Z : Nat → Prop

/-- The blocks that rows of this kind may lead to. -/
def Ctx.Sq (Γ : Ctx) : Q → Nat → Prop
  | .any => Γ.S
  | _ => fun k => Γ.S k ∧ Γ.Z k

inductive VR (Γ : Ctx) (w : World) : V → Value → Prop
  | rd (v : V) (x : Value) (h : Rd w Γ.S v x) : VR Γ w v x
  | ownNil (b s : Nat) (q : Q) (hb : Γ.has b → False) : VR Γ w (.own b s q []) (.slice none 0 0)
  | own (b s : Nat) (q : Q) (xs : List V) (hb : Γ.has b) (hs : s = Γ.sz b) (hl : xs.length ≤ Γ.cap b ∧ xs.length = Γ.ln b) (hr : Rows w (Γ.Sq q) s xs (Γ.blk b) (Γ.off b)) (hq : flatOk q xs) :
      VR Γ w (.own b s q xs) (.slice (some ⟨Γ.blk b, Γ.off b, none⟩) xs.length (Γ.cap b))
  | view0 (b s : Nat) (q : Q) (a : Option Addr) (cap : Nat) : VR Γ w (.view b s q []) (.slice a 0 cap)
  | view (b s : Nat) (q : Q) (xs : List V) (o cap : Nat) (hb : Γ.has b) (hx : 0 < xs.length) (hl : xs.length ≤ cap) (hfit : o + cap * s ≤ Γ.off b + Γ.cap b * Γ.sz b) (hr : Rows w (Γ.Sq q) s xs (Γ.blk b) o) (hq : flatOk q xs) :
      VR Γ w (.view b s q xs) (.slice (some ⟨Γ.blk b, o, none⟩) xs.length cap)
  | ptr (d n : Nat) (hd : Γ.lb d) : VR Γ w (.ptr d n) (.pointer (some ⟨Γ.box d, n, none⟩))
  | eptr (b s : Nat) (q : Q) (xs : List V) (i n : Nat) (hb : Γ.has b) (hs : s = Γ.sz b) (hl : xs.length ≤ Γ.cap b ∧ xs.length = Γ.ln b) (hi : i < xs.length) (hr : Rows w (Γ.Sq q) s xs (Γ.blk b) (Γ.off b)) (hq : flatOk q xs) :
      VR Γ w (.eptr b s q xs i n) (.pointer (some ⟨Γ.blk b, Γ.off b + i * s + n, none⟩))
  | vptr (b : Nat) (x : V) (o n : Nat) (g : Nat → Value) (hb : Γ.has b) (hg : ∀ j : Nat, j < x.cells.length → w.cell? ⟨Γ.blk b, o + j, none⟩ = some (g j)) (hr : ∀ (j : Nat) (c : V), x.cells[j]? = some c → Rd w Γ.S c (g j)) :
      VR Γ w (.vptr b x n) (.pointer (some ⟨Γ.blk b, o + n, none⟩))
  | agg (cs : List V) (vs : Array Value) (hl : cs.length = vs.size) (hr : ∀ (i : Nat) (c : V) (v : Value), cs[i]? = some c → vs[i]? = some v → VR Γ w c v) : VR Γ w (.agg cs) (.agg vs)
  | tup (cs : List V) (vs : Array Value) (hl : cs.length = vs.size) (hr : ∀ (i : Nat) (c : V) (v : Value), cs[i]? = some c → vs[i]? = some v → VR Γ w c v) : VR Γ w (.tup cs) (.tuple vs)
  | clo (f : Nat) (cs : List V) (vs : Array Value) (hl : cs.length = vs.size) (hr : ∀ (i : Nat) (c : V) (v : Value), cs[i]? = some c → vs[i]? = some v → VR Γ w c v) : VR Γ w (.clo f cs) (.func (.func f) #[] vs)

theorem anyBs_mem {p : Nat → Bool} : ∀ {cs : List V}, V.anyBs p cs = false → ∀ c ∈ cs, c.anyB p = false := by
  intro cs
  induction cs with
  | nil => intro _ c hc; cases hc
  | cons v vs ih =>
    intro h c hc
    rw [V.anyBs, Bool.or_eq_false_iff] at h
    rcases List.mem_cons.1 hc with rfl | hc
    · exact h.1
    · exact ih h.2 c hc
theorem anyPs_mem {p : Nat → Bool} : ∀ {cs : List V}, V.anyPs p cs = false → ∀ c ∈ cs, c.anyP p = false := by
  intro cs
  induction cs with
  | nil => intro _ c hc; cases hc
  | cons v vs ih =>
    intro h c hc
    rw [V.anyPs, Bool.or_eq_false_iff] at h
    rcases List.mem_cons.1 hc with rfl | hc
    · exact h.1
    · exact ih h.2 c hc
theorem mem_of_get {α : Type} {l : List α} {i : Nat} {a : α} (h : l[i]? = some a) : a ∈ l := List.mem_of_getElem? h

/-- A reading is kept where what it reads is kept: S's blocks, the blocks of the bases that it names, the places of its boxes. -/
theorem VR.mono {Γ Γ' : Ctx} {w w' : World} {p r : Nat → Bool} (hS : ∀ k, Γ.S k → Γ'.S k) (hF : ∀ k, Γ.Z k → Γ'.Z k) (hc : ∀ k, Γ.S k → ∀ o, w'.cell? ⟨k, o, none⟩ = w.cell? ⟨k, o, none⟩)
    (hb : ∀ b, p b = false → (Γ'.has b ↔ Γ.has b) ∧ (Γ.has b → Γ'.blk b = Γ.blk b ∧ Γ'.off b = Γ.off b ∧ Γ'.cap b = Γ.cap b ∧ Γ'.sz b = Γ.sz b ∧ Γ'.ln b = Γ.ln b ∧ ∀ o, w'.cell? ⟨Γ.blk b, o, none⟩ = w.cell? ⟨Γ.blk b, o, none⟩))
    (hd : ∀ d, r d = false → (Γ.lb d → Γ'.lb d) ∧ Γ'.box d = Γ.box d) {v : V} {x : Value} (h : VR Γ w v x) (hp : v.anyB p = false) (hr : v.anyP r = false) : VR Γ' w' v x := by
  have hSq : ∀ q k, Γ.Sq q k → Γ'.Sq q k := by
    intro q k hk
    cases q with
    | any => exact hS k hk
    | flat => exact ⟨hS k hk.1, hF k hk.2⟩
    | clean => exact ⟨hS k hk.1, hF k hk.2⟩
  have hSc : ∀ q k, Γ.Sq q k → ∀ o, w'.cell? ⟨k, o, none⟩ = w.cell? ⟨k, o, none⟩ := by
    intro q k hk
    cases q with
    | any => exact hc k hk
    | flat => exact hc k hk.1
    | clean => exact hc k hk.1
  induction h with
  | rd v x h => exact .rd _ _ (h.mono hS hc)
  | ownNil b s q h => exact .ownNil b s q (fun h' => h ((hb b hp).1.1 h'))
  | own b s q xs h hs hl hrow hq =>
    obtain ⟨e0, e⟩ := hb b hp
    obtain ⟨e1, e2, e3, e4, e6, e5⟩ := e h
    have := VR.own (Γ := Γ') (w := w') b s q xs (e0.2 h) (by rw [e4]; exact hs) (by rw [e3, e6]; exact hl) (by rw [e1, e2]; exact hrow.mono (hSq q) (hSc q) (fun j _ _ => e5 j)) hq
    rwa [e1, e2, e3] at this
  | view0 b s q a cap => exact .view0 b s q a cap
  | view b s q xs o cap h hx hl hfit hrow hq =>
    obtain ⟨e0, e⟩ := hb b hp
    obtain ⟨e1, e2, e3, e4, e6, e5⟩ := e h
    have := VR.view (Γ := Γ') (w := w') b s q xs o cap (e0.2 h) hx hl (by rw [e2, e3, e4]; exact hfit) (by rw [e1]; exact hrow.mono (hSq q) (hSc q) (fun j _ _ => e5 j)) hq
    rwa [e1] at this
  | ptr d n h =>
    obtain ⟨e1, e2⟩ := hd d hr
    have := VR.ptr (Γ := Γ') (w := w') d n (e1 h)
    rwa [e2] at this
  | eptr b s q xs i n h hs hl hi hrow hq =>
    obtain ⟨e0, e⟩ := hb b hp
    obtain ⟨e1, e2, e3, e4, e6, e5⟩ := e h
    have := VR.eptr (Γ := Γ') (w := w') b s q xs i n (e0.2 h) (by rw [e4]; exact hs) (by rw [e3, e6]; exact hl) hi (by rw [e1, e2]; exact hrow.mono (hSq q) (hSc q) (fun j _ _ => e5 j)) hq
    rwa [e1, e2] at this
  | vptr b x o n g h hg hrow =>
    obtain ⟨e0, e⟩ := hb b hp
    obtain ⟨e1, e2, e3, e4, e6, e5⟩ := e h
    have := VR.vptr (Γ := Γ') (w := w') b x o n g (e0.2 h) (by rw [e1]; exact fun j hj => (e5 _).trans (hg j hj)) (fun j c hcj => (hrow j c hcj).mono hS hc)
    rwa [e1] at this
  | agg cs vs hl _ ih => exact .agg cs vs hl (fun i c v h1 h2 => ih i c v h1 h2 (anyBs_mem hp c (mem_of_get h1)) (anyPs_mem hr c (mem_of_get h1)))
  | tup cs vs hl _ ih => exact .tup cs vs hl (fun i c v h1 h2 => ih i c v h1 h2 (anyBs_mem hp c (mem_of_get h1)) (anyPs_mem hr c (mem_of_get h1)))
  | clo f cs vs hl _ ih => exact .clo f cs vs hl (fun i c v h1 h2 => ih i c v h1 h2 (anyBs_mem hp c (mem_of_get h1)) (anyPs_mem hr c (mem_of_get h1)))

/-- What is told of the first blocks of every world (the package's variables). -/
def globOk (w : World) : Prop := globAt w ∧ globN ≤ w.heap.size

/-- The call's memory in a world. -/
structure Good (Γ : Ctx) (w : World) : Prop where
  os : w.os = Γ.w0.os
  tape : w.tape = Γ.w0.tape
  output : w.output = Γ.w0.output
  size : Γ.w0.heap.size ≤ w.heap.size
  old : ∀ k, k < Γ.w0.heap.size → ¬ Γ.F k → w.heap[k]? = Γ.w0.heap[k]?
  new : ∀ k, Γ.w0.heap.size ≤ k → Γ.F k
  slt : ∀ k, Γ.S k → k < w.heap.size
  base : ∀ b, Γ.has b → Γ.F (Γ.blk b) ∧ Γ.blk b < w.heap.size ∧ Γ.cap b ≤ maxLen ∧ ∃ cur e, w.heap[Γ.blk b]? = some (.cells cur e (0, 0)) ∧ Γ.off b + Γ.cap b * Γ.sz b ≤ cur.size
  baseInj : ∀ b b', Γ.has b → Γ.has b' → Γ.blk b = Γ.blk b' → b = b'
  box : ∀ d, Γ.lb d → Γ.F (Γ.box d) ∧ ¬ Γ.S (Γ.box d) ∧ Γ.box d < w.heap.size
  boxInj : ∀ d d', Γ.lb d → Γ.lb d' → Γ.box d = Γ.box d' → d = d'
  baseBox : ∀ b d, Γ.has b → Γ.lb d → Γ.blk b ≠ Γ.box d
  sr : ∀ k, Γ.S k → Γ.R k ∨ Γ.F k
  gl : globOk Γ.w0 ∧ ∀ k, Γ.F k → globN ≤ k
  bz : ∀ b, Γ.has b → Γ.Z (Γ.blk b)
  zf : ∀ k, Γ.Z k → Γ.F k ∧ k < w.heap.size ∧ ∃ cur e, w.heap[k]? = some (.cells cur e (0, 0))

structure Sim (Γ : Ctx) (st : St) (a : Act) (w : World) : Prop where
  good : Good Γ w
  dz : a.defers = []
  len : a.tmps.size = st.t.length
  tm : ∀ (i : Nat) (v : V), st.t[i]? = some v → ∃ x, a.tmps[i]? = some x ∧ VR Γ w v x
  bx : ∀ (d : Nat) (v : V), st.h[d]? = some (some v) → Γ.lb d ∧ ∃ cur e, w.heap[Γ.box d]? = some (.cells cur e (0, 0)) ∧ v.cells.length = cur.size ∧ ∀ (j : Nat) (c : V), v.cells[j]? = some c → ∃ x, cur[j]? = some x ∧ VR Γ w c x
  nds : ∀ b, Γ.has b → st.dead b = false → ¬ Γ.S (Γ.blk b)

/-- The same call's memory, further on. -/
def Same (Γ Γ' : Ctx) : Prop := Γ'.w0 = Γ.w0 ∧ Γ'.F = Γ.F ∧ Γ'.R = Γ.R
def Sims (Γ : Ctx) (st : St) (a : Act) (w : World) : Prop := ∃ Γ', Same Γ Γ' ∧ Sim Γ' st a w
theorem Same.rfl' {Γ : Ctx} : Same Γ Γ := ⟨rfl, rfl, rfl⟩
theorem Same.trans {Γ Γ' Γ'' : Ctx} (h : Same Γ Γ') (h' : Same Γ' Γ'') : Same Γ Γ'' := ⟨h'.1.trans h.1, h'.2.1.trans h.2.1, h'.2.2.trans h.2.2⟩
theorem Sims.of {Γ Γ' : Ctx} {st : St} {a : Act} {w : World} (h : Same Γ Γ') (h' : Sims Γ' st a w) : Sims Γ st a w := (let ⟨Γ'', h1, h2⟩ := h'; ⟨Γ'', h.trans h1, h2⟩)

theorem Good.old_of {Γ : Ctx} {w : World} (g : Good Γ w) (k : Nat) (h : ¬ Γ.F k) : k < Γ.w0.heap.size := by
  rcases Nat.lt_or_ge k Γ.w0.heap.size with h1 | h1
  · exact h1
  · exact absurd (g.new k h1) h

theorem Good.glob {Γ : Ctx} {w : World} (g : Good Γ w) : globOk w :=
  ⟨globStable _ _ g.gl.1.1 (fun k hk => g.old k (Nat.lt_of_lt_of_le hk g.gl.1.2) (fun h => absurd (g.gl.2 k h) (Nat.not_le.2 hk))), Nat.le_trans g.gl.1.2 g.size⟩
theorem cell?_of_heap {w w' : World} {k : Nat} (h : w'.heap[k]? = w.heap[k]?) (o : Nat) : w'.cell? ⟨k, o, none⟩ = w.cell? ⟨k, o, none⟩ := by simp [World.cell?, h]
end Go.Am

/-
  Proved: Rows.FnExactSameCachesSaid: laws.FnExactSameCaches returns true for all arguments, and leaves what it was handed as it was.
-/
import Derived.Test.YtnbeddgenlinpaaRows
import Derived.Test.YtnbeddgenlinpaaMa
import Derived.Test.YtnbeddgenlinpaaAmData
import Derived.WalkKit
import Derived.ProofKit
namespace Go.Proofs.Ytnbeddgenlinpaa.sameCaches
open Go Go.Am Go.ChangeShapes Go.WideShapes Go.ChangeAt Go.RowKit
theorem own : ownKnob Try.prog.godebug = none := by kernel_rfl
def fl : Nat → Bool := fun t => t != 24 && t != 22
def L : List Nat := [24, 22, 135, 132, 133, 3, 4, 9]
theorem kids : kidsOk Try.prog L = true := by kernel_rfl
theorem flat : flOk Try.prog L fl = true := by kernel_rfl
theorem entry_open {n : Nat} {us : List V} (h : Cn Try.prog fl n 135 us) : ∃ e : Entry, e.ok ∧ us = cellsEnc kE e.row := by
  obtain ⟨m, hl, hf⟩ := cn_struct h Try.underlying135
  have hc : Try.prog.cellsOf 135 = 10 := by kernel_rfl
  rw [hc] at hl
  obtain ⟨u0, l0, rfl, hl0⟩ := list_next hl
  obtain ⟨u1, l1, rfl, hl1⟩ := list_next hl0
  obtain ⟨u2, l2, rfl, hl2⟩ := list_next hl1
  obtain ⟨u3, l3, rfl, hl3⟩ := list_next hl2
  obtain ⟨u4, l4, rfl, hl4⟩ := list_next hl3
  obtain ⟨u5, l5, rfl, hl5⟩ := list_next hl4
  obtain ⟨u6, l6, rfl, hl6⟩ := list_next hl5
  obtain ⟨u7, l7, rfl, hl7⟩ := list_next hl6
  obtain ⟨u8, l8, rfl, hl8⟩ := list_next hl7
  obtain ⟨u9, l9, rfl, hl9⟩ := list_next hl8
  obtain rfl := List.length_eq_zero_iff.1 hl9
  obtain ⟨g0, g1, g2, g3, _⟩ := hf
  have c9 : Try.prog.cellsOf 9 = 1 := by kernel_rfl
  have c3 : Try.prog.cellsOf 3 = 1 := by kernel_rfl
  have c4 : Try.prog.cellsOf 4 = 1 := by kernel_rfl
  have c132 : Try.prog.cellsOf 132 = 2 := by kernel_rfl
  have c133 : Try.prog.cellsOf 133 = 6 := by kernel_rfl
  rw [c9] at g0
  rw [c132] at g1
  rw [c133] at g2
  rw [c3] at g3
  obtain ⟨s0, e0, b0⟩ := cn_str g0 Try.underlying9
  obtain ⟨_, _, g10, g11, _⟩ := cn_struct g1 Try.underlying132
  rw [c9] at g10 g11
  obtain ⟨s1, e1, b1⟩ := cn_str g10 Try.underlying9
  obtain ⟨s2, e2, b2⟩ := cn_str g11 Try.underlying9
  obtain ⟨_, _, g20, g21, g22, g23, g24, g25, _⟩ := cn_struct g2 Try.underlying133
  rw [c3] at g20 g21 g23
  rw [c9] at g22 g25
  rw [c4] at g24
  obtain ⟨i3, e3, _⟩ := cn_int g20 Try.underlying3
  obtain ⟨i4, e4, _⟩ := cn_int g21 Try.underlying3
  obtain ⟨s5, e5, b5⟩ := cn_str g22 Try.underlying9
  obtain ⟨i6, e6, _⟩ := cn_int g23 Try.underlying3
  obtain ⟨b7, e7⟩ := cn_bool g24 Try.underlying4
  obtain ⟨s8, e8, b8⟩ := cn_str g25 Try.underlying9
  obtain ⟨i9, e9, _⟩ := cn_int g3 Try.underlying3
  obtain rfl := (List.cons.inj e0).1
  obtain rfl := (List.cons.inj e1).1
  obtain rfl := (List.cons.inj e2).1
  obtain rfl := (List.cons.inj e3).1
  obtain rfl := (List.cons.inj e4).1
  obtain rfl := (List.cons.inj e5).1
  obtain rfl := (List.cons.inj e6).1
  obtain rfl := (List.cons.inj e7).1
  obtain rfl := (List.cons.inj e8).1
  obtain rfl := (List.cons.inj e9).1
  exact ⟨⟨s0, s1, s2, i3, i4, s5, i6, b7, s8, i9⟩, ⟨b0, b1, b2, b5, b8⟩, rfl⟩
theorem cache_open {n : Nat} {us : List V} (h : Cn Try.prog fl n 24 us) : ∃ a : List Entry, okL a ∧ packT Try.prog 24 us = .agg [.sl 10 true (rows kE Entry.row a)] := by
  obtain ⟨m, hl, hf⟩ := cn_struct h Try.underlying24
  have hc : Try.prog.cellsOf 24 = 1 := by kernel_rfl
  have hc22 : Try.prog.cellsOf 22 = 1 := by kernel_rfl
  have hc135 : Try.prog.cellsOf 135 = 10 := by kernel_rfl
  rw [hc] at hl
  obtain ⟨u, rfl⟩ := list1 hl
  obtain ⟨g, _⟩ := hf
  rw [hc22] at g
  obtain ⟨m', l, e, hlen, hrows⟩ := cn_rows g Try.underlying22 Try.underlying135
  obtain ⟨ys, rfl, hys⟩ := rows_of (ks := kE) (g := Entry.row) (ok := Entry.ok) (fun r hr => by
    obtain ⟨us, h1, h2⟩ := hrows r hr
    obtain ⟨e, h3, h4⟩ := entry_open h1
    exact ⟨e, h3, by rw [h2, h4]; rfl⟩)
  obtain rfl := (List.cons.inj e).1
  refine ⟨ys, ⟨by simpa using hlen, hys⟩, ?_⟩
  rw [pack_struct Try.underlying24, hc135]
  rfl
theorem answers : Answers Try.prog D := sound_den agree (fun den hD => drawOk agree (by kernel_rfl) hD) (no_ext fun _ _ => rfl)
theorem told : ∀ vs, LawArgs Try.prog fl Try.f3.params.toList vs → D 3 vs = some (.bool true) := by
  intro vs h
  rw [Try.params3] at h
  have h0 : LawArgs Try.prog fl [24, 24] vs := h
  clear h
  cases vs with
  | nil => exact h0.elim
  | cons v vs =>
  cases vs with
  | nil => exact h0.2.elim
  | cons w vs =>
  cases vs with
  | cons x vs => exact h0.2.2.elim
  | nil =>
    obtain ⟨n, us, h1, hv⟩ := h0.1
    obtain ⟨m, ws, h2, hw⟩ := h0.2.1
    obtain ⟨a, ha, ea⟩ := cache_open h1
    obtain ⟨b, hb, eb⟩ := cache_open h2
    rw [ea] at hv
    rw [eb] at hw
    subst hv
    subst hw
    obtain ⟨r, h3, h4⟩ := ok3 V [.agg [.sl 10 true (rows kE Entry.row a)], .agg [.sl 10 true (rows kE Entry.row b)]] some (.bool true) (by
      show wrap s3 (G3 F3) V (argsEnc s3 ((rows kE Entry.row a, ()), (rows kE Entry.row b, ()), ())) some = _
      unfold wrap
      rw [show argsDec s3 (argsEnc s3 ((rows kE Entry.row a, ()), (rows kE Entry.row b, ()), ())) = some ((rows kE Entry.row a, ()), (rows kE Entry.row b, ()), ()) from rfl]
      exact law a b ha hb _)
    rw [h3, h4]

set_option maxRecDepth 100000 in
theorem lifted (os : Os) (started : os.Started) (H : Type) (enc : TypeId × Value → H) :
    ReturnsInHanded {} Try.checked os 3 .any (Rows.fnExactSameCachesSpec.pre6 enc Try.prog Try.f3 Rows.fnExactSameCachesRow.domain false) (Rows.fnExactSameCachesSpec.post enc Try.prog Try.f3 false true false false) := by
  refine returnsInHanded_of_change (C := Try.checked) own started (by kernel_rfl) Try.func3
    (ChangeSpec.witness6 (enc := enc) (C := Try.checked) false ⟨#[], #[.agg #[.slice none 0 0], .agg #[.slice none 0 0]], []⟩ 8 (by kernel_rfl) (by kernel_rfl) (by kernel_rfl) (by kernel_rfl)) ?_
  intro W base args ds gs before hval0 hW hcnd _
  refine law_calls (s := Rows.fnExactSameCachesSpec) (tb := 4) answers kids flat (by rw [Try.params3]; decide) rfl Try.underlying4 rfl ?_ told hval0 hW
  intro ds hds
  match ds, hds with
  | [d1, d2], _ => rfl

theorem over : Rows.fnExactSameCachesRow.holds Try.pinned (OpenSpec.ofChange Rows.fnExactSameCachesSpec) :=
  OpenClaim.holds_of_wide 3 Try.f3 rfl rfl rfl rfl rfl rfl rfl ⟨rfl, rfl, rfl, rfl, rfl⟩ rfl rfl rfl rfl rfl (by kernel_rfl) Try.func3 (by kernel_rfl)
    (of_decide_eq_true (by kernel_rfl)) (by unfold Func.isWrapper; first | (rw [if_pos (by decide +kernel)]; kernel_rfl) | (rw [if_neg (by decide +kernel)]; exact ⟨rfl, rfl⟩))
    (fun os started H enc _ => lifted os started H enc)

theorem proved : Rows.FnExactSameCachesSaid :=
  over
#print axioms proved
end Go.Proofs.Ytnbeddgenlinpaa.sameCaches

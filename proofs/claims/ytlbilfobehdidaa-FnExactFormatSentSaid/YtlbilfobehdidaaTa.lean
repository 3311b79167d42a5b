/-
  The data of the laws: structures, their rows, their sizes; and what laws.sz.., laws.to.., laws.eq.. compute on them. Written by program (typed.py).
-/
import Derived.Test.YtlbilfobehdidaaFa
import Derived.Test.YtlbilfobehdidaaAmTyped
import Derived.Test.YtlbilfobehdidaaTy
import Derived.Test.YtlbilfobehdidaaAmData
namespace Go.Am
open Go Go.Proofs
set_option linter.unusedVariables false
set_option linter.unusedSimpArgs false
variable {β : Type}

/-! ### Addr -/
def TAddr.nul : TAddr := ⟨[], []⟩
def TAddr.size (a : TAddr) : Nat := a.xHost.length + (a.xPath.length + (0))
def TAddr.ok (a : TAddr) : Prop := okS a.xHost ∧ okS a.xPath ∧ True
theorem szAddr (a : TAddr) (l : Int) (h0 : 0 ≤ l) (h1 : l ≤ 1048576) (h : a.ok) (k : Int → Option β) : F12 β a.xHost a.xPath l k = k (szL l a.size) := by
  obtain ⟨q0, q1, _⟩ := h
  unfold TAddr.size
  simp only [F12, P12]
  refine szCut h0 h1 q0 (fun m0 e0 h0 h1 => ?_)
  rw [e0]
  refine szCut h0 h1 q1 (fun m1 e1 h0 h1 => ?_)
  rw [e1]
  exact szEnd h0
theorem toAddr (a : TAddr) (h : a.size ≤ 1048576) (k : List UInt8 → List UInt8 → Option β) : F14 β a.xHost a.xPath k = k a.xHost a.xPath := by
  unfold TAddr.size at h
  simp only [F14, P14]
open Classical in noncomputable def lszAddr (a : TAddr) (l : Int) : Option Int := if 0 ≤ l ∧ l ≤ 1048576 ∧ TAddr.ok a then some (szL l (TAddr.size a)) else none
theorem ei_lszAddr (a : TAddr) (l : Int) (k : Int → Option β) : Imp (F12 β a.xHost a.xPath l k) (lszAddr a l) (fun r => k r) := by
  intro r h
  unfold lszAddr at h
  split at h
  · rename_i c; cases h; exact szAddr a l c.1 c.2.1 c.2.2 k
  · cases h
def ltoAddr (a : TAddr) : Option TAddr := if TAddr.size a ≤ 1048576 then some a else none
theorem ei_ltoAddr (a : TAddr) (k : List UInt8 → List UInt8 → Option β) : Imp (F14 β a.xHost a.xPath k) (ltoAddr a) (fun r => k r.xHost r.xPath) := by
  intro r h
  unfold ltoAddr at h
  split at h
  · rename_i c; cases h; exact toAddr a c k
  · cases h

/-! ### Sent -/
def TSent.nul : TSent := ⟨[], TAddr.nul, false⟩
def TSent.size (a : TSent) : Nat := a.xTop.length + (TAddr.size a.xTo + (0))
def TSent.ok (a : TSent) : Prop := okS a.xTop ∧ TAddr.ok a.xTo ∧ True ∧ True
theorem szSent (a : TSent) (l : Int) (h0 : 0 ≤ l) (h1 : l ≤ 1048576) (h : a.ok) (k : Int → Option β) : F26 β a.xTop a.xTo.xHost a.xTo.xPath a.xGuess l k = k (szL l a.size) := by
  obtain ⟨q0, q1, q2, _⟩ := h
  unfold TSent.size
  simp only [F26, P26]
  refine szCut h0 h1 q0 (fun m0 e0 h0 h1 => ?_)
  rw [e0]
  refine (szAddr a.xTo _ h0 h1 q1 _).trans (szSub h0 h1 (fun m1 e1 h0 h1 => ?_))
  rw [e1]
  exact szEnd h0
theorem toSent (a : TSent) (h : a.size ≤ 1048576) (k : List UInt8 → List UInt8 → List UInt8 → Bool → Option β) : F28 β a.xTop a.xTo.xHost a.xTo.xPath a.xGuess k = k a.xTop a.xTo.xHost a.xTo.xPath a.xGuess := by
  unfold TSent.size at h
  simp only [F28, P28]
  exact (toAddr a.xTo (by omega) _).trans (rfl)
open Classical in noncomputable def lszSent (a : TSent) (l : Int) : Option Int := if 0 ≤ l ∧ l ≤ 1048576 ∧ TSent.ok a then some (szL l (TSent.size a)) else none
theorem ei_lszSent (a : TSent) (l : Int) (k : Int → Option β) : Imp (F26 β a.xTop a.xTo.xHost a.xTo.xPath a.xGuess l k) (lszSent a l) (fun r => k r) := by
  intro r h
  unfold lszSent at h
  split at h
  · rename_i c; cases h; exact szSent a l c.1 c.2.1 c.2.2 k
  · cases h
def ltoSent (a : TSent) : Option TSent := if TSent.size a ≤ 1048576 then some a else none
theorem ei_ltoSent (a : TSent) (k : List UInt8 → List UInt8 → List UInt8 → Bool → Option β) : Imp (F28 β a.xTop a.xTo.xHost a.xTo.xPath a.xGuess k) (ltoSent a) (fun r => k r.xTop r.xTo.xHost r.xTo.xPath r.xGuess) := by
  intro r h
  unfold ltoSent at h
  split at h
  · rename_i c; cases h; exact toSent a c k
  · cases h

/-! ### Response -/
def TResponse.nul : TResponse := ⟨0, 0, [], 0, false, []⟩
def TResponse.size (a : TResponse) : Nat := a.xBody.length + (a.xPolicy.length + (0))
def TResponse.ok (a : TResponse) : Prop := okI a.xStatus ∧ okI a.xKind ∧ okS a.xBody ∧ okI a.xAge ∧ True ∧ okS a.xPolicy ∧ True
theorem eqResponse_iff (a b : TResponse) : ((a.xStatus == b.xStatus) && ((a.xKind == b.xKind) && ((a.xBody == b.xBody) && ((a.xAge == b.xAge) && ((a.xShares == b.xShares) && ((a.xPolicy == b.xPolicy) && (true))))))) = decide (a = b) := by
  cases a; cases b
  rw [Bool.eq_iff_iff]
  simp only [TResponse.mk.injEq, Bool.and_true, Bool.and_eq_true, beq_iff_eq, decide_eq_true_eq]
theorem eqResponse (a b : TResponse) (h : a.ok) (k : Bool → Option β) : F18 β a.xStatus a.xKind a.xBody a.xAge a.xShares a.xPolicy b.xStatus b.xKind b.xBody b.xAge b.xShares b.xPolicy k = k (decide (a = b)) := by
  obtain ⟨q0, q1, q2, q3, q4, q5, _⟩ := h
  simp only [F18, P18]
  refine Eq.trans (b := k ((a.xStatus == b.xStatus) && ((a.xKind == b.xKind) && ((a.xBody == b.xBody) && ((a.xAge == b.xAge) && ((a.xShares == b.xShares) && ((a.xPolicy == b.xPolicy) && (true)))))))) ?_ (congrArg k (eqResponse_iff a b))
  refine eqCut ?_
  refine eqCut ?_
  refine eqCut ?_
  refine eqCut ?_
  refine eqCut ?_
  refine eqCut ?_
  rfl
open Classical in noncomputable def leqResponse (a b : TResponse) : Option Bool := if TResponse.ok a then some (decide (a = b)) else none
theorem ei_leqResponse (a b : TResponse) (k : Bool → Option β) : Imp (F18 β a.xStatus a.xKind a.xBody a.xAge a.xShares a.xPolicy b.xStatus b.xKind b.xBody b.xAge b.xShares b.xPolicy k) (leqResponse a b) (fun r => k r) := by
  intro r h
  unfold leqResponse at h
  split at h
  · rename_i c; cases h; refine (eqResponse a b c k).trans ?_; congr
  · cases h

/-! ### arguments -/
def fl : Nat → Bool := fun t => true
def L : List Nat := [9, 25, 3, 40, 4]
theorem kids : kidsOk Try.prog L = true := by kernel_rfl
theorem flArgs : flOk Try.prog L fl = true := by kernel_rfl
theorem cells9 : Try.prog.cellsOf 9 = 1 := by kernel_rfl
theorem cells25 : Try.prog.cellsOf 25 = 2 := by kernel_rfl
theorem cells3 : Try.prog.cellsOf 3 = 1 := by kernel_rfl
theorem cells40 : Try.prog.cellsOf 40 = 4 := by kernel_rfl
theorem cells4 : Try.prog.cellsOf 4 = 1 := by kernel_rfl
theorem Addr_open {n : Nat} {us : List V} (h : Cn Try.prog fl n 25 us) : ∃ a : TAddr, a.ok ∧ us = [.str a.xHost, .str a.xPath] := by
  obtain ⟨m, hl, hf⟩ := cn_struct h Try.underlying25
  rw [cells25] at hl
  obtain ⟨u0, l0, rfl, hl0⟩ := list_next hl
  obtain ⟨u1, l1, rfl, hl1⟩ := list_next hl0
  obtain rfl := List.length_eq_zero_iff.1 hl1
  obtain ⟨g0, g1, _⟩ := hf
  rw [cells9] at g0
  obtain ⟨y0, z0, o0⟩ := cn_str g0 Try.underlying9
  simp only [List.drop_succ_cons, List.drop_zero, List.take_succ_cons, List.take_zero, List.cons.injEq, and_true] at z0
  obtain rfl := z0
  rw [cells9] at g1
  obtain ⟨y1, z1, o1⟩ := cn_str g1 Try.underlying9
  simp only [List.drop_succ_cons, List.drop_zero, List.take_succ_cons, List.take_zero, List.cons.injEq, and_true] at z1
  obtain rfl := z1
  exact ⟨⟨y0, y1⟩, ⟨o0, o1, trivial⟩, rfl⟩
theorem Sent_open {n : Nat} {us : List V} (h : Cn Try.prog fl n 40 us) : ∃ a : TSent, a.ok ∧ us = [.str a.xTop, .str a.xTo.xHost, .str a.xTo.xPath, .bool a.xGuess] := by
  obtain ⟨m, hl, hf⟩ := cn_struct h Try.underlying40
  rw [cells40] at hl
  obtain ⟨u0, l0, rfl, hl0⟩ := list_next hl
  obtain ⟨u1, l1, rfl, hl1⟩ := list_next hl0
  obtain ⟨u2, l2, rfl, hl2⟩ := list_next hl1
  obtain ⟨u3, l3, rfl, hl3⟩ := list_next hl2
  obtain rfl := List.length_eq_zero_iff.1 hl3
  obtain ⟨g0, g1, g2, _⟩ := hf
  rw [cells9] at g0
  obtain ⟨y0, z0, o0⟩ := cn_str g0 Try.underlying9
  simp only [List.drop_succ_cons, List.drop_zero, List.take_succ_cons, List.take_zero, List.cons.injEq, and_true] at z0
  obtain rfl := z0
  rw [cells25] at g1
  obtain ⟨y1, o1, z1⟩ := Addr_open g1
  simp only [List.drop_succ_cons, List.drop_zero, List.take_succ_cons, List.take_zero, List.cons.injEq, and_true] at z1
  obtain ⟨rfl, rfl⟩ := z1
  rw [cells4] at g2
  obtain ⟨y2, z2⟩ := cn_bool g2 Try.underlying4
  have o2 : True := trivial
  simp only [List.drop_succ_cons, List.drop_zero, List.take_succ_cons, List.take_zero, List.cons.injEq, and_true] at z2
  obtain rfl := z2
  exact ⟨⟨y0, y1, y2⟩, ⟨o0, o1, o2, trivial⟩, rfl⟩
theorem answers : Answers Try.prog D := sound_den agree (fun den hD => drawOk agree (by kernel_rfl) hD) (no_ext fun _ _ => rfl)
end Go.Am

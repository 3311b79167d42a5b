/-
  The data of the laws: structures, their rows, their sizes; and what laws.sz.., laws.to.., laws.eq.. compute on them. Written by program (typed.py).
-/
import Derived.Test.YtnbeddgenlinpaaExt
import Derived.Test.YtnbeddgenlinpaaFt
import Derived.Test.YtnbeddgenlinpaaAmTyped
import Derived.Test.YtnbeddgenlinpaaTy
import Derived.Test.YtnbeddgenlinpaaAmData
namespace Go.Am
open Go Go.Proofs
set_option linter.unusedVariables false
set_option linter.unusedSimpArgs false
variable {β : Type}
theorem szStringS (a : List (List UInt8)) (l : Int) (h0 : 0 ≤ l) (h1 : l ≤ 1048576) (h : okL okS a) (k : Int → Option β) : F153 β (rStr a) l k = k (szL l (a.length + sumL List.length a)) := by
  simp only [F153, P153, rStr_len]
  refine szCut h0 h1 h.1 (fun m e h0 h1 => ?_)
  rw [e]
  refine while_sz (fun (i : Nat) (m : Int) => ([.l (rStr a), .i m, .i (i : Int)] : List Leaf)) a List.length (fun m => (1, [.i m])) (fun i y m hi hm0 hm1 => ?_) (fun m => brN rirr1 rfl) (fun m => rfl) h0 h1 rfl
  have hlt : i < a.length := (List.getElem?_eq_some_iff.1 hi).1
  have hb := h.1
  unfold maxLen at hb
  have hw := wrap_sub hm0 hm1 (h.2 y (List.mem_of_getElem? hi))
  by_cases c : m < (y.length : Int)
  · exact .inl ⟨_, c, brE (rlt1 hlt) (chkE (Int.natCast_nonneg _) (idxE1 (i := i) hi (brE (show IntKind.wrap .i64 (m - (y.length : Int)) < 0 by rw [hw]; omega) rfl))), rfl⟩
  · have c := Int.not_lt.1 c
    exact .inr ⟨c, brE (rlt1 hlt) (chkE (Int.natCast_nonneg _) (idxE1 (i := i) hi (brN (fun h => by have h : IntKind.wrap .i64 (m - (y.length : Int)) < 0 := h; rw [hw] at h; omega) (two (fun m j : Int => (some (Sum.inl ([.l (rStr a), .i m, .i j] : List Leaf)) : Option (List Leaf ⊕ (Nat × List Leaf)))) hw (wrapS (i := i) (by omega))))))⟩
theorem toStringS (a : List (List UInt8)) (h : a.length + sumL List.length a ≤ 1048576) (k : List V → Option β) : F161 β (rStr a) k = k (rStr a) := by
  simp only [F161, P161, rStr_len, whileK, Int.toNat_natCast]
  refine chkE ⟨by omega, by omega, by omega, by omega⟩ ?_
  rw [while_each (fun i : Nat => ([.l (rStr a), .l (rStr (copyS a ([] : List UInt8) i)), .i (i : Int)] : List Leaf)) a (0, [.l (rStr a)]) ?h1 ?h2 _ ?hs]
  case hs => rw [← rStr_copy0]; rfl
  case h1 =>
    intro i y hi
    have hlt : i < a.length := (List.getElem?_eq_some_iff.1 hi).1
    have hl := copyS_len (a := a) (n := ([] : List UInt8)) (i := i) (by omega)
    refine brE (rlt1 hlt) (chkE (Int.natCast_nonneg _) (idxE1 (i := i) hi (chkE ⟨Int.natCast_nonneg _, ?_⟩ (storeE1 (kd := .str) (g1 := fun e => e) (y := y) (i := i) rfl (Nat.lt_of_lt_of_eq hlt hl.symm) ?_))))
    · show (Int.toNat (i : Int)) < (rStr (copyS a ([] : List UInt8) i)).length
      rw [rStr_len]; exact Nat.lt_of_lt_of_eq hlt hl.symm
    · exact two (fun (c : List (List UInt8)) (j : Int) => (some (Sum.inl ([.l (rStr a), .l (rStr c), .i j] : List Leaf)) : Option (List Leaf ⊕ (Nat × List Leaf)))) (copyS_set hi) (wrapS (i := i) (by omega))
  case h2 =>
    rw [copyS_end]
    exact brN rirr1 rfl
  · rfl
theorem eqStringS (a b : List (List UInt8)) (h : okL okS a) (k : Bool → Option β) : F37 β (rStr a) (rStr b) k = k (decide (a = b)) := by
  simp only [F37, P37]
  refine eqLen (rStr_len ..) (rStr_len ..) (fun hl => ?_)
  refine while_eq (fun i : Nat => ([.l (rStr a), .l (rStr b), .i (i : Int)] : List Leaf)) a b hl (fun i x y hi hx hy => ?_) (brN rirr1 rfl) rfl rfl rfl
  have hb := h.1
  unfold maxLen at hb
  exact brE (rlt1 hi) (chkE (Int.natCast_nonneg _) (idxE1 (i := i) hx (chkE (Int.natCast_nonneg _) (idxE1 (i := i) hy (brB (c := !decide (x = y)) (by rw [Bool.eq_iff_iff]; simp) rfl (congrArg (fun j : Int => (some (Sum.inl ([.l (rStr a), .l (rStr b), .i j] : List Leaf)) : Option (List Leaf ⊕ (Nat × List Leaf)))) (wrapS (i := i) (by omega))))))))
open Classical in noncomputable def lszStringS (a : List (List UInt8)) (l : Int) : Option Int := if 0 ≤ l ∧ l ≤ 1048576 ∧ okL okS a then some (szL l (a.length + sumL List.length a)) else none
theorem ei_lszStringS (a : List (List UInt8)) (l : Int) (k : Int → Option β) : Imp (F153 β (rStr a) l k) (lszStringS a l) (fun r => k r) := by
  intro r h
  unfold lszStringS at h
  split at h
  · rename_i c; cases h; exact szStringS a l c.1 c.2.1 c.2.2 k
  · cases h
def ltoStringS (a : List (List UInt8)) : Option (List (List UInt8)) := if a.length + sumL List.length a ≤ 1048576 then some a else none
theorem ei_ltoStringS (a : List (List UInt8)) (k : List V → Option β) : Imp (F161 β (rStr a) k) (ltoStringS a) (fun r => k (rStr r)) := by
  intro r h
  unfold ltoStringS at h
  split at h
  · rename_i c; cases h; exact toStringS a c k
  · cases h
open Classical in noncomputable def leqStringS (a b : List (List UInt8)) : Option Bool := if okL okS a then some (decide (a = b)) else none
theorem ei_leqStringS (a b : List (List UInt8)) (k : Bool → Option β) : Imp (F37 β (rStr a) (rStr b) k) (leqStringS a b) (fun r => k r) := by
  intro r h
  unfold leqStringS at h
  split at h
  · rename_i c; cases h; refine (eqStringS a b c k).trans ?_; congr
  · cases h
theorem szIntS (a : List Int) (l : Int) (h0 : 0 ≤ l) (h1 : l ≤ 1048576) (h : okL okI a) (k : Int → Option β) : F196 β (rInt a) l k = k (szL l a.length) := by
  simp only [F196, P196, rInt_len]
  refine szCut (t := 0) h0 h1 h.1 (fun m e h0 h1 => ?_)
  rw [e]
  exact szEnd h0
theorem toIntS (a : List Int) (h : a.length ≤ 1048576) (k : List V → Option β) : F201 β (rInt a) k = k (rInt a) := by
  simp only [F201, P201, rInt_len, whileK, Int.toNat_natCast]
  refine chkE ⟨by omega, by omega, by omega, by omega⟩ ?_
  rw [while_each (fun i : Nat => ([.l (rInt a), .l (rInt (copyS a (0 : Int) i)), .i (i : Int)] : List Leaf)) a (0, [.l (rInt a)]) ?h1 ?h2 _ ?hs]
  case hs => rw [← rInt_copy0]; rfl
  case h1 =>
    intro i y hi
    have hlt : i < a.length := (List.getElem?_eq_some_iff.1 hi).1
    have hl := copyS_len (a := a) (n := (0 : Int)) (i := i) (by omega)
    refine brE (rlt1 hlt) (chkE (Int.natCast_nonneg _) (idxE1 (i := i) hi (chkE ⟨Int.natCast_nonneg _, ?_⟩ (storeE1 (kd := .int .i64) (g1 := fun e => e) (y := y) (i := i) rfl (Nat.lt_of_lt_of_eq hlt hl.symm) ?_))))
    · show (Int.toNat (i : Int)) < (rInt (copyS a (0 : Int) i)).length
      rw [rInt_len]; exact Nat.lt_of_lt_of_eq hlt hl.symm
    · exact two (fun (c : List Int) (j : Int) => (some (Sum.inl ([.l (rInt a), .l (rInt c), .i j] : List Leaf)) : Option (List Leaf ⊕ (Nat × List Leaf)))) (copyS_set hi) (wrapS (i := i) (by omega))
  case h2 =>
    rw [copyS_end]
    exact brN rirr1 rfl
  · rfl
theorem eqIntS (a b : List Int) (h : okL okI a) (k : Bool → Option β) : F206 β (rInt a) (rInt b) k = k (decide (a = b)) := by
  simp only [F206, P206]
  refine eqLen (rInt_len ..) (rInt_len ..) (fun hl => ?_)
  refine while_eq (fun i : Nat => ([.l (rInt a), .l (rInt b), .i (i : Int)] : List Leaf)) a b hl (fun i x y hi hx hy => ?_) (brN rirr1 rfl) rfl rfl rfl
  have hb := h.1
  unfold maxLen at hb
  exact brE (rlt1 hi) (chkE (Int.natCast_nonneg _) (idxE1 (i := i) hx (chkE (Int.natCast_nonneg _) (idxE1 (i := i) hy (brB (c := !decide (x = y)) (by rw [Bool.eq_iff_iff]; simp) rfl (congrArg (fun j : Int => (some (Sum.inl ([.l (rInt a), .l (rInt b), .i j] : List Leaf)) : Option (List Leaf ⊕ (Nat × List Leaf)))) (wrapS (i := i) (by omega))))))))
open Classical in noncomputable def lszIntS (a : List Int) (l : Int) : Option Int := if 0 ≤ l ∧ l ≤ 1048576 ∧ okL okI a then some (szL l (a.length)) else none
theorem ei_lszIntS (a : List Int) (l : Int) (k : Int → Option β) : Imp (F196 β (rInt a) l k) (lszIntS a l) (fun r => k r) := by
  intro r h
  unfold lszIntS at h
  split at h
  · rename_i c; cases h; exact szIntS a l c.1 c.2.1 c.2.2 k
  · cases h
def ltoIntS (a : List Int) : Option (List Int) := if a.length ≤ 1048576 then some a else none
theorem ei_ltoIntS (a : List Int) (k : List V → Option β) : Imp (F201 β (rInt a) k) (ltoIntS a) (fun r => k (rInt r)) := by
  intro r h
  unfold ltoIntS at h
  split at h
  · rename_i c; cases h; exact toIntS a c k
  · cases h
open Classical in noncomputable def leqIntS (a b : List Int) : Option Bool := if okL okI a then some (decide (a = b)) else none
theorem ei_leqIntS (a b : List Int) (k : Bool → Option β) : Imp (F206 β (rInt a) (rInt b) k) (leqIntS a b) (fun r => k r) := by
  intro r h
  unfold leqIntS at h
  split at h
  · rename_i c; cases h; refine (eqIntS a b c k).trans ?_; congr
  · cases h

/-! ### Addr -/
def TAddr.nul : TAddr := ⟨[], []⟩
def TAddr.size (a : TAddr) : Nat := a.xHost.length + (a.xPath.length + (0))
def TAddr.ok (a : TAddr) : Prop := okS a.xHost ∧ okS a.xPath ∧ True
theorem szAddr (a : TAddr) (l : Int) (h0 : 0 ≤ l) (h1 : l ≤ 1048576) (h : a.ok) (k : Int → Option β) : F120 β a.xHost a.xPath l k = k (szL l a.size) := by
  obtain ⟨q0, q1, _⟩ := h
  unfold TAddr.size
  simp only [F120, P120]
  refine szCut h0 h1 q0 (fun m0 e0 h0 h1 => ?_)
  rw [e0]
  refine szCut h0 h1 q1 (fun m1 e1 h0 h1 => ?_)
  rw [e1]
  exact szEnd h0
theorem toAddr (a : TAddr) (h : a.size ≤ 1048576) (k : List UInt8 → List UInt8 → Option β) : F122 β a.xHost a.xPath k = k a.xHost a.xPath := by
  unfold TAddr.size at h
  simp only [F122, P122]
theorem eqAddr_iff (a b : TAddr) : ((a.xHost == b.xHost) && ((a.xPath == b.xPath) && (true))) = decide (a = b) := by
  cases a; cases b
  rw [Bool.eq_iff_iff]
  simp only [TAddr.mk.injEq, Bool.and_true, Bool.and_eq_true, beq_iff_eq, decide_eq_true_eq]
theorem eqAddr (a b : TAddr) (h : a.ok) (k : Bool → Option β) : F86 β a.xHost a.xPath b.xHost b.xPath k = k (decide (a = b)) := by
  obtain ⟨q0, q1, _⟩ := h
  simp only [F86, P86]
  refine Eq.trans (b := k ((a.xHost == b.xHost) && ((a.xPath == b.xPath) && (true)))) ?_ (congrArg k (eqAddr_iff a b))
  refine eqCut ?_
  refine eqCut ?_
  rfl
open Classical in noncomputable def lszAddr (a : TAddr) (l : Int) : Option Int := if 0 ≤ l ∧ l ≤ 1048576 ∧ TAddr.ok a then some (szL l (TAddr.size a)) else none
theorem ei_lszAddr (a : TAddr) (l : Int) (k : Int → Option β) : Imp (F120 β a.xHost a.xPath l k) (lszAddr a l) (fun r => k r) := by
  intro r h
  unfold lszAddr at h
  split at h
  · rename_i c; cases h; exact szAddr a l c.1 c.2.1 c.2.2 k
  · cases h
def ltoAddr (a : TAddr) : Option TAddr := if TAddr.size a ≤ 1048576 then some a else none
theorem ei_ltoAddr (a : TAddr) (k : List UInt8 → List UInt8 → Option β) : Imp (F122 β a.xHost a.xPath k) (ltoAddr a) (fun r => k r.xHost r.xPath) := by
  intro r h
  unfold ltoAddr at h
  split at h
  · rename_i c; cases h; exact toAddr a c k
  · cases h
open Classical in noncomputable def leqAddr (a b : TAddr) : Option Bool := if TAddr.ok a then some (decide (a = b)) else none
theorem ei_leqAddr (a b : TAddr) (k : Bool → Option β) : Imp (F86 β a.xHost a.xPath b.xHost b.xPath k) (leqAddr a b) (fun r => k r) := by
  intro r h
  unfold leqAddr at h
  split at h
  · rename_i c; cases h; refine (eqAddr a b c k).trans ?_; congr
  · cases h
theorem szAddrS (a : List TAddr) (l : Int) (h0 : 0 ≤ l) (h1 : l ≤ 1048576) (h : okL TAddr.ok a) (k : Int → Option β) : F152 β (rows kAddr TAddr.row a) l k = k (szL l (a.length + sumL TAddr.size a)) := by
  simp only [F152, P152, rows_len]
  refine szCut h0 h1 h.1 (fun m e h0 h1 => ?_)
  rw [e]
  refine while_sz (fun (i : Nat) (m : Int) => ([.l (rows kAddr TAddr.row a), .i m, .i (i : Int)] : List Leaf)) a TAddr.size (fun m => (1, [.i m])) (fun i y m hi hm0 hm1 => ?_) (fun m => brN rirr rfl) (fun m => rfl) h0 h1 rfl
  have hlt : i < a.length := (List.getElem?_eq_some_iff.1 hi).1
  have hb := h.1
  unfold maxLen at hb
  rcases @szCase m y.size with ⟨c, e⟩ | ⟨c, e⟩
  · exact .inl ⟨_, c, brE (rlt hlt) (chkE (Int.natCast_nonneg _) (idxE (i := i) hi ((szAddr y m hm0 hm1 (h.2 y (List.mem_of_getElem? hi)) _).trans (brE (by rw [e]; decide) rfl)))), rfl⟩
  · exact .inr ⟨c, brE (rlt hlt) (chkE (Int.natCast_nonneg _) (idxE (i := i) hi ((szAddr y m hm0 hm1 (h.2 y (List.mem_of_getElem? hi)) _).trans (brN (by rw [e]; omega) (two (fun m j : Int => (some (Sum.inl ([.l (rows kAddr TAddr.row a), .i m, .i j] : List Leaf)) : Option (List Leaf ⊕ (Nat × List Leaf)))) e (wrapS (i := i) (by omega)))))))⟩
theorem toAddrS (a : List TAddr) (h : a.length + sumL TAddr.size a ≤ 1048576) (k : List V → Option β) : F160 β (rows kAddr TAddr.row a) k = k (rows kAddr TAddr.row a) := by
  simp only [F160, P160, rows_len, whileK, Int.toNat_natCast]
  refine chkE ⟨by omega, by omega, by omega, by omega⟩ ?_
  rw [while_each (fun i : Nat => ([.l (rows kAddr TAddr.row a), .l (rows kAddr TAddr.row (copyS a TAddr.nul i)), .i (i : Int)] : List Leaf)) a (0, [.l (rows kAddr TAddr.row a)]) ?h1 ?h2 _ ?hs]
  case hs => rw [← rows_copy0 rfl]; rfl
  case h1 =>
    intro i y hi
    have hlt : i < a.length := (List.getElem?_eq_some_iff.1 hi).1
    have hl := copyS_len (a := a) (n := TAddr.nul) (i := i) (by omega)
    have hm := sumL_mem (f := TAddr.size) (List.mem_of_getElem? hi)
    refine brE (rlt hlt) (chkE (Int.natCast_nonneg _) (idxE (i := i) hi ((toAddr y (by omega) _).trans (chkE ⟨Int.natCast_nonneg _, ?_⟩ (storeE (g := TAddr.row) (y := y) (i := i) rfl (Nat.lt_of_lt_of_eq hlt hl.symm) ?_)))))
    · show (Int.toNat (i : Int)) < (rows kAddr TAddr.row (copyS a TAddr.nul i)).length
      rw [rows_len]; exact Nat.lt_of_lt_of_eq hlt hl.symm
    · exact two (fun (c : List TAddr) (j : Int) => (some (Sum.inl ([.l (rows kAddr TAddr.row a), .l (rows kAddr TAddr.row c), .i j] : List Leaf)) : Option (List Leaf ⊕ (Nat × List Leaf)))) (copyS_set hi) (wrapS (i := i) (by omega))
  case h2 =>
    rw [copyS_end]
    exact brN rirr rfl
  · rfl
theorem eqAddrS (a b : List TAddr) (h : okL TAddr.ok a) (k : Bool → Option β) : F43 β (rows kAddr TAddr.row a) (rows kAddr TAddr.row b) k = k (decide (a = b)) := by
  simp only [F43, P43]
  refine eqLen (rows_len ..) (rows_len ..) (fun hl => ?_)
  refine while_eq (fun i : Nat => ([.l (rows kAddr TAddr.row a), .l (rows kAddr TAddr.row b), .i (i : Int)] : List Leaf)) a b hl (fun i x y hi hx hy => ?_) (brN rirr rfl) rfl rfl rfl
  have hb := h.1
  unfold maxLen at hb
  exact brE (rlt hi) (chkE (Int.natCast_nonneg _) (idxE (i := i) hx (chkE (Int.natCast_nonneg _) (idxE (i := i) hy ((eqAddr x y (h.2 x (List.mem_of_getElem? hx)) _).trans (brB rfl rfl (congrArg (fun j : Int => (some (Sum.inl ([.l (rows kAddr TAddr.row a), .l (rows kAddr TAddr.row b), .i j] : List Leaf)) : Option (List Leaf ⊕ (Nat × List Leaf)))) (wrapS (i := i) (by omega)))))))))
open Classical in noncomputable def lszAddrS (a : List TAddr) (l : Int) : Option Int := if 0 ≤ l ∧ l ≤ 1048576 ∧ okL TAddr.ok a then some (szL l (a.length + sumL TAddr.size a)) else none
theorem ei_lszAddrS (a : List TAddr) (l : Int) (k : Int → Option β) : Imp (F152 β (rows kAddr TAddr.row a) l k) (lszAddrS a l) (fun r => k r) := by
  intro r h
  unfold lszAddrS at h
  split at h
  · rename_i c; cases h; exact szAddrS a l c.1 c.2.1 c.2.2 k
  · cases h
def ltoAddrS (a : List TAddr) : Option (List TAddr) := if a.length + sumL TAddr.size a ≤ 1048576 then some a else none
theorem ei_ltoAddrS (a : List TAddr) (k : List V → Option β) : Imp (F160 β (rows kAddr TAddr.row a) k) (ltoAddrS a) (fun r => k (rows kAddr TAddr.row r)) := by
  intro r h
  unfold ltoAddrS at h
  split at h
  · rename_i c; cases h; exact toAddrS a c k
  · cases h
open Classical in noncomputable def leqAddrS (a b : List TAddr) : Option Bool := if okL TAddr.ok a then some (decide (a = b)) else none
theorem ei_leqAddrS (a b : List TAddr) (k : Bool → Option β) : Imp (F43 β (rows kAddr TAddr.row a) (rows kAddr TAddr.row b) k) (leqAddrS a b) (fun r => k r) := by
  intro r h
  unfold leqAddrS at h
  split at h
  · rename_i c; cases h; refine (eqAddrS a b c k).trans ?_; congr
  · cases h

/-! ### Policy -/
def TPolicy.nul : TPolicy := ⟨false, [], [], [], []⟩
def TPolicy.size (a : TPolicy) : Nat := (a.xScripts.length + sumL List.length a.xScripts) + ((a.xStyles.length + sumL List.length a.xStyles) + ((a.xImages.length + sumL List.length a.xImages) + (a.xNonce.length + (0))))
def TPolicy.ok (a : TPolicy) : Prop := True ∧ okL okS a.xScripts ∧ okL okS a.xStyles ∧ okL okS a.xImages ∧ okS a.xNonce ∧ True
theorem szPolicy (a : TPolicy) (l : Int) (h0 : 0 ≤ l) (h1 : l ≤ 1048576) (h : a.ok) (k : Int → Option β) : F146 β a.xSet (rStr a.xScripts) (rStr a.xStyles) (rStr a.xImages) a.xNonce l k = k (szL l a.size) := by
  obtain ⟨q0, q1, q2, q3, q4, _⟩ := h
  unfold TPolicy.size
  simp only [F146, P146]
  refine (szStringS a.xScripts _ h0 h1 q1 _).trans (szSub h0 h1 (fun m1 e1 h0 h1 => ?_))
  rw [e1]
  refine (szStringS a.xStyles _ h0 h1 q2 _).trans (szSub h0 h1 (fun m2 e2 h0 h1 => ?_))
  rw [e2]
  refine (szStringS a.xImages _ h0 h1 q3 _).trans (szSub h0 h1 (fun m3 e3 h0 h1 => ?_))
  rw [e3]
  refine szCut h0 h1 q4 (fun m4 e4 h0 h1 => ?_)
  rw [e4]
  exact szEnd h0
theorem toPolicy (a : TPolicy) (h : a.size ≤ 1048576) (k : Bool → List V → List V → List V → List UInt8 → Option β) : F154 β a.xSet (rStr a.xScripts) (rStr a.xStyles) (rStr a.xImages) a.xNonce k = k a.xSet (rStr a.xScripts) (rStr a.xStyles) (rStr a.xImages) a.xNonce := by
  unfold TPolicy.size at h
  simp only [F154, P154]
  exact (toStringS a.xScripts (by omega) _).trans ((toStringS a.xStyles (by omega) _).trans ((toStringS a.xImages (by omega) _).trans (rfl)))
theorem eqPolicy_iff (a b : TPolicy) : ((a.xSet == b.xSet) && (decide (a.xScripts = b.xScripts) && (decide (a.xStyles = b.xStyles) && (decide (a.xImages = b.xImages) && ((a.xNonce == b.xNonce) && (true)))))) = decide (a = b) := by
  cases a; cases b
  rw [Bool.eq_iff_iff]
  simp only [TPolicy.mk.injEq, Bool.and_true, Bool.and_eq_true, beq_iff_eq, decide_eq_true_eq]
theorem eqPolicy (a b : TPolicy) (h : a.ok) (k : Bool → Option β) : F162 β a.xSet (rStr a.xScripts) (rStr a.xStyles) (rStr a.xImages) a.xNonce b.xSet (rStr b.xScripts) (rStr b.xStyles) (rStr b.xImages) b.xNonce k = k (decide (a = b)) := by
  obtain ⟨q0, q1, q2, q3, q4, _⟩ := h
  simp only [F162, P162]
  refine Eq.trans (b := k ((a.xSet == b.xSet) && (decide (a.xScripts = b.xScripts) && (decide (a.xStyles = b.xStyles) && (decide (a.xImages = b.xImages) && ((a.xNonce == b.xNonce) && (true))))))) ?_ (congrArg k (eqPolicy_iff a b))
  refine eqCut ?_
  refine (eqStringS a.xScripts b.xScripts q1 _).trans (eqCut ?_)
  refine (eqStringS a.xStyles b.xStyles q2 _).trans (eqCut ?_)
  refine (eqStringS a.xImages b.xImages q3 _).trans (eqCut ?_)
  refine eqCut ?_
  rfl
open Classical in noncomputable def lszPolicy (a : TPolicy) (l : Int) : Option Int := if 0 ≤ l ∧ l ≤ 1048576 ∧ TPolicy.ok a then some (szL l (TPolicy.size a)) else none
theorem ei_lszPolicy (a : TPolicy) (l : Int) (k : Int → Option β) : Imp (F146 β a.xSet (rStr a.xScripts) (rStr a.xStyles) (rStr a.xImages) a.xNonce l k) (lszPolicy a l) (fun r => k r) := by
  intro r h
  unfold lszPolicy at h
  split at h
  · rename_i c; cases h; exact szPolicy a l c.1 c.2.1 c.2.2 k
  · cases h
def ltoPolicy (a : TPolicy) : Option TPolicy := if TPolicy.size a ≤ 1048576 then some a else none
theorem ei_ltoPolicy (a : TPolicy) (k : Bool → List V → List V → List V → List UInt8 → Option β) : Imp (F154 β a.xSet (rStr a.xScripts) (rStr a.xStyles) (rStr a.xImages) a.xNonce k) (ltoPolicy a) (fun r => k r.xSet (rStr r.xScripts) (rStr r.xStyles) (rStr r.xImages) r.xNonce) := by
  intro r h
  unfold ltoPolicy at h
  split at h
  · rename_i c; cases h; exact toPolicy a c k
  · cases h
open Classical in noncomputable def leqPolicy (a b : TPolicy) : Option Bool := if TPolicy.ok a then some (decide (a = b)) else none
theorem ei_leqPolicy (a b : TPolicy) (k : Bool → Option β) : Imp (F162 β a.xSet (rStr a.xScripts) (rStr a.xStyles) (rStr a.xImages) a.xNonce b.xSet (rStr b.xScripts) (rStr b.xStyles) (rStr b.xImages) b.xNonce k) (leqPolicy a b) (fun r => k r) := by
  intro r h
  unfold leqPolicy at h
  split at h
  · rename_i c; cases h; refine (eqPolicy a b c k).trans ?_; congr
  · cases h

/-! ### Tokenizer -/
def TTokenizer.nul : TTokenizer := ⟨[]⟩
def TTokenizer.size (a : TTokenizer) : Nat := a.xRest.length + (0)
def TTokenizer.ok (a : TTokenizer) : Prop := okS a.xRest ∧ True
theorem szTokenizer (a : TTokenizer) (l : Int) (h0 : 0 ≤ l) (h1 : l ≤ 1048576) (h : a.ok) (k : Int → Option β) : F147 β a.xRest l k = k (szL l a.size) := by
  obtain ⟨q0, _⟩ := h
  unfold TTokenizer.size
  simp only [F147, P147]
  refine szCut h0 h1 q0 (fun m0 e0 h0 h1 => ?_)
  rw [e0]
  exact szEnd h0
theorem toTokenizer (a : TTokenizer) (h : a.size ≤ 1048576) (k : List UInt8 → Option β) : F155 β a.xRest k = k a.xRest := by
  unfold TTokenizer.size at h
  simp only [F155, P155]
theorem eqTokenizer_iff (a b : TTokenizer) : ((a.xRest == b.xRest) && (true)) = decide (a = b) := by
  cases a; cases b
  rw [Bool.eq_iff_iff]
  simp only [TTokenizer.mk.injEq, Bool.and_true, Bool.and_eq_true, beq_iff_eq, decide_eq_true_eq]
theorem eqTokenizer (a b : TTokenizer) (h : a.ok) (k : Bool → Option β) : F163 β a.xRest b.xRest k = k (decide (a = b)) := by
  obtain ⟨q0, _⟩ := h
  simp only [F163, P163]
  refine Eq.trans (b := k ((a.xRest == b.xRest) && (true))) ?_ (congrArg k (eqTokenizer_iff a b))
  refine eqCut ?_
  rfl
open Classical in noncomputable def lszTokenizer (a : TTokenizer) (l : Int) : Option Int := if 0 ≤ l ∧ l ≤ 1048576 ∧ TTokenizer.ok a then some (szL l (TTokenizer.size a)) else none
theorem ei_lszTokenizer (a : TTokenizer) (l : Int) (k : Int → Option β) : Imp (F147 β a.xRest l k) (lszTokenizer a l) (fun r => k r) := by
  intro r h
  unfold lszTokenizer at h
  split at h
  · rename_i c; cases h; exact szTokenizer a l c.1 c.2.1 c.2.2 k
  · cases h
def ltoTokenizer (a : TTokenizer) : Option TTokenizer := if TTokenizer.size a ≤ 1048576 then some a else none
theorem ei_ltoTokenizer (a : TTokenizer) (k : List UInt8 → Option β) : Imp (F155 β a.xRest k) (ltoTokenizer a) (fun r => k r.xRest) := by
  intro r h
  unfold ltoTokenizer at h
  split at h
  · rename_i c; cases h; exact toTokenizer a c k
  · cases h
open Classical in noncomputable def leqTokenizer (a b : TTokenizer) : Option Bool := if TTokenizer.ok a then some (decide (a = b)) else none
theorem ei_leqTokenizer (a b : TTokenizer) (k : Bool → Option β) : Imp (F163 β a.xRest b.xRest k) (leqTokenizer a b) (fun r => k r) := by
  intro r h
  unfold leqTokenizer at h
  split at h
  · rename_i c; cases h; refine (eqTokenizer a b c k).trans ?_; congr
  · cases h

/-! ### Attr -/
def TAttr.nul : TAttr := ⟨[], []⟩
def TAttr.size (a : TAttr) : Nat := a.xName.length + (a.xValue.length + (0))
def TAttr.ok (a : TAttr) : Prop := okS a.xName ∧ okS a.xValue ∧ True
theorem szAttr (a : TAttr) (l : Int) (h0 : 0 ≤ l) (h1 : l ≤ 1048576) (h : a.ok) (k : Int → Option β) : F231 β a.xName a.xValue l k = k (szL l a.size) := by
  obtain ⟨q0, q1, _⟩ := h
  unfold TAttr.size
  simp only [F231, P231]
  refine szCut h0 h1 q0 (fun m0 e0 h0 h1 => ?_)
  rw [e0]
  refine szCut h0 h1 q1 (fun m1 e1 h0 h1 => ?_)
  rw [e1]
  exact szEnd h0
theorem toAttr (a : TAttr) (h : a.size ≤ 1048576) (k : List UInt8 → List UInt8 → Option β) : F232 β a.xName a.xValue k = k a.xName a.xValue := by
  unfold TAttr.size at h
  simp only [F232, P232]
theorem eqAttr_iff (a b : TAttr) : ((a.xName == b.xName) && ((a.xValue == b.xValue) && (true))) = decide (a = b) := by
  cases a; cases b
  rw [Bool.eq_iff_iff]
  simp only [TAttr.mk.injEq, Bool.and_true, Bool.and_eq_true, beq_iff_eq, decide_eq_true_eq]
theorem eqAttr (a b : TAttr) (h : a.ok) (k : Bool → Option β) : F233 β a.xName a.xValue b.xName b.xValue k = k (decide (a = b)) := by
  obtain ⟨q0, q1, _⟩ := h
  simp only [F233, P233]
  refine Eq.trans (b := k ((a.xName == b.xName) && ((a.xValue == b.xValue) && (true)))) ?_ (congrArg k (eqAttr_iff a b))
  refine eqCut ?_
  refine eqCut ?_
  rfl
open Classical in noncomputable def lszAttr (a : TAttr) (l : Int) : Option Int := if 0 ≤ l ∧ l ≤ 1048576 ∧ TAttr.ok a then some (szL l (TAttr.size a)) else none
theorem ei_lszAttr (a : TAttr) (l : Int) (k : Int → Option β) : Imp (F231 β a.xName a.xValue l k) (lszAttr a l) (fun r => k r) := by
  intro r h
  unfold lszAttr at h
  split at h
  · rename_i c; cases h; exact szAttr a l c.1 c.2.1 c.2.2 k
  · cases h
def ltoAttr (a : TAttr) : Option TAttr := if TAttr.size a ≤ 1048576 then some a else none
theorem ei_ltoAttr (a : TAttr) (k : List UInt8 → List UInt8 → Option β) : Imp (F232 β a.xName a.xValue k) (ltoAttr a) (fun r => k r.xName r.xValue) := by
  intro r h
  unfold ltoAttr at h
  split at h
  · rename_i c; cases h; exact toAttr a c k
  · cases h
open Classical in noncomputable def leqAttr (a b : TAttr) : Option Bool := if TAttr.ok a then some (decide (a = b)) else none
theorem ei_leqAttr (a b : TAttr) (k : Bool → Option β) : Imp (F233 β a.xName a.xValue b.xName b.xValue k) (leqAttr a b) (fun r => k r) := by
  intro r h
  unfold leqAttr at h
  split at h
  · rename_i c; cases h; refine (eqAttr a b c k).trans ?_; congr
  · cases h
theorem szAttrS (a : List TAttr) (l : Int) (h0 : 0 ≤ l) (h1 : l ≤ 1048576) (h : okL TAttr.ok a) (k : Int → Option β) : F221 β (rows kAttr TAttr.row a) l k = k (szL l (a.length + sumL TAttr.size a)) := by
  simp only [F221, P221, rows_len]
  refine szCut h0 h1 h.1 (fun m e h0 h1 => ?_)
  rw [e]
  refine while_sz (fun (i : Nat) (m : Int) => ([.l (rows kAttr TAttr.row a), .i m, .i (i : Int)] : List Leaf)) a TAttr.size (fun m => (1, [.i m])) (fun i y m hi hm0 hm1 => ?_) (fun m => brN rirr rfl) (fun m => rfl) h0 h1 rfl
  have hlt : i < a.length := (List.getElem?_eq_some_iff.1 hi).1
  have hb := h.1
  unfold maxLen at hb
  rcases @szCase m y.size with ⟨c, e⟩ | ⟨c, e⟩
  · exact .inl ⟨_, c, brE (rlt hlt) (chkE (Int.natCast_nonneg _) (idxE (i := i) hi ((szAttr y m hm0 hm1 (h.2 y (List.mem_of_getElem? hi)) _).trans (brE (by rw [e]; decide) rfl)))), rfl⟩
  · exact .inr ⟨c, brE (rlt hlt) (chkE (Int.natCast_nonneg _) (idxE (i := i) hi ((szAttr y m hm0 hm1 (h.2 y (List.mem_of_getElem? hi)) _).trans (brN (by rw [e]; omega) (two (fun m j : Int => (some (Sum.inl ([.l (rows kAttr TAttr.row a), .i m, .i j] : List Leaf)) : Option (List Leaf ⊕ (Nat × List Leaf)))) e (wrapS (i := i) (by omega)))))))⟩
theorem toAttrS (a : List TAttr) (h : a.length + sumL TAttr.size a ≤ 1048576) (k : List V → Option β) : F223 β (rows kAttr TAttr.row a) k = k (rows kAttr TAttr.row a) := by
  simp only [F223, P223, rows_len, whileK, Int.toNat_natCast]
  refine chkE ⟨by omega, by omega, by omega, by omega⟩ ?_
  rw [while_each (fun i : Nat => ([.l (rows kAttr TAttr.row a), .l (rows kAttr TAttr.row (copyS a TAttr.nul i)), .i (i : Int)] : List Leaf)) a (0, [.l (rows kAttr TAttr.row a)]) ?h1 ?h2 _ ?hs]
  case hs => rw [← rows_copy0 rfl]; rfl
  case h1 =>
    intro i y hi
    have hlt : i < a.length := (List.getElem?_eq_some_iff.1 hi).1
    have hl := copyS_len (a := a) (n := TAttr.nul) (i := i) (by omega)
    have hm := sumL_mem (f := TAttr.size) (List.mem_of_getElem? hi)
    refine brE (rlt hlt) (chkE (Int.natCast_nonneg _) (idxE (i := i) hi ((toAttr y (by omega) _).trans (chkE ⟨Int.natCast_nonneg _, ?_⟩ (storeE (g := TAttr.row) (y := y) (i := i) rfl (Nat.lt_of_lt_of_eq hlt hl.symm) ?_)))))
    · show (Int.toNat (i : Int)) < (rows kAttr TAttr.row (copyS a TAttr.nul i)).length
      rw [rows_len]; exact Nat.lt_of_lt_of_eq hlt hl.symm
    · exact two (fun (c : List TAttr) (j : Int) => (some (Sum.inl ([.l (rows kAttr TAttr.row a), .l (rows kAttr TAttr.row c), .i j] : List Leaf)) : Option (List Leaf ⊕ (Nat × List Leaf)))) (copyS_set hi) (wrapS (i := i) (by omega))
  case h2 =>
    rw [copyS_end]
    exact brN rirr rfl
  · rfl
theorem eqAttrS (a b : List TAttr) (h : okL TAttr.ok a) (k : Bool → Option β) : F225 β (rows kAttr TAttr.row a) (rows kAttr TAttr.row b) k = k (decide (a = b)) := by
  simp only [F225, P225]
  refine eqLen (rows_len ..) (rows_len ..) (fun hl => ?_)
  refine while_eq (fun i : Nat => ([.l (rows kAttr TAttr.row a), .l (rows kAttr TAttr.row b), .i (i : Int)] : List Leaf)) a b hl (fun i x y hi hx hy => ?_) (brN rirr rfl) rfl rfl rfl
  have hb := h.1
  unfold maxLen at hb
  exact brE (rlt hi) (chkE (Int.natCast_nonneg _) (idxE (i := i) hx (chkE (Int.natCast_nonneg _) (idxE (i := i) hy ((eqAttr x y (h.2 x (List.mem_of_getElem? hx)) _).trans (brB rfl rfl (congrArg (fun j : Int => (some (Sum.inl ([.l (rows kAttr TAttr.row a), .l (rows kAttr TAttr.row b), .i j] : List Leaf)) : Option (List Leaf ⊕ (Nat × List Leaf)))) (wrapS (i := i) (by omega)))))))))
open Classical in noncomputable def lszAttrS (a : List TAttr) (l : Int) : Option Int := if 0 ≤ l ∧ l ≤ 1048576 ∧ okL TAttr.ok a then some (szL l (a.length + sumL TAttr.size a)) else none
theorem ei_lszAttrS (a : List TAttr) (l : Int) (k : Int → Option β) : Imp (F221 β (rows kAttr TAttr.row a) l k) (lszAttrS a l) (fun r => k r) := by
  intro r h
  unfold lszAttrS at h
  split at h
  · rename_i c; cases h; exact szAttrS a l c.1 c.2.1 c.2.2 k
  · cases h
def ltoAttrS (a : List TAttr) : Option (List TAttr) := if a.length + sumL TAttr.size a ≤ 1048576 then some a else none
theorem ei_ltoAttrS (a : List TAttr) (k : List V → Option β) : Imp (F223 β (rows kAttr TAttr.row a) k) (ltoAttrS a) (fun r => k (rows kAttr TAttr.row r)) := by
  intro r h
  unfold ltoAttrS at h
  split at h
  · rename_i c; cases h; exact toAttrS a c k
  · cases h
open Classical in noncomputable def leqAttrS (a b : List TAttr) : Option Bool := if okL TAttr.ok a then some (decide (a = b)) else none
theorem ei_leqAttrS (a b : List TAttr) (k : Bool → Option β) : Imp (F225 β (rows kAttr TAttr.row a) (rows kAttr TAttr.row b) k) (leqAttrS a b) (fun r => k r) := by
  intro r h
  unfold leqAttrS at h
  split at h
  · rename_i c; cases h; refine (eqAttrS a b c k).trans ?_; congr
  · cases h

/-! ### Token -/
def TToken.nul : TToken := ⟨0, [], [], []⟩
def TToken.size (a : TToken) : Nat := a.xName.length + ((a.xAttrs.length + sumL TAttr.size a.xAttrs) + (a.xText.length + (0)))
def TToken.ok (a : TToken) : Prop := okI a.xKind ∧ okS a.xName ∧ okL TAttr.ok a.xAttrs ∧ okS a.xText ∧ True
theorem szToken (a : TToken) (l : Int) (h0 : 0 ≤ l) (h1 : l ≤ 1048576) (h : a.ok) (k : Int → Option β) : F194 β a.xKind a.xName (rows kAttr TAttr.row a.xAttrs) a.xText l k = k (szL l a.size) := by
  obtain ⟨q0, q1, q2, q3, _⟩ := h
  unfold TToken.size
  simp only [F194, P194]
  refine szCut h0 h1 q1 (fun m1 e1 h0 h1 => ?_)
  rw [e1]
  refine (szAttrS a.xAttrs _ h0 h1 q2 _).trans (szSub h0 h1 (fun m2 e2 h0 h1 => ?_))
  rw [e2]
  refine szCut h0 h1 q3 (fun m3 e3 h0 h1 => ?_)
  rw [e3]
  exact szEnd h0
theorem toToken (a : TToken) (h : a.size ≤ 1048576) (k : Int → List UInt8 → List V → List UInt8 → Option β) : F199 β a.xKind a.xName (rows kAttr TAttr.row a.xAttrs) a.xText k = k a.xKind a.xName (rows kAttr TAttr.row a.xAttrs) a.xText := by
  unfold TToken.size at h
  simp only [F199, P199]
  exact (toAttrS a.xAttrs (by omega) _).trans (rfl)
theorem eqToken_iff (a b : TToken) : ((a.xKind == b.xKind) && ((a.xName == b.xName) && (decide (a.xAttrs = b.xAttrs) && ((a.xText == b.xText) && (true))))) = decide (a = b) := by
  cases a; cases b
  rw [Bool.eq_iff_iff]
  simp only [TToken.mk.injEq, Bool.and_true, Bool.and_eq_true, beq_iff_eq, decide_eq_true_eq]
theorem eqToken (a b : TToken) (h : a.ok) (k : Bool → Option β) : F204 β a.xKind a.xName (rows kAttr TAttr.row a.xAttrs) a.xText b.xKind b.xName (rows kAttr TAttr.row b.xAttrs) b.xText k = k (decide (a = b)) := by
  obtain ⟨q0, q1, q2, q3, _⟩ := h
  simp only [F204, P204]
  refine Eq.trans (b := k ((a.xKind == b.xKind) && ((a.xName == b.xName) && (decide (a.xAttrs = b.xAttrs) && ((a.xText == b.xText) && (true)))))) ?_ (congrArg k (eqToken_iff a b))
  refine eqCut ?_
  refine eqCut ?_
  refine (eqAttrS a.xAttrs b.xAttrs q2 _).trans (eqCut ?_)
  refine eqCut ?_
  rfl
open Classical in noncomputable def lszToken (a : TToken) (l : Int) : Option Int := if 0 ≤ l ∧ l ≤ 1048576 ∧ TToken.ok a then some (szL l (TToken.size a)) else none
theorem ei_lszToken (a : TToken) (l : Int) (k : Int → Option β) : Imp (F194 β a.xKind a.xName (rows kAttr TAttr.row a.xAttrs) a.xText l k) (lszToken a l) (fun r => k r) := by
  intro r h
  unfold lszToken at h
  split at h
  · rename_i c; cases h; exact szToken a l c.1 c.2.1 c.2.2 k
  · cases h
def ltoToken (a : TToken) : Option TToken := if TToken.size a ≤ 1048576 then some a else none
theorem ei_ltoToken (a : TToken) (k : Int → List UInt8 → List V → List UInt8 → Option β) : Imp (F199 β a.xKind a.xName (rows kAttr TAttr.row a.xAttrs) a.xText k) (ltoToken a) (fun r => k r.xKind r.xName (rows kAttr TAttr.row r.xAttrs) r.xText) := by
  intro r h
  unfold ltoToken at h
  split at h
  · rename_i c; cases h; exact toToken a c k
  · cases h
open Classical in noncomputable def leqToken (a b : TToken) : Option Bool := if TToken.ok a then some (decide (a = b)) else none
theorem ei_leqToken (a b : TToken) (k : Bool → Option β) : Imp (F204 β a.xKind a.xName (rows kAttr TAttr.row a.xAttrs) a.xText b.xKind b.xName (rows kAttr TAttr.row b.xAttrs) b.xText k) (leqToken a b) (fun r => k r) := by
  intro r h
  unfold leqToken at h
  split at h
  · rename_i c; cases h; refine (eqToken a b c k).trans ?_; congr
  · cases h
theorem szTokenS (a : List TToken) (l : Int) (h0 : 0 ≤ l) (h1 : l ≤ 1048576) (h : okL TToken.ok a) (k : Int → Option β) : F148 β (rows kToken TToken.row a) l k = k (szL l (a.length + sumL TToken.size a)) := by
  simp only [F148, P148, rows_len]
  refine szCut h0 h1 h.1 (fun m e h0 h1 => ?_)
  rw [e]
  refine while_sz (fun (i : Nat) (m : Int) => ([.l (rows kToken TToken.row a), .i m, .i (i : Int)] : List Leaf)) a TToken.size (fun m => (1, [.i m])) (fun i y m hi hm0 hm1 => ?_) (fun m => brN rirr rfl) (fun m => rfl) h0 h1 rfl
  have hlt : i < a.length := (List.getElem?_eq_some_iff.1 hi).1
  have hb := h.1
  unfold maxLen at hb
  rcases @szCase m y.size with ⟨c, e⟩ | ⟨c, e⟩
  · exact .inl ⟨_, c, brE (rlt hlt) (chkE (Int.natCast_nonneg _) (idxE (i := i) hi ((szToken y m hm0 hm1 (h.2 y (List.mem_of_getElem? hi)) _).trans (brE (by rw [e]; decide) rfl)))), rfl⟩
  · exact .inr ⟨c, brE (rlt hlt) (chkE (Int.natCast_nonneg _) (idxE (i := i) hi ((szToken y m hm0 hm1 (h.2 y (List.mem_of_getElem? hi)) _).trans (brN (by rw [e]; omega) (two (fun m j : Int => (some (Sum.inl ([.l (rows kToken TToken.row a), .i m, .i j] : List Leaf)) : Option (List Leaf ⊕ (Nat × List Leaf)))) e (wrapS (i := i) (by omega)))))))⟩
theorem toTokenS (a : List TToken) (h : a.length + sumL TToken.size a ≤ 1048576) (k : List V → Option β) : F156 β (rows kToken TToken.row a) k = k (rows kToken TToken.row a) := by
  simp only [F156, P156, rows_len, whileK, Int.toNat_natCast]
  refine chkE ⟨by omega, by omega, by omega, by omega⟩ ?_
  rw [while_each (fun i : Nat => ([.l (rows kToken TToken.row a), .l (rows kToken TToken.row (copyS a TToken.nul i)), .i (i : Int)] : List Leaf)) a (0, [.l (rows kToken TToken.row a)]) ?h1 ?h2 _ ?hs]
  case hs => rw [← rows_copy0 rfl]; rfl
  case h1 =>
    intro i y hi
    have hlt : i < a.length := (List.getElem?_eq_some_iff.1 hi).1
    have hl := copyS_len (a := a) (n := TToken.nul) (i := i) (by omega)
    have hm := sumL_mem (f := TToken.size) (List.mem_of_getElem? hi)
    refine brE (rlt hlt) (chkE (Int.natCast_nonneg _) (idxE (i := i) hi ((toToken y (by omega) _).trans (chkE ⟨Int.natCast_nonneg _, ?_⟩ (storeE (g := TToken.row) (y := y) (i := i) rfl (Nat.lt_of_lt_of_eq hlt hl.symm) ?_)))))
    · show (Int.toNat (i : Int)) < (rows kToken TToken.row (copyS a TToken.nul i)).length
      rw [rows_len]; exact Nat.lt_of_lt_of_eq hlt hl.symm
    · exact two (fun (c : List TToken) (j : Int) => (some (Sum.inl ([.l (rows kToken TToken.row a), .l (rows kToken TToken.row c), .i j] : List Leaf)) : Option (List Leaf ⊕ (Nat × List Leaf)))) (copyS_set hi) (wrapS (i := i) (by omega))
  case h2 =>
    rw [copyS_end]
    exact brN rirr rfl
  · rfl
theorem eqTokenS (a b : List TToken) (h : okL TToken.ok a) (k : Bool → Option β) : F164 β (rows kToken TToken.row a) (rows kToken TToken.row b) k = k (decide (a = b)) := by
  simp only [F164, P164]
  refine eqLen (rows_len ..) (rows_len ..) (fun hl => ?_)
  refine while_eq (fun i : Nat => ([.l (rows kToken TToken.row a), .l (rows kToken TToken.row b), .i (i : Int)] : List Leaf)) a b hl (fun i x y hi hx hy => ?_) (brN rirr rfl) rfl rfl rfl
  have hb := h.1
  unfold maxLen at hb
  exact brE (rlt hi) (chkE (Int.natCast_nonneg _) (idxE (i := i) hx (chkE (Int.natCast_nonneg _) (idxE (i := i) hy ((eqToken x y (h.2 x (List.mem_of_getElem? hx)) _).trans (brB rfl rfl (congrArg (fun j : Int => (some (Sum.inl ([.l (rows kToken TToken.row a), .l (rows kToken TToken.row b), .i j] : List Leaf)) : Option (List Leaf ⊕ (Nat × List Leaf)))) (wrapS (i := i) (by omega)))))))))
open Classical in noncomputable def lszTokenS (a : List TToken) (l : Int) : Option Int := if 0 ≤ l ∧ l ≤ 1048576 ∧ okL TToken.ok a then some (szL l (a.length + sumL TToken.size a)) else none
theorem ei_lszTokenS (a : List TToken) (l : Int) (k : Int → Option β) : Imp (F148 β (rows kToken TToken.row a) l k) (lszTokenS a l) (fun r => k r) := by
  intro r h
  unfold lszTokenS at h
  split at h
  · rename_i c; cases h; exact szTokenS a l c.1 c.2.1 c.2.2 k
  · cases h
def ltoTokenS (a : List TToken) : Option (List TToken) := if a.length + sumL TToken.size a ≤ 1048576 then some a else none
theorem ei_ltoTokenS (a : List TToken) (k : List V → Option β) : Imp (F156 β (rows kToken TToken.row a) k) (ltoTokenS a) (fun r => k (rows kToken TToken.row r)) := by
  intro r h
  unfold ltoTokenS at h
  split at h
  · rename_i c; cases h; exact toTokenS a c k
  · cases h
open Classical in noncomputable def leqTokenS (a b : List TToken) : Option Bool := if okL TToken.ok a then some (decide (a = b)) else none
theorem ei_leqTokenS (a b : List TToken) (k : Bool → Option β) : Imp (F164 β (rows kToken TToken.row a) (rows kToken TToken.row b) k) (leqTokenS a b) (fun r => k r) := by
  intro r h
  unfold leqTokenS at h
  split at h
  · rename_i c; cases h; refine (eqTokenS a b c k).trans ?_; congr
  · cases h

/-! ### Node -/
def TNode.nul : TNode := ⟨[], [], 0, []⟩
def TNode.size (a : TNode) : Nat := a.xName.length + (a.xText.length + ((a.xAttrs.length + sumL TAttr.size a.xAttrs) + (0)))
def TNode.ok (a : TNode) : Prop := okS a.xName ∧ okS a.xText ∧ okI a.xParent ∧ okL TAttr.ok a.xAttrs ∧ True
theorem szNode (a : TNode) (l : Int) (h0 : 0 ≤ l) (h1 : l ≤ 1048576) (h : a.ok) (k : Int → Option β) : F222 β a.xName a.xText a.xParent (rows kAttr TAttr.row a.xAttrs) l k = k (szL l a.size) := by
  obtain ⟨q0, q1, q2, q3, _⟩ := h
  unfold TNode.size
  simp only [F222, P222]
  refine szCut h0 h1 q0 (fun m0 e0 h0 h1 => ?_)
  rw [e0]
  refine szCut h0 h1 q1 (fun m1 e1 h0 h1 => ?_)
  rw [e1]
  refine (szAttrS a.xAttrs _ h0 h1 q3 _).trans (szSub h0 h1 (fun m3 e3 h0 h1 => ?_))
  rw [e3]
  exact szEnd h0
theorem toNode (a : TNode) (h : a.size ≤ 1048576) (k : List UInt8 → List UInt8 → Int → List V → Option β) : F224 β a.xName a.xText a.xParent (rows kAttr TAttr.row a.xAttrs) k = k a.xName a.xText a.xParent (rows kAttr TAttr.row a.xAttrs) := by
  unfold TNode.size at h
  simp only [F224, P224]
  exact (toAttrS a.xAttrs (by omega) _).trans (rfl)
theorem eqNode_iff (a b : TNode) : ((a.xName == b.xName) && ((a.xText == b.xText) && ((a.xParent == b.xParent) && (decide (a.xAttrs = b.xAttrs) && (true))))) = decide (a = b) := by
  cases a; cases b
  rw [Bool.eq_iff_iff]
  simp only [TNode.mk.injEq, Bool.and_true, Bool.and_eq_true, beq_iff_eq, decide_eq_true_eq]
theorem eqNode (a b : TNode) (h : a.ok) (k : Bool → Option β) : F226 β a.xName a.xText a.xParent (rows kAttr TAttr.row a.xAttrs) b.xName b.xText b.xParent (rows kAttr TAttr.row b.xAttrs) k = k (decide (a = b)) := by
  obtain ⟨q0, q1, q2, q3, _⟩ := h
  simp only [F226, P226]
  refine Eq.trans (b := k ((a.xName == b.xName) && ((a.xText == b.xText) && ((a.xParent == b.xParent) && (decide (a.xAttrs = b.xAttrs) && (true)))))) ?_ (congrArg k (eqNode_iff a b))
  refine eqCut ?_
  refine eqCut ?_
  refine eqCut ?_
  refine (eqAttrS a.xAttrs b.xAttrs q3 _).trans (eqCut ?_)
  rfl
open Classical in noncomputable def lszNode (a : TNode) (l : Int) : Option Int := if 0 ≤ l ∧ l ≤ 1048576 ∧ TNode.ok a then some (szL l (TNode.size a)) else none
theorem ei_lszNode (a : TNode) (l : Int) (k : Int → Option β) : Imp (F222 β a.xName a.xText a.xParent (rows kAttr TAttr.row a.xAttrs) l k) (lszNode a l) (fun r => k r) := by
  intro r h
  unfold lszNode at h
  split at h
  · rename_i c; cases h; exact szNode a l c.1 c.2.1 c.2.2 k
  · cases h
def ltoNode (a : TNode) : Option TNode := if TNode.size a ≤ 1048576 then some a else none
theorem ei_ltoNode (a : TNode) (k : List UInt8 → List UInt8 → Int → List V → Option β) : Imp (F224 β a.xName a.xText a.xParent (rows kAttr TAttr.row a.xAttrs) k) (ltoNode a) (fun r => k r.xName r.xText r.xParent (rows kAttr TAttr.row r.xAttrs)) := by
  intro r h
  unfold ltoNode at h
  split at h
  · rename_i c; cases h; exact toNode a c k
  · cases h
open Classical in noncomputable def leqNode (a b : TNode) : Option Bool := if TNode.ok a then some (decide (a = b)) else none
theorem ei_leqNode (a b : TNode) (k : Bool → Option β) : Imp (F226 β a.xName a.xText a.xParent (rows kAttr TAttr.row a.xAttrs) b.xName b.xText b.xParent (rows kAttr TAttr.row b.xAttrs) k) (leqNode a b) (fun r => k r) := by
  intro r h
  unfold leqNode at h
  split at h
  · rename_i c; cases h; refine (eqNode a b c k).trans ?_; congr
  · cases h
theorem szNodeS (a : List TNode) (l : Int) (h0 : 0 ≤ l) (h1 : l ≤ 1048576) (h : okL TNode.ok a) (k : Int → Option β) : F195 β (rows kNode TNode.row a) l k = k (szL l (a.length + sumL TNode.size a)) := by
  simp only [F195, P195, rows_len]
  refine szCut h0 h1 h.1 (fun m e h0 h1 => ?_)
  rw [e]
  refine while_sz (fun (i : Nat) (m : Int) => ([.l (rows kNode TNode.row a), .i m, .i (i : Int)] : List Leaf)) a TNode.size (fun m => (1, [.i m])) (fun i y m hi hm0 hm1 => ?_) (fun m => brN rirr rfl) (fun m => rfl) h0 h1 rfl
  have hlt : i < a.length := (List.getElem?_eq_some_iff.1 hi).1
  have hb := h.1
  unfold maxLen at hb
  rcases @szCase m y.size with ⟨c, e⟩ | ⟨c, e⟩
  · exact .inl ⟨_, c, brE (rlt hlt) (chkE (Int.natCast_nonneg _) (idxE (i := i) hi ((szNode y m hm0 hm1 (h.2 y (List.mem_of_getElem? hi)) _).trans (brE (by rw [e]; decide) rfl)))), rfl⟩
  · exact .inr ⟨c, brE (rlt hlt) (chkE (Int.natCast_nonneg _) (idxE (i := i) hi ((szNode y m hm0 hm1 (h.2 y (List.mem_of_getElem? hi)) _).trans (brN (by rw [e]; omega) (two (fun m j : Int => (some (Sum.inl ([.l (rows kNode TNode.row a), .i m, .i j] : List Leaf)) : Option (List Leaf ⊕ (Nat × List Leaf)))) e (wrapS (i := i) (by omega)))))))⟩
theorem toNodeS (a : List TNode) (h : a.length + sumL TNode.size a ≤ 1048576) (k : List V → Option β) : F200 β (rows kNode TNode.row a) k = k (rows kNode TNode.row a) := by
  simp only [F200, P200, rows_len, whileK, Int.toNat_natCast]
  refine chkE ⟨by omega, by omega, by omega, by omega⟩ ?_
  rw [while_each (fun i : Nat => ([.l (rows kNode TNode.row a), .l (rows kNode TNode.row (copyS a TNode.nul i)), .i (i : Int)] : List Leaf)) a (0, [.l (rows kNode TNode.row a)]) ?h1 ?h2 _ ?hs]
  case hs => rw [← rows_copy0 rfl]; rfl
  case h1 =>
    intro i y hi
    have hlt : i < a.length := (List.getElem?_eq_some_iff.1 hi).1
    have hl := copyS_len (a := a) (n := TNode.nul) (i := i) (by omega)
    have hm := sumL_mem (f := TNode.size) (List.mem_of_getElem? hi)
    refine brE (rlt hlt) (chkE (Int.natCast_nonneg _) (idxE (i := i) hi ((toNode y (by omega) _).trans (chkE ⟨Int.natCast_nonneg _, ?_⟩ (storeE (g := TNode.row) (y := y) (i := i) rfl (Nat.lt_of_lt_of_eq hlt hl.symm) ?_)))))
    · show (Int.toNat (i : Int)) < (rows kNode TNode.row (copyS a TNode.nul i)).length
      rw [rows_len]; exact Nat.lt_of_lt_of_eq hlt hl.symm
    · exact two (fun (c : List TNode) (j : Int) => (some (Sum.inl ([.l (rows kNode TNode.row a), .l (rows kNode TNode.row c), .i j] : List Leaf)) : Option (List Leaf ⊕ (Nat × List Leaf)))) (copyS_set hi) (wrapS (i := i) (by omega))
  case h2 =>
    rw [copyS_end]
    exact brN rirr rfl
  · rfl
theorem eqNodeS (a b : List TNode) (h : okL TNode.ok a) (k : Bool → Option β) : F205 β (rows kNode TNode.row a) (rows kNode TNode.row b) k = k (decide (a = b)) := by
  simp only [F205, P205]
  refine eqLen (rows_len ..) (rows_len ..) (fun hl => ?_)
  refine while_eq (fun i : Nat => ([.l (rows kNode TNode.row a), .l (rows kNode TNode.row b), .i (i : Int)] : List Leaf)) a b hl (fun i x y hi hx hy => ?_) (brN rirr rfl) rfl rfl rfl
  have hb := h.1
  unfold maxLen at hb
  exact brE (rlt hi) (chkE (Int.natCast_nonneg _) (idxE (i := i) hx (chkE (Int.natCast_nonneg _) (idxE (i := i) hy ((eqNode x y (h.2 x (List.mem_of_getElem? hx)) _).trans (brB rfl rfl (congrArg (fun j : Int => (some (Sum.inl ([.l (rows kNode TNode.row a), .l (rows kNode TNode.row b), .i j] : List Leaf)) : Option (List Leaf ⊕ (Nat × List Leaf)))) (wrapS (i := i) (by omega)))))))))
open Classical in noncomputable def lszNodeS (a : List TNode) (l : Int) : Option Int := if 0 ≤ l ∧ l ≤ 1048576 ∧ okL TNode.ok a then some (szL l (a.length + sumL TNode.size a)) else none
theorem ei_lszNodeS (a : List TNode) (l : Int) (k : Int → Option β) : Imp (F195 β (rows kNode TNode.row a) l k) (lszNodeS a l) (fun r => k r) := by
  intro r h
  unfold lszNodeS at h
  split at h
  · rename_i c; cases h; exact szNodeS a l c.1 c.2.1 c.2.2 k
  · cases h
def ltoNodeS (a : List TNode) : Option (List TNode) := if a.length + sumL TNode.size a ≤ 1048576 then some a else none
theorem ei_ltoNodeS (a : List TNode) (k : List V → Option β) : Imp (F200 β (rows kNode TNode.row a) k) (ltoNodeS a) (fun r => k (rows kNode TNode.row r)) := by
  intro r h
  unfold ltoNodeS at h
  split at h
  · rename_i c; cases h; exact toNodeS a c k
  · cases h
open Classical in noncomputable def leqNodeS (a b : List TNode) : Option Bool := if okL TNode.ok a then some (decide (a = b)) else none
theorem ei_leqNodeS (a b : List TNode) (k : Bool → Option β) : Imp (F205 β (rows kNode TNode.row a) (rows kNode TNode.row b) k) (leqNodeS a b) (fun r => k r) := by
  intro r h
  unfold leqNodeS at h
  split at h
  · rename_i c; cases h; refine (eqNodeS a b c k).trans ?_; congr
  · cases h

/-! ### Builder -/
def TBuilder.nul : TBuilder := ⟨[], []⟩
def TBuilder.size (a : TBuilder) : Nat := (a.xNodes.length + sumL TNode.size a.xNodes) + (a.xOpen.length + (0))
def TBuilder.ok (a : TBuilder) : Prop := okL TNode.ok a.xNodes ∧ okL okI a.xOpen ∧ True
theorem szBuilder (a : TBuilder) (l : Int) (h0 : 0 ≤ l) (h1 : l ≤ 1048576) (h : a.ok) (k : Int → Option β) : F149 β (rows kNode TNode.row a.xNodes) (rInt a.xOpen) l k = k (szL l a.size) := by
  obtain ⟨q0, q1, _⟩ := h
  unfold TBuilder.size
  simp only [F149, P149]
  refine (szNodeS a.xNodes _ h0 h1 q0 _).trans (szSub h0 h1 (fun m0 e0 h0 h1 => ?_))
  rw [e0]
  refine (szIntS a.xOpen _ h0 h1 q1 _).trans (szSub h0 h1 (fun m1 e1 h0 h1 => ?_))
  rw [e1]
  exact szEnd h0
theorem toBuilder (a : TBuilder) (h : a.size ≤ 1048576) (k : List V → List V → Option β) : F157 β (rows kNode TNode.row a.xNodes) (rInt a.xOpen) k = k (rows kNode TNode.row a.xNodes) (rInt a.xOpen) := by
  unfold TBuilder.size at h
  simp only [F157, P157]
  exact (toNodeS a.xNodes (by omega) _).trans ((toIntS a.xOpen (by omega) _).trans (rfl))
theorem eqBuilder_iff (a b : TBuilder) : (decide (a.xNodes = b.xNodes) && (decide (a.xOpen = b.xOpen) && (true))) = decide (a = b) := by
  cases a; cases b
  rw [Bool.eq_iff_iff]
  simp only [TBuilder.mk.injEq, Bool.and_true, Bool.and_eq_true, beq_iff_eq, decide_eq_true_eq]
theorem eqBuilder (a b : TBuilder) (h : a.ok) (k : Bool → Option β) : F165 β (rows kNode TNode.row a.xNodes) (rInt a.xOpen) (rows kNode TNode.row b.xNodes) (rInt b.xOpen) k = k (decide (a = b)) := by
  obtain ⟨q0, q1, _⟩ := h
  simp only [F165, P165]
  refine Eq.trans (b := k (decide (a.xNodes = b.xNodes) && (decide (a.xOpen = b.xOpen) && (true)))) ?_ (congrArg k (eqBuilder_iff a b))
  refine (eqNodeS a.xNodes b.xNodes q0 _).trans (eqCut ?_)
  refine (eqIntS a.xOpen b.xOpen q1 _).trans (eqCut ?_)
  rfl
open Classical in noncomputable def lszBuilder (a : TBuilder) (l : Int) : Option Int := if 0 ≤ l ∧ l ≤ 1048576 ∧ TBuilder.ok a then some (szL l (TBuilder.size a)) else none
theorem ei_lszBuilder (a : TBuilder) (l : Int) (k : Int → Option β) : Imp (F149 β (rows kNode TNode.row a.xNodes) (rInt a.xOpen) l k) (lszBuilder a l) (fun r => k r) := by
  intro r h
  unfold lszBuilder at h
  split at h
  · rename_i c; cases h; exact szBuilder a l c.1 c.2.1 c.2.2 k
  · cases h
def ltoBuilder (a : TBuilder) : Option TBuilder := if TBuilder.size a ≤ 1048576 then some a else none
theorem ei_ltoBuilder (a : TBuilder) (k : List V → List V → Option β) : Imp (F157 β (rows kNode TNode.row a.xNodes) (rInt a.xOpen) k) (ltoBuilder a) (fun r => k (rows kNode TNode.row r.xNodes) (rInt r.xOpen)) := by
  intro r h
  unfold ltoBuilder at h
  split at h
  · rename_i c; cases h; exact toBuilder a c k
  · cases h
open Classical in noncomputable def leqBuilder (a b : TBuilder) : Option Bool := if TBuilder.ok a then some (decide (a = b)) else none
theorem ei_leqBuilder (a b : TBuilder) (k : Bool → Option β) : Imp (F165 β (rows kNode TNode.row a.xNodes) (rInt a.xOpen) (rows kNode TNode.row b.xNodes) (rInt b.xOpen) k) (leqBuilder a b) (fun r => k r) := by
  intro r h
  unfold leqBuilder at h
  split at h
  · rename_i c; cases h; refine (eqBuilder a b c k).trans ?_; congr
  · cases h

/-! ### Slot -/
def TSlot.nul : TSlot := ⟨0, TAddr.nul, [], 0, false, 0, []⟩
def TSlot.size (a : TSlot) : Nat := TAddr.size a.xTo + (a.xDigest.length + (a.xBody.length + (0)))
def TSlot.ok (a : TSlot) : Prop := okI a.xMode ∧ TAddr.ok a.xTo ∧ okS a.xDigest ∧ okI a.xNode ∧ True ∧ okI a.xCode ∧ okS a.xBody ∧ True
theorem szSlot (a : TSlot) (l : Int) (h0 : 0 ≤ l) (h1 : l ≤ 1048576) (h : a.ok) (k : Int → Option β) : F197 β a.xMode a.xTo.xHost a.xTo.xPath a.xDigest a.xNode a.xDone a.xCode a.xBody l k = k (szL l a.size) := by
  obtain ⟨q0, q1, q2, q3, q4, q5, q6, _⟩ := h
  unfold TSlot.size
  simp only [F197, P197]
  refine (szAddr a.xTo _ h0 h1 q1 _).trans (szSub h0 h1 (fun m1 e1 h0 h1 => ?_))
  rw [e1]
  refine szCut h0 h1 q2 (fun m2 e2 h0 h1 => ?_)
  rw [e2]
  refine szCut h0 h1 q6 (fun m6 e6 h0 h1 => ?_)
  rw [e6]
  exact szEnd h0
theorem toSlot (a : TSlot) (h : a.size ≤ 1048576) (k : Int → List UInt8 → List UInt8 → List UInt8 → Int → Bool → Int → List UInt8 → Option β) : F202 β a.xMode a.xTo.xHost a.xTo.xPath a.xDigest a.xNode a.xDone a.xCode a.xBody k = k a.xMode a.xTo.xHost a.xTo.xPath a.xDigest a.xNode a.xDone a.xCode a.xBody := by
  unfold TSlot.size at h
  simp only [F202, P202]
  exact (toAddr a.xTo (by omega) _).trans (rfl)
theorem eqSlot_iff (a b : TSlot) : ((a.xMode == b.xMode) && (decide (a.xTo = b.xTo) && ((a.xDigest == b.xDigest) && ((a.xNode == b.xNode) && ((a.xDone == b.xDone) && ((a.xCode == b.xCode) && ((a.xBody == b.xBody) && (true)))))))) = decide (a = b) := by
  cases a; cases b
  rw [Bool.eq_iff_iff]
  simp only [TSlot.mk.injEq, Bool.and_true, Bool.and_eq_true, beq_iff_eq, decide_eq_true_eq]
theorem eqSlot (a b : TSlot) (h : a.ok) (k : Bool → Option β) : F207 β a.xMode a.xTo.xHost a.xTo.xPath a.xDigest a.xNode a.xDone a.xCode a.xBody b.xMode b.xTo.xHost b.xTo.xPath b.xDigest b.xNode b.xDone b.xCode b.xBody k = k (decide (a = b)) := by
  obtain ⟨q0, q1, q2, q3, q4, q5, q6, _⟩ := h
  simp only [F207, P207]
  refine Eq.trans (b := k ((a.xMode == b.xMode) && (decide (a.xTo = b.xTo) && ((a.xDigest == b.xDigest) && ((a.xNode == b.xNode) && ((a.xDone == b.xDone) && ((a.xCode == b.xCode) && ((a.xBody == b.xBody) && (true))))))))) ?_ (congrArg k (eqSlot_iff a b))
  refine eqCut ?_
  refine (eqAddr a.xTo b.xTo q1 _).trans (eqCut ?_)
  refine eqCut ?_
  refine eqCut ?_
  refine eqCut ?_
  refine eqCut ?_
  refine eqCut ?_
  rfl
open Classical in noncomputable def lszSlot (a : TSlot) (l : Int) : Option Int := if 0 ≤ l ∧ l ≤ 1048576 ∧ TSlot.ok a then some (szL l (TSlot.size a)) else none
theorem ei_lszSlot (a : TSlot) (l : Int) (k : Int → Option β) : Imp (F197 β a.xMode a.xTo.xHost a.xTo.xPath a.xDigest a.xNode a.xDone a.xCode a.xBody l k) (lszSlot a l) (fun r => k r) := by
  intro r h
  unfold lszSlot at h
  split at h
  · rename_i c; cases h; exact szSlot a l c.1 c.2.1 c.2.2 k
  · cases h
def ltoSlot (a : TSlot) : Option TSlot := if TSlot.size a ≤ 1048576 then some a else none
theorem ei_ltoSlot (a : TSlot) (k : Int → List UInt8 → List UInt8 → List UInt8 → Int → Bool → Int → List UInt8 → Option β) : Imp (F202 β a.xMode a.xTo.xHost a.xTo.xPath a.xDigest a.xNode a.xDone a.xCode a.xBody k) (ltoSlot a) (fun r => k r.xMode r.xTo.xHost r.xTo.xPath r.xDigest r.xNode r.xDone r.xCode r.xBody) := by
  intro r h
  unfold ltoSlot at h
  split at h
  · rename_i c; cases h; exact toSlot a c k
  · cases h
open Classical in noncomputable def leqSlot (a b : TSlot) : Option Bool := if TSlot.ok a then some (decide (a = b)) else none
theorem ei_leqSlot (a b : TSlot) (k : Bool → Option β) : Imp (F207 β a.xMode a.xTo.xHost a.xTo.xPath a.xDigest a.xNode a.xDone a.xCode a.xBody b.xMode b.xTo.xHost b.xTo.xPath b.xDigest b.xNode b.xDone b.xCode b.xBody k) (leqSlot a b) (fun r => k r) := by
  intro r h
  unfold leqSlot at h
  split at h
  · rename_i c; cases h; refine (eqSlot a b c k).trans ?_; congr
  · cases h
theorem szSlotS (a : List TSlot) (l : Int) (h0 : 0 ≤ l) (h1 : l ≤ 1048576) (h : okL TSlot.ok a) (k : Int → Option β) : F150 β (rows kSlot TSlot.row a) l k = k (szL l (a.length + sumL TSlot.size a)) := by
  simp only [F150, P150, rows_len]
  refine szCut h0 h1 h.1 (fun m e h0 h1 => ?_)
  rw [e]
  refine while_sz (fun (i : Nat) (m : Int) => ([.l (rows kSlot TSlot.row a), .i m, .i (i : Int)] : List Leaf)) a TSlot.size (fun m => (1, [.i m])) (fun i y m hi hm0 hm1 => ?_) (fun m => brN rirr rfl) (fun m => rfl) h0 h1 rfl
  have hlt : i < a.length := (List.getElem?_eq_some_iff.1 hi).1
  have hb := h.1
  unfold maxLen at hb
  rcases @szCase m y.size with ⟨c, e⟩ | ⟨c, e⟩
  · exact .inl ⟨_, c, brE (rlt hlt) (chkE (Int.natCast_nonneg _) (idxE (i := i) hi ((szSlot y m hm0 hm1 (h.2 y (List.mem_of_getElem? hi)) _).trans (brE (by rw [e]; decide) rfl)))), rfl⟩
  · exact .inr ⟨c, brE (rlt hlt) (chkE (Int.natCast_nonneg _) (idxE (i := i) hi ((szSlot y m hm0 hm1 (h.2 y (List.mem_of_getElem? hi)) _).trans (brN (by rw [e]; omega) (two (fun m j : Int => (some (Sum.inl ([.l (rows kSlot TSlot.row a), .i m, .i j] : List Leaf)) : Option (List Leaf ⊕ (Nat × List Leaf)))) e (wrapS (i := i) (by omega)))))))⟩
theorem toSlotS (a : List TSlot) (h : a.length + sumL TSlot.size a ≤ 1048576) (k : List V → Option β) : F158 β (rows kSlot TSlot.row a) k = k (rows kSlot TSlot.row a) := by
  simp only [F158, P158, rows_len, whileK, Int.toNat_natCast]
  refine chkE ⟨by omega, by omega, by omega, by omega⟩ ?_
  rw [while_each (fun i : Nat => ([.l (rows kSlot TSlot.row a), .l (rows kSlot TSlot.row (copyS a TSlot.nul i)), .i (i : Int)] : List Leaf)) a (0, [.l (rows kSlot TSlot.row a)]) ?h1 ?h2 _ ?hs]
  case hs => rw [← rows_copy0 rfl]; rfl
  case h1 =>
    intro i y hi
    have hlt : i < a.length := (List.getElem?_eq_some_iff.1 hi).1
    have hl := copyS_len (a := a) (n := TSlot.nul) (i := i) (by omega)
    have hm := sumL_mem (f := TSlot.size) (List.mem_of_getElem? hi)
    refine brE (rlt hlt) (chkE (Int.natCast_nonneg _) (idxE (i := i) hi ((toSlot y (by omega) _).trans (chkE ⟨Int.natCast_nonneg _, ?_⟩ (storeE (g := TSlot.row) (y := y) (i := i) rfl (Nat.lt_of_lt_of_eq hlt hl.symm) ?_)))))
    · show (Int.toNat (i : Int)) < (rows kSlot TSlot.row (copyS a TSlot.nul i)).length
      rw [rows_len]; exact Nat.lt_of_lt_of_eq hlt hl.symm
    · exact two (fun (c : List TSlot) (j : Int) => (some (Sum.inl ([.l (rows kSlot TSlot.row a), .l (rows kSlot TSlot.row c), .i j] : List Leaf)) : Option (List Leaf ⊕ (Nat × List Leaf)))) (copyS_set hi) (wrapS (i := i) (by omega))
  case h2 =>
    rw [copyS_end]
    exact brN rirr rfl
  · rfl
theorem eqSlotS (a b : List TSlot) (h : okL TSlot.ok a) (k : Bool → Option β) : F166 β (rows kSlot TSlot.row a) (rows kSlot TSlot.row b) k = k (decide (a = b)) := by
  simp only [F166, P166]
  refine eqLen (rows_len ..) (rows_len ..) (fun hl => ?_)
  refine while_eq (fun i : Nat => ([.l (rows kSlot TSlot.row a), .l (rows kSlot TSlot.row b), .i (i : Int)] : List Leaf)) a b hl (fun i x y hi hx hy => ?_) (brN rirr rfl) rfl rfl rfl
  have hb := h.1
  unfold maxLen at hb
  exact brE (rlt hi) (chkE (Int.natCast_nonneg _) (idxE (i := i) hx (chkE (Int.natCast_nonneg _) (idxE (i := i) hy ((eqSlot x y (h.2 x (List.mem_of_getElem? hx)) _).trans (brB rfl rfl (congrArg (fun j : Int => (some (Sum.inl ([.l (rows kSlot TSlot.row a), .l (rows kSlot TSlot.row b), .i j] : List Leaf)) : Option (List Leaf ⊕ (Nat × List Leaf)))) (wrapS (i := i) (by omega)))))))))
open Classical in noncomputable def lszSlotS (a : List TSlot) (l : Int) : Option Int := if 0 ≤ l ∧ l ≤ 1048576 ∧ okL TSlot.ok a then some (szL l (a.length + sumL TSlot.size a)) else none
theorem ei_lszSlotS (a : List TSlot) (l : Int) (k : Int → Option β) : Imp (F150 β (rows kSlot TSlot.row a) l k) (lszSlotS a l) (fun r => k r) := by
  intro r h
  unfold lszSlotS at h
  split at h
  · rename_i c; cases h; exact szSlotS a l c.1 c.2.1 c.2.2 k
  · cases h
def ltoSlotS (a : List TSlot) : Option (List TSlot) := if a.length + sumL TSlot.size a ≤ 1048576 then some a else none
theorem ei_ltoSlotS (a : List TSlot) (k : List V → Option β) : Imp (F158 β (rows kSlot TSlot.row a) k) (ltoSlotS a) (fun r => k (rows kSlot TSlot.row r)) := by
  intro r h
  unfold ltoSlotS at h
  split at h
  · rename_i c; cases h; exact toSlotS a c k
  · cases h
open Classical in noncomputable def leqSlotS (a b : List TSlot) : Option Bool := if okL TSlot.ok a then some (decide (a = b)) else none
theorem ei_leqSlotS (a b : List TSlot) (k : Bool → Option β) : Imp (F166 β (rows kSlot TSlot.row a) (rows kSlot TSlot.row b) k) (leqSlotS a b) (fun r => k r) := by
  intro r h
  unfold leqSlotS at h
  split at h
  · rename_i c; cases h; refine (eqSlotS a b c k).trans ?_; congr
  · cases h

/-! ### Module -/
def TModule.nul : TModule := ⟨TAddr.nul, false, 0, []⟩
def TModule.size (a : TModule) : Nat := TAddr.size a.xTo + (a.xBody.length + (0))
def TModule.ok (a : TModule) : Prop := TAddr.ok a.xTo ∧ True ∧ okI a.xCode ∧ okS a.xBody ∧ True
theorem szModule (a : TModule) (l : Int) (h0 : 0 ≤ l) (h1 : l ≤ 1048576) (h : a.ok) (k : Int → Option β) : F198 β a.xTo.xHost a.xTo.xPath a.xDone a.xCode a.xBody l k = k (szL l a.size) := by
  obtain ⟨q0, q1, q2, q3, _⟩ := h
  unfold TModule.size
  simp only [F198, P198]
  refine (szAddr a.xTo _ h0 h1 q0 _).trans (szSub h0 h1 (fun m0 e0 h0 h1 => ?_))
  rw [e0]
  refine szCut h0 h1 q3 (fun m3 e3 h0 h1 => ?_)
  rw [e3]
  exact szEnd h0
theorem toModule (a : TModule) (h : a.size ≤ 1048576) (k : List UInt8 → List UInt8 → Bool → Int → List UInt8 → Option β) : F203 β a.xTo.xHost a.xTo.xPath a.xDone a.xCode a.xBody k = k a.xTo.xHost a.xTo.xPath a.xDone a.xCode a.xBody := by
  unfold TModule.size at h
  simp only [F203, P203]
  exact (toAddr a.xTo (by omega) _).trans (rfl)
theorem eqModule_iff (a b : TModule) : (decide (a.xTo = b.xTo) && ((a.xDone == b.xDone) && ((a.xCode == b.xCode) && ((a.xBody == b.xBody) && (true))))) = decide (a = b) := by
  cases a; cases b
  rw [Bool.eq_iff_iff]
  simp only [TModule.mk.injEq, Bool.and_true, Bool.and_eq_true, beq_iff_eq, decide_eq_true_eq]
theorem eqModule (a b : TModule) (h : a.ok) (k : Bool → Option β) : F208 β a.xTo.xHost a.xTo.xPath a.xDone a.xCode a.xBody b.xTo.xHost b.xTo.xPath b.xDone b.xCode b.xBody k = k (decide (a = b)) := by
  obtain ⟨q0, q1, q2, q3, _⟩ := h
  simp only [F208, P208]
  refine Eq.trans (b := k (decide (a.xTo = b.xTo) && ((a.xDone == b.xDone) && ((a.xCode == b.xCode) && ((a.xBody == b.xBody) && (true)))))) ?_ (congrArg k (eqModule_iff a b))
  refine (eqAddr a.xTo b.xTo q0 _).trans (eqCut ?_)
  refine eqCut ?_
  refine eqCut ?_
  refine eqCut ?_
  rfl
open Classical in noncomputable def lszModule (a : TModule) (l : Int) : Option Int := if 0 ≤ l ∧ l ≤ 1048576 ∧ TModule.ok a then some (szL l (TModule.size a)) else none
theorem ei_lszModule (a : TModule) (l : Int) (k : Int → Option β) : Imp (F198 β a.xTo.xHost a.xTo.xPath a.xDone a.xCode a.xBody l k) (lszModule a l) (fun r => k r) := by
  intro r h
  unfold lszModule at h
  split at h
  · rename_i c; cases h; exact szModule a l c.1 c.2.1 c.2.2 k
  · cases h
def ltoModule (a : TModule) : Option TModule := if TModule.size a ≤ 1048576 then some a else none
theorem ei_ltoModule (a : TModule) (k : List UInt8 → List UInt8 → Bool → Int → List UInt8 → Option β) : Imp (F203 β a.xTo.xHost a.xTo.xPath a.xDone a.xCode a.xBody k) (ltoModule a) (fun r => k r.xTo.xHost r.xTo.xPath r.xDone r.xCode r.xBody) := by
  intro r h
  unfold ltoModule at h
  split at h
  · rename_i c; cases h; exact toModule a c k
  · cases h
open Classical in noncomputable def leqModule (a b : TModule) : Option Bool := if TModule.ok a then some (decide (a = b)) else none
theorem ei_leqModule (a b : TModule) (k : Bool → Option β) : Imp (F208 β a.xTo.xHost a.xTo.xPath a.xDone a.xCode a.xBody b.xTo.xHost b.xTo.xPath b.xDone b.xCode b.xBody k) (leqModule a b) (fun r => k r) := by
  intro r h
  unfold leqModule at h
  split at h
  · rename_i c; cases h; refine (eqModule a b c k).trans ?_; congr
  · cases h
theorem szModuleS (a : List TModule) (l : Int) (h0 : 0 ≤ l) (h1 : l ≤ 1048576) (h : okL TModule.ok a) (k : Int → Option β) : F151 β (rows kModule TModule.row a) l k = k (szL l (a.length + sumL TModule.size a)) := by
  simp only [F151, P151, rows_len]
  refine szCut h0 h1 h.1 (fun m e h0 h1 => ?_)
  rw [e]
  refine while_sz (fun (i : Nat) (m : Int) => ([.l (rows kModule TModule.row a), .i m, .i (i : Int)] : List Leaf)) a TModule.size (fun m => (1, [.i m])) (fun i y m hi hm0 hm1 => ?_) (fun m => brN rirr rfl) (fun m => rfl) h0 h1 rfl
  have hlt : i < a.length := (List.getElem?_eq_some_iff.1 hi).1
  have hb := h.1
  unfold maxLen at hb
  rcases @szCase m y.size with ⟨c, e⟩ | ⟨c, e⟩
  · exact .inl ⟨_, c, brE (rlt hlt) (chkE (Int.natCast_nonneg _) (idxE (i := i) hi ((szModule y m hm0 hm1 (h.2 y (List.mem_of_getElem? hi)) _).trans (brE (by rw [e]; decide) rfl)))), rfl⟩
  · exact .inr ⟨c, brE (rlt hlt) (chkE (Int.natCast_nonneg _) (idxE (i := i) hi ((szModule y m hm0 hm1 (h.2 y (List.mem_of_getElem? hi)) _).trans (brN (by rw [e]; omega) (two (fun m j : Int => (some (Sum.inl ([.l (rows kModule TModule.row a), .i m, .i j] : List Leaf)) : Option (List Leaf ⊕ (Nat × List Leaf)))) e (wrapS (i := i) (by omega)))))))⟩
theorem toModuleS (a : List TModule) (h : a.length + sumL TModule.size a ≤ 1048576) (k : List V → Option β) : F159 β (rows kModule TModule.row a) k = k (rows kModule TModule.row a) := by
  simp only [F159, P159, rows_len, whileK, Int.toNat_natCast]
  refine chkE ⟨by omega, by omega, by omega, by omega⟩ ?_
  rw [while_each (fun i : Nat => ([.l (rows kModule TModule.row a), .l (rows kModule TModule.row (copyS a TModule.nul i)), .i (i : Int)] : List Leaf)) a (0, [.l (rows kModule TModule.row a)]) ?h1 ?h2 _ ?hs]
  case hs => rw [← rows_copy0 rfl]; rfl
  case h1 =>
    intro i y hi
    have hlt : i < a.length := (List.getElem?_eq_some_iff.1 hi).1
    have hl := copyS_len (a := a) (n := TModule.nul) (i := i) (by omega)
    have hm := sumL_mem (f := TModule.size) (List.mem_of_getElem? hi)
    refine brE (rlt hlt) (chkE (Int.natCast_nonneg _) (idxE (i := i) hi ((toModule y (by omega) _).trans (chkE ⟨Int.natCast_nonneg _, ?_⟩ (storeE (g := TModule.row) (y := y) (i := i) rfl (Nat.lt_of_lt_of_eq hlt hl.symm) ?_)))))
    · show (Int.toNat (i : Int)) < (rows kModule TModule.row (copyS a TModule.nul i)).length
      rw [rows_len]; exact Nat.lt_of_lt_of_eq hlt hl.symm
    · exact two (fun (c : List TModule) (j : Int) => (some (Sum.inl ([.l (rows kModule TModule.row a), .l (rows kModule TModule.row c), .i j] : List Leaf)) : Option (List Leaf ⊕ (Nat × List Leaf)))) (copyS_set hi) (wrapS (i := i) (by omega))
  case h2 =>
    rw [copyS_end]
    exact brN rirr rfl
  · rfl
theorem eqModuleS (a b : List TModule) (h : okL TModule.ok a) (k : Bool → Option β) : F167 β (rows kModule TModule.row a) (rows kModule TModule.row b) k = k (decide (a = b)) := by
  simp only [F167, P167]
  refine eqLen (rows_len ..) (rows_len ..) (fun hl => ?_)
  refine while_eq (fun i : Nat => ([.l (rows kModule TModule.row a), .l (rows kModule TModule.row b), .i (i : Int)] : List Leaf)) a b hl (fun i x y hi hx hy => ?_) (brN rirr rfl) rfl rfl rfl
  have hb := h.1
  unfold maxLen at hb
  exact brE (rlt hi) (chkE (Int.natCast_nonneg _) (idxE (i := i) hx (chkE (Int.natCast_nonneg _) (idxE (i := i) hy ((eqModule x y (h.2 x (List.mem_of_getElem? hx)) _).trans (brB rfl rfl (congrArg (fun j : Int => (some (Sum.inl ([.l (rows kModule TModule.row a), .l (rows kModule TModule.row b), .i j] : List Leaf)) : Option (List Leaf ⊕ (Nat × List Leaf)))) (wrapS (i := i) (by omega)))))))))
open Classical in noncomputable def lszModuleS (a : List TModule) (l : Int) : Option Int := if 0 ≤ l ∧ l ≤ 1048576 ∧ okL TModule.ok a then some (szL l (a.length + sumL TModule.size a)) else none
theorem ei_lszModuleS (a : List TModule) (l : Int) (k : Int → Option β) : Imp (F151 β (rows kModule TModule.row a) l k) (lszModuleS a l) (fun r => k r) := by
  intro r h
  unfold lszModuleS at h
  split at h
  · rename_i c; cases h; exact szModuleS a l c.1 c.2.1 c.2.2 k
  · cases h
def ltoModuleS (a : List TModule) : Option (List TModule) := if a.length + sumL TModule.size a ≤ 1048576 then some a else none
theorem ei_ltoModuleS (a : List TModule) (k : List V → Option β) : Imp (F159 β (rows kModule TModule.row a) k) (ltoModuleS a) (fun r => k (rows kModule TModule.row r)) := by
  intro r h
  unfold ltoModuleS at h
  split at h
  · rename_i c; cases h; exact toModuleS a c k
  · cases h
open Classical in noncomputable def leqModuleS (a b : List TModule) : Option Bool := if okL TModule.ok a then some (decide (a = b)) else none
theorem ei_leqModuleS (a b : List TModule) (k : Bool → Option β) : Imp (F167 β (rows kModule TModule.row a) (rows kModule TModule.row b) k) (leqModuleS a b) (fun r => k r) := by
  intro r h
  unfold leqModuleS at h
  split at h
  · rename_i c; cases h; refine (eqModuleS a b c k).trans ?_; congr
  · cases h

/-! ### Page -/
def TPage.nul : TPage := ⟨TAddr.nul, TPolicy.nul, TTokenizer.nul, [], false, TBuilder.nul, [], [], [], 0, 0, 0, 0, [], [], false⟩
def TPage.size (a : TPage) : Nat := TAddr.size a.xAddr + (TPolicy.size a.xPolicy + (TTokenizer.size a.xTok + ((a.xQueue.length + sumL TToken.size a.xQueue) + (TBuilder.size a.xBuilder + ((a.xSlots.length + sumL TSlot.size a.xSlots) + ((a.xMods.length + sumL TModule.size a.xMods) + ((a.xEntries.length + sumL TAddr.size a.xEntries) + ((a.xRan.length + sumL TAddr.size a.xRan) + ((a.xLog.length + sumL List.length a.xLog) + (0))))))))))
def TPage.ok (a : TPage) : Prop := TAddr.ok a.xAddr ∧ TPolicy.ok a.xPolicy ∧ TTokenizer.ok a.xTok ∧ okL TToken.ok a.xQueue ∧ True ∧ TBuilder.ok a.xBuilder ∧ okL TSlot.ok a.xSlots ∧ okL TModule.ok a.xMods ∧ okL TAddr.ok a.xEntries ∧ okI a.xBlock ∧ okI a.xInline ∧ okI a.xDeferred ∧ okI a.xEntered ∧ okL TAddr.ok a.xRan ∧ okL okS a.xLog ∧ True ∧ True
theorem szPage (a : TPage) (l : Int) (h0 : 0 ≤ l) (h1 : l ≤ 1048576) (h : a.ok) (k : Int → Option β) : F131 β a.xAddr.xHost a.xAddr.xPath a.xPolicy.xSet (rStr a.xPolicy.xScripts) (rStr a.xPolicy.xStyles) (rStr a.xPolicy.xImages) a.xPolicy.xNonce a.xTok.xRest (rows kToken TToken.row a.xQueue) a.xEnded (rows kNode TNode.row a.xBuilder.xNodes) (rInt a.xBuilder.xOpen) (rows kSlot TSlot.row a.xSlots) (rows kModule TModule.row a.xMods) (rows kAddr TAddr.row a.xEntries) a.xBlock a.xInline a.xDeferred a.xEntered (rows kAddr TAddr.row a.xRan) (rStr a.xLog) a.xLoaded l k = k (szL l a.size) := by
  obtain ⟨q0, q1, q2, q3, q4, q5, q6, q7, q8, q9, q10, q11, q12, q13, q14, q15, _⟩ := h
  unfold TPage.size
  simp only [F131, P131]
  refine (szAddr a.xAddr _ h0 h1 q0 _).trans (szSub h0 h1 (fun m0 e0 h0 h1 => ?_))
  rw [e0]
  refine (szPolicy a.xPolicy _ h0 h1 q1 _).trans (szSub h0 h1 (fun m1 e1 h0 h1 => ?_))
  rw [e1]
  refine (szTokenizer a.xTok _ h0 h1 q2 _).trans (szSub h0 h1 (fun m2 e2 h0 h1 => ?_))
  rw [e2]
  refine (szTokenS a.xQueue _ h0 h1 q3 _).trans (szSub h0 h1 (fun m3 e3 h0 h1 => ?_))
  rw [e3]
  refine (szBuilder a.xBuilder _ h0 h1 q5 _).trans (szSub h0 h1 (fun m5 e5 h0 h1 => ?_))
  rw [e5]
  refine (szSlotS a.xSlots _ h0 h1 q6 _).trans (szSub h0 h1 (fun m6 e6 h0 h1 => ?_))
  rw [e6]
  refine (szModuleS a.xMods _ h0 h1 q7 _).trans (szSub h0 h1 (fun m7 e7 h0 h1 => ?_))
  rw [e7]
  refine (szAddrS a.xEntries _ h0 h1 q8 _).trans (szSub h0 h1 (fun m8 e8 h0 h1 => ?_))
  rw [e8]
  refine (szAddrS a.xRan _ h0 h1 q13 _).trans (szSub h0 h1 (fun m13 e13 h0 h1 => ?_))
  rw [e13]
  refine (szStringS a.xLog _ h0 h1 q14 _).trans (szSub h0 h1 (fun m14 e14 h0 h1 => ?_))
  rw [e14]
  exact szEnd h0
theorem toPage (a : TPage) (h : a.size ≤ 1048576) (k : List UInt8 → List UInt8 → Bool → List V → List V → List V → List UInt8 → List UInt8 → List V → Bool → List V → List V → List V → List V → List V → Int → Int → Int → Int → List V → List V → Bool → Option β) : F132 β a.xAddr.xHost a.xAddr.xPath a.xPolicy.xSet (rStr a.xPolicy.xScripts) (rStr a.xPolicy.xStyles) (rStr a.xPolicy.xImages) a.xPolicy.xNonce a.xTok.xRest (rows kToken TToken.row a.xQueue) a.xEnded (rows kNode TNode.row a.xBuilder.xNodes) (rInt a.xBuilder.xOpen) (rows kSlot TSlot.row a.xSlots) (rows kModule TModule.row a.xMods) (rows kAddr TAddr.row a.xEntries) a.xBlock a.xInline a.xDeferred a.xEntered (rows kAddr TAddr.row a.xRan) (rStr a.xLog) a.xLoaded k = k a.xAddr.xHost a.xAddr.xPath a.xPolicy.xSet (rStr a.xPolicy.xScripts) (rStr a.xPolicy.xStyles) (rStr a.xPolicy.xImages) a.xPolicy.xNonce a.xTok.xRest (rows kToken TToken.row a.xQueue) a.xEnded (rows kNode TNode.row a.xBuilder.xNodes) (rInt a.xBuilder.xOpen) (rows kSlot TSlot.row a.xSlots) (rows kModule TModule.row a.xMods) (rows kAddr TAddr.row a.xEntries) a.xBlock a.xInline a.xDeferred a.xEntered (rows kAddr TAddr.row a.xRan) (rStr a.xLog) a.xLoaded := by
  unfold TPage.size at h
  simp only [F132, P132]
  exact (toAddr a.xAddr (by omega) _).trans ((toPolicy a.xPolicy (by omega) _).trans ((toTokenizer a.xTok (by omega) _).trans ((toTokenS a.xQueue (by omega) _).trans ((toBuilder a.xBuilder (by omega) _).trans ((toSlotS a.xSlots (by omega) _).trans ((toModuleS a.xMods (by omega) _).trans ((toAddrS a.xEntries (by omega) _).trans ((toAddrS a.xRan (by omega) _).trans ((toStringS a.xLog (by omega) _).trans (rfl))))))))))
theorem eqPage_iff (a b : TPage) : (decide (a.xAddr = b.xAddr) && (decide (a.xPolicy = b.xPolicy) && (decide (a.xTok = b.xTok) && (decide (a.xQueue = b.xQueue) && ((a.xEnded == b.xEnded) && (decide (a.xBuilder = b.xBuilder) && (decide (a.xSlots = b.xSlots) && (decide (a.xMods = b.xMods) && (decide (a.xEntries = b.xEntries) && ((a.xBlock == b.xBlock) && ((a.xInline == b.xInline) && ((a.xDeferred == b.xDeferred) && ((a.xEntered == b.xEntered) && (decide (a.xRan = b.xRan) && (decide (a.xLog = b.xLog) && ((a.xLoaded == b.xLoaded) && (true))))))))))))))))) = decide (a = b) := by
  cases a; cases b
  rw [Bool.eq_iff_iff]
  simp only [TPage.mk.injEq, Bool.and_true, Bool.and_eq_true, beq_iff_eq, decide_eq_true_eq]
theorem eqPage (a b : TPage) (h : a.ok) (k : Bool → Option β) : F133 β a.xAddr.xHost a.xAddr.xPath a.xPolicy.xSet (rStr a.xPolicy.xScripts) (rStr a.xPolicy.xStyles) (rStr a.xPolicy.xImages) a.xPolicy.xNonce a.xTok.xRest (rows kToken TToken.row a.xQueue) a.xEnded (rows kNode TNode.row a.xBuilder.xNodes) (rInt a.xBuilder.xOpen) (rows kSlot TSlot.row a.xSlots) (rows kModule TModule.row a.xMods) (rows kAddr TAddr.row a.xEntries) a.xBlock a.xInline a.xDeferred a.xEntered (rows kAddr TAddr.row a.xRan) (rStr a.xLog) a.xLoaded b.xAddr.xHost b.xAddr.xPath b.xPolicy.xSet (rStr b.xPolicy.xScripts) (rStr b.xPolicy.xStyles) (rStr b.xPolicy.xImages) b.xPolicy.xNonce b.xTok.xRest (rows kToken TToken.row b.xQueue) b.xEnded (rows kNode TNode.row b.xBuilder.xNodes) (rInt b.xBuilder.xOpen) (rows kSlot TSlot.row b.xSlots) (rows kModule TModule.row b.xMods) (rows kAddr TAddr.row b.xEntries) b.xBlock b.xInline b.xDeferred b.xEntered (rows kAddr TAddr.row b.xRan) (rStr b.xLog) b.xLoaded k = k (decide (a = b)) := by
  obtain ⟨q0, q1, q2, q3, q4, q5, q6, q7, q8, q9, q10, q11, q12, q13, q14, q15, _⟩ := h
  simp only [F133, P133]
  refine Eq.trans (b := k (decide (a.xAddr = b.xAddr) && (decide (a.xPolicy = b.xPolicy) && (decide (a.xTok = b.xTok) && (decide (a.xQueue = b.xQueue) && ((a.xEnded == b.xEnded) && (decide (a.xBuilder = b.xBuilder) && (decide (a.xSlots = b.xSlots) && (decide (a.xMods = b.xMods) && (decide (a.xEntries = b.xEntries) && ((a.xBlock == b.xBlock) && ((a.xInline == b.xInline) && ((a.xDeferred == b.xDeferred) && ((a.xEntered == b.xEntered) && (decide (a.xRan = b.xRan) && (decide (a.xLog = b.xLog) && ((a.xLoaded == b.xLoaded) && (true)))))))))))))))))) ?_ (congrArg k (eqPage_iff a b))
  refine (eqAddr a.xAddr b.xAddr q0 _).trans (eqCut ?_)
  refine (eqPolicy a.xPolicy b.xPolicy q1 _).trans (eqCut ?_)
  refine (eqTokenizer a.xTok b.xTok q2 _).trans (eqCut ?_)
  refine (eqTokenS a.xQueue b.xQueue q3 _).trans (eqCut ?_)
  refine eqCut ?_
  refine (eqBuilder a.xBuilder b.xBuilder q5 _).trans (eqCut ?_)
  refine (eqSlotS a.xSlots b.xSlots q6 _).trans (eqCut ?_)
  refine (eqModuleS a.xMods b.xMods q7 _).trans (eqCut ?_)
  refine (eqAddrS a.xEntries b.xEntries q8 _).trans (eqCut ?_)
  refine eqCut ?_
  refine eqCut ?_
  refine eqCut ?_
  refine eqCut ?_
  refine (eqAddrS a.xRan b.xRan q13 _).trans (eqCut ?_)
  refine (eqStringS a.xLog b.xLog q14 _).trans (eqCut ?_)
  refine eqCut ?_
  rfl
open Classical in noncomputable def lszPage (a : TPage) (l : Int) : Option Int := if 0 ≤ l ∧ l ≤ 1048576 ∧ TPage.ok a then some (szL l (TPage.size a)) else none
theorem ei_lszPage (a : TPage) (l : Int) (k : Int → Option β) : Imp (F131 β a.xAddr.xHost a.xAddr.xPath a.xPolicy.xSet (rStr a.xPolicy.xScripts) (rStr a.xPolicy.xStyles) (rStr a.xPolicy.xImages) a.xPolicy.xNonce a.xTok.xRest (rows kToken TToken.row a.xQueue) a.xEnded (rows kNode TNode.row a.xBuilder.xNodes) (rInt a.xBuilder.xOpen) (rows kSlot TSlot.row a.xSlots) (rows kModule TModule.row a.xMods) (rows kAddr TAddr.row a.xEntries) a.xBlock a.xInline a.xDeferred a.xEntered (rows kAddr TAddr.row a.xRan) (rStr a.xLog) a.xLoaded l k) (lszPage a l) (fun r => k r) := by
  intro r h
  unfold lszPage at h
  split at h
  · rename_i c; cases h; exact szPage a l c.1 c.2.1 c.2.2 k
  · cases h
def ltoPage (a : TPage) : Option TPage := if TPage.size a ≤ 1048576 then some a else none
theorem ei_ltoPage (a : TPage) (k : List UInt8 → List UInt8 → Bool → List V → List V → List V → List UInt8 → List UInt8 → List V → Bool → List V → List V → List V → List V → List V → Int → Int → Int → Int → List V → List V → Bool → Option β) : Imp (F132 β a.xAddr.xHost a.xAddr.xPath a.xPolicy.xSet (rStr a.xPolicy.xScripts) (rStr a.xPolicy.xStyles) (rStr a.xPolicy.xImages) a.xPolicy.xNonce a.xTok.xRest (rows kToken TToken.row a.xQueue) a.xEnded (rows kNode TNode.row a.xBuilder.xNodes) (rInt a.xBuilder.xOpen) (rows kSlot TSlot.row a.xSlots) (rows kModule TModule.row a.xMods) (rows kAddr TAddr.row a.xEntries) a.xBlock a.xInline a.xDeferred a.xEntered (rows kAddr TAddr.row a.xRan) (rStr a.xLog) a.xLoaded k) (ltoPage a) (fun r => k r.xAddr.xHost r.xAddr.xPath r.xPolicy.xSet (rStr r.xPolicy.xScripts) (rStr r.xPolicy.xStyles) (rStr r.xPolicy.xImages) r.xPolicy.xNonce r.xTok.xRest (rows kToken TToken.row r.xQueue) r.xEnded (rows kNode TNode.row r.xBuilder.xNodes) (rInt r.xBuilder.xOpen) (rows kSlot TSlot.row r.xSlots) (rows kModule TModule.row r.xMods) (rows kAddr TAddr.row r.xEntries) r.xBlock r.xInline r.xDeferred r.xEntered (rows kAddr TAddr.row r.xRan) (rStr r.xLog) r.xLoaded) := by
  intro r h
  unfold ltoPage at h
  split at h
  · rename_i c; cases h; exact toPage a c k
  · cases h
open Classical in noncomputable def leqPage (a b : TPage) : Option Bool := if TPage.ok a then some (decide (a = b)) else none
theorem ei_leqPage (a b : TPage) (k : Bool → Option β) : Imp (F133 β a.xAddr.xHost a.xAddr.xPath a.xPolicy.xSet (rStr a.xPolicy.xScripts) (rStr a.xPolicy.xStyles) (rStr a.xPolicy.xImages) a.xPolicy.xNonce a.xTok.xRest (rows kToken TToken.row a.xQueue) a.xEnded (rows kNode TNode.row a.xBuilder.xNodes) (rInt a.xBuilder.xOpen) (rows kSlot TSlot.row a.xSlots) (rows kModule TModule.row a.xMods) (rows kAddr TAddr.row a.xEntries) a.xBlock a.xInline a.xDeferred a.xEntered (rows kAddr TAddr.row a.xRan) (rStr a.xLog) a.xLoaded b.xAddr.xHost b.xAddr.xPath b.xPolicy.xSet (rStr b.xPolicy.xScripts) (rStr b.xPolicy.xStyles) (rStr b.xPolicy.xImages) b.xPolicy.xNonce b.xTok.xRest (rows kToken TToken.row b.xQueue) b.xEnded (rows kNode TNode.row b.xBuilder.xNodes) (rInt b.xBuilder.xOpen) (rows kSlot TSlot.row b.xSlots) (rows kModule TModule.row b.xMods) (rows kAddr TAddr.row b.xEntries) b.xBlock b.xInline b.xDeferred b.xEntered (rows kAddr TAddr.row b.xRan) (rStr b.xLog) b.xLoaded k) (leqPage a b) (fun r => k r) := by
  intro r h
  unfold leqPage at h
  split at h
  · rename_i c; cases h; refine (eqPage a b c k).trans ?_; congr
  · cases h

/-! ### Visit -/
def TVisit.nul : TVisit := ⟨TAddr.nul, TPage.nul, false⟩
def TVisit.size (a : TVisit) : Nat := TAddr.size a.xAddr + (TPage.size a.xPage + (0))
def TVisit.ok (a : TVisit) : Prop := TAddr.ok a.xAddr ∧ TPage.ok a.xPage ∧ True ∧ True
theorem szVisit (a : TVisit) (l : Int) (h0 : 0 ≤ l) (h1 : l ≤ 1048576) (h : a.ok) (k : Int → Option β) : F102 β a.xAddr.xHost a.xAddr.xPath a.xPage.xAddr.xHost a.xPage.xAddr.xPath a.xPage.xPolicy.xSet (rStr a.xPage.xPolicy.xScripts) (rStr a.xPage.xPolicy.xStyles) (rStr a.xPage.xPolicy.xImages) a.xPage.xPolicy.xNonce a.xPage.xTok.xRest (rows kToken TToken.row a.xPage.xQueue) a.xPage.xEnded (rows kNode TNode.row a.xPage.xBuilder.xNodes) (rInt a.xPage.xBuilder.xOpen) (rows kSlot TSlot.row a.xPage.xSlots) (rows kModule TModule.row a.xPage.xMods) (rows kAddr TAddr.row a.xPage.xEntries) a.xPage.xBlock a.xPage.xInline a.xPage.xDeferred a.xPage.xEntered (rows kAddr TAddr.row a.xPage.xRan) (rStr a.xPage.xLog) a.xPage.xLoaded a.xKept l k = k (szL l a.size) := by
  obtain ⟨q0, q1, q2, _⟩ := h
  unfold TVisit.size
  simp only [F102, P102]
  refine (szAddr a.xAddr _ h0 h1 q0 _).trans (szSub h0 h1 (fun m0 e0 h0 h1 => ?_))
  rw [e0]
  refine (szPage a.xPage _ h0 h1 q1 _).trans (szSub h0 h1 (fun m1 e1 h0 h1 => ?_))
  rw [e1]
  exact szEnd h0
theorem toVisit (a : TVisit) (h : a.size ≤ 1048576) (k : List UInt8 → List UInt8 → List UInt8 → List UInt8 → Bool → List V → List V → List V → List UInt8 → List UInt8 → List V → Bool → List V → List V → List V → List V → List V → Int → Int → Int → Int → List V → List V → Bool → Bool → Option β) : F103 β a.xAddr.xHost a.xAddr.xPath a.xPage.xAddr.xHost a.xPage.xAddr.xPath a.xPage.xPolicy.xSet (rStr a.xPage.xPolicy.xScripts) (rStr a.xPage.xPolicy.xStyles) (rStr a.xPage.xPolicy.xImages) a.xPage.xPolicy.xNonce a.xPage.xTok.xRest (rows kToken TToken.row a.xPage.xQueue) a.xPage.xEnded (rows kNode TNode.row a.xPage.xBuilder.xNodes) (rInt a.xPage.xBuilder.xOpen) (rows kSlot TSlot.row a.xPage.xSlots) (rows kModule TModule.row a.xPage.xMods) (rows kAddr TAddr.row a.xPage.xEntries) a.xPage.xBlock a.xPage.xInline a.xPage.xDeferred a.xPage.xEntered (rows kAddr TAddr.row a.xPage.xRan) (rStr a.xPage.xLog) a.xPage.xLoaded a.xKept k = k a.xAddr.xHost a.xAddr.xPath a.xPage.xAddr.xHost a.xPage.xAddr.xPath a.xPage.xPolicy.xSet (rStr a.xPage.xPolicy.xScripts) (rStr a.xPage.xPolicy.xStyles) (rStr a.xPage.xPolicy.xImages) a.xPage.xPolicy.xNonce a.xPage.xTok.xRest (rows kToken TToken.row a.xPage.xQueue) a.xPage.xEnded (rows kNode TNode.row a.xPage.xBuilder.xNodes) (rInt a.xPage.xBuilder.xOpen) (rows kSlot TSlot.row a.xPage.xSlots) (rows kModule TModule.row a.xPage.xMods) (rows kAddr TAddr.row a.xPage.xEntries) a.xPage.xBlock a.xPage.xInline a.xPage.xDeferred a.xPage.xEntered (rows kAddr TAddr.row a.xPage.xRan) (rStr a.xPage.xLog) a.xPage.xLoaded a.xKept := by
  unfold TVisit.size at h
  simp only [F103, P103]
  exact (toAddr a.xAddr (by omega) _).trans ((toPage a.xPage (by omega) _).trans (rfl))
theorem eqVisit_iff (a b : TVisit) : (decide (a.xAddr = b.xAddr) && (decide (a.xPage = b.xPage) && ((a.xKept == b.xKept) && (true)))) = decide (a = b) := by
  cases a; cases b
  rw [Bool.eq_iff_iff]
  simp only [TVisit.mk.injEq, Bool.and_true, Bool.and_eq_true, beq_iff_eq, decide_eq_true_eq]
theorem eqVisit (a b : TVisit) (h : a.ok) (k : Bool → Option β) : F104 β a.xAddr.xHost a.xAddr.xPath a.xPage.xAddr.xHost a.xPage.xAddr.xPath a.xPage.xPolicy.xSet (rStr a.xPage.xPolicy.xScripts) (rStr a.xPage.xPolicy.xStyles) (rStr a.xPage.xPolicy.xImages) a.xPage.xPolicy.xNonce a.xPage.xTok.xRest (rows kToken TToken.row a.xPage.xQueue) a.xPage.xEnded (rows kNode TNode.row a.xPage.xBuilder.xNodes) (rInt a.xPage.xBuilder.xOpen) (rows kSlot TSlot.row a.xPage.xSlots) (rows kModule TModule.row a.xPage.xMods) (rows kAddr TAddr.row a.xPage.xEntries) a.xPage.xBlock a.xPage.xInline a.xPage.xDeferred a.xPage.xEntered (rows kAddr TAddr.row a.xPage.xRan) (rStr a.xPage.xLog) a.xPage.xLoaded a.xKept b.xAddr.xHost b.xAddr.xPath b.xPage.xAddr.xHost b.xPage.xAddr.xPath b.xPage.xPolicy.xSet (rStr b.xPage.xPolicy.xScripts) (rStr b.xPage.xPolicy.xStyles) (rStr b.xPage.xPolicy.xImages) b.xPage.xPolicy.xNonce b.xPage.xTok.xRest (rows kToken TToken.row b.xPage.xQueue) b.xPage.xEnded (rows kNode TNode.row b.xPage.xBuilder.xNodes) (rInt b.xPage.xBuilder.xOpen) (rows kSlot TSlot.row b.xPage.xSlots) (rows kModule TModule.row b.xPage.xMods) (rows kAddr TAddr.row b.xPage.xEntries) b.xPage.xBlock b.xPage.xInline b.xPage.xDeferred b.xPage.xEntered (rows kAddr TAddr.row b.xPage.xRan) (rStr b.xPage.xLog) b.xPage.xLoaded b.xKept k = k (decide (a = b)) := by
  obtain ⟨q0, q1, q2, _⟩ := h
  simp only [F104, P104]
  refine Eq.trans (b := k (decide (a.xAddr = b.xAddr) && (decide (a.xPage = b.xPage) && ((a.xKept == b.xKept) && (true))))) ?_ (congrArg k (eqVisit_iff a b))
  refine (eqAddr a.xAddr b.xAddr q0 _).trans (eqCut ?_)
  refine (eqPage a.xPage b.xPage q1 _).trans (eqCut ?_)
  refine eqCut ?_
  rfl
open Classical in noncomputable def lszVisit (a : TVisit) (l : Int) : Option Int := if 0 ≤ l ∧ l ≤ 1048576 ∧ TVisit.ok a then some (szL l (TVisit.size a)) else none
theorem ei_lszVisit (a : TVisit) (l : Int) (k : Int → Option β) : Imp (F102 β a.xAddr.xHost a.xAddr.xPath a.xPage.xAddr.xHost a.xPage.xAddr.xPath a.xPage.xPolicy.xSet (rStr a.xPage.xPolicy.xScripts) (rStr a.xPage.xPolicy.xStyles) (rStr a.xPage.xPolicy.xImages) a.xPage.xPolicy.xNonce a.xPage.xTok.xRest (rows kToken TToken.row a.xPage.xQueue) a.xPage.xEnded (rows kNode TNode.row a.xPage.xBuilder.xNodes) (rInt a.xPage.xBuilder.xOpen) (rows kSlot TSlot.row a.xPage.xSlots) (rows kModule TModule.row a.xPage.xMods) (rows kAddr TAddr.row a.xPage.xEntries) a.xPage.xBlock a.xPage.xInline a.xPage.xDeferred a.xPage.xEntered (rows kAddr TAddr.row a.xPage.xRan) (rStr a.xPage.xLog) a.xPage.xLoaded a.xKept l k) (lszVisit a l) (fun r => k r) := by
  intro r h
  unfold lszVisit at h
  split at h
  · rename_i c; cases h; exact szVisit a l c.1 c.2.1 c.2.2 k
  · cases h
def ltoVisit (a : TVisit) : Option TVisit := if TVisit.size a ≤ 1048576 then some a else none
theorem ei_ltoVisit (a : TVisit) (k : List UInt8 → List UInt8 → List UInt8 → List UInt8 → Bool → List V → List V → List V → List UInt8 → List UInt8 → List V → Bool → List V → List V → List V → List V → List V → Int → Int → Int → Int → List V → List V → Bool → Bool → Option β) : Imp (F103 β a.xAddr.xHost a.xAddr.xPath a.xPage.xAddr.xHost a.xPage.xAddr.xPath a.xPage.xPolicy.xSet (rStr a.xPage.xPolicy.xScripts) (rStr a.xPage.xPolicy.xStyles) (rStr a.xPage.xPolicy.xImages) a.xPage.xPolicy.xNonce a.xPage.xTok.xRest (rows kToken TToken.row a.xPage.xQueue) a.xPage.xEnded (rows kNode TNode.row a.xPage.xBuilder.xNodes) (rInt a.xPage.xBuilder.xOpen) (rows kSlot TSlot.row a.xPage.xSlots) (rows kModule TModule.row a.xPage.xMods) (rows kAddr TAddr.row a.xPage.xEntries) a.xPage.xBlock a.xPage.xInline a.xPage.xDeferred a.xPage.xEntered (rows kAddr TAddr.row a.xPage.xRan) (rStr a.xPage.xLog) a.xPage.xLoaded a.xKept k) (ltoVisit a) (fun r => k r.xAddr.xHost r.xAddr.xPath r.xPage.xAddr.xHost r.xPage.xAddr.xPath r.xPage.xPolicy.xSet (rStr r.xPage.xPolicy.xScripts) (rStr r.xPage.xPolicy.xStyles) (rStr r.xPage.xPolicy.xImages) r.xPage.xPolicy.xNonce r.xPage.xTok.xRest (rows kToken TToken.row r.xPage.xQueue) r.xPage.xEnded (rows kNode TNode.row r.xPage.xBuilder.xNodes) (rInt r.xPage.xBuilder.xOpen) (rows kSlot TSlot.row r.xPage.xSlots) (rows kModule TModule.row r.xPage.xMods) (rows kAddr TAddr.row r.xPage.xEntries) r.xPage.xBlock r.xPage.xInline r.xPage.xDeferred r.xPage.xEntered (rows kAddr TAddr.row r.xPage.xRan) (rStr r.xPage.xLog) r.xPage.xLoaded r.xKept) := by
  intro r h
  unfold ltoVisit at h
  split at h
  · rename_i c; cases h; exact toVisit a c k
  · cases h
open Classical in noncomputable def leqVisit (a b : TVisit) : Option Bool := if TVisit.ok a then some (decide (a = b)) else none
theorem ei_leqVisit (a b : TVisit) (k : Bool → Option β) : Imp (F104 β a.xAddr.xHost a.xAddr.xPath a.xPage.xAddr.xHost a.xPage.xAddr.xPath a.xPage.xPolicy.xSet (rStr a.xPage.xPolicy.xScripts) (rStr a.xPage.xPolicy.xStyles) (rStr a.xPage.xPolicy.xImages) a.xPage.xPolicy.xNonce a.xPage.xTok.xRest (rows kToken TToken.row a.xPage.xQueue) a.xPage.xEnded (rows kNode TNode.row a.xPage.xBuilder.xNodes) (rInt a.xPage.xBuilder.xOpen) (rows kSlot TSlot.row a.xPage.xSlots) (rows kModule TModule.row a.xPage.xMods) (rows kAddr TAddr.row a.xPage.xEntries) a.xPage.xBlock a.xPage.xInline a.xPage.xDeferred a.xPage.xEntered (rows kAddr TAddr.row a.xPage.xRan) (rStr a.xPage.xLog) a.xPage.xLoaded a.xKept b.xAddr.xHost b.xAddr.xPath b.xPage.xAddr.xHost b.xPage.xAddr.xPath b.xPage.xPolicy.xSet (rStr b.xPage.xPolicy.xScripts) (rStr b.xPage.xPolicy.xStyles) (rStr b.xPage.xPolicy.xImages) b.xPage.xPolicy.xNonce b.xPage.xTok.xRest (rows kToken TToken.row b.xPage.xQueue) b.xPage.xEnded (rows kNode TNode.row b.xPage.xBuilder.xNodes) (rInt b.xPage.xBuilder.xOpen) (rows kSlot TSlot.row b.xPage.xSlots) (rows kModule TModule.row b.xPage.xMods) (rows kAddr TAddr.row b.xPage.xEntries) b.xPage.xBlock b.xPage.xInline b.xPage.xDeferred b.xPage.xEntered (rows kAddr TAddr.row b.xPage.xRan) (rStr b.xPage.xLog) b.xPage.xLoaded b.xKept k) (leqVisit a b) (fun r => k r) := by
  intro r h
  unfold leqVisit at h
  split at h
  · rename_i c; cases h; refine (eqVisit a b c k).trans ?_; congr
  · cases h
theorem szVisitS (a : List TVisit) (l : Int) (h0 : 0 ≤ l) (h1 : l ≤ 1048576) (h : okL TVisit.ok a) (k : Int → Option β) : F69 β (rows kVisit TVisit.row a) l k = k (szL l (a.length + sumL TVisit.size a)) := by
  simp only [F69, P69, rows_len]
  refine szCut h0 h1 h.1 (fun m e h0 h1 => ?_)
  rw [e]
  refine while_sz (fun (i : Nat) (m : Int) => ([.l (rows kVisit TVisit.row a), .i m, .i (i : Int)] : List Leaf)) a TVisit.size (fun m => (1, [.i m])) (fun i y m hi hm0 hm1 => ?_) (fun m => brN rirr rfl) (fun m => rfl) h0 h1 rfl
  have hlt : i < a.length := (List.getElem?_eq_some_iff.1 hi).1
  have hb := h.1
  unfold maxLen at hb
  rcases @szCase m y.size with ⟨c, e⟩ | ⟨c, e⟩
  · exact .inl ⟨_, c, brE (rlt hlt) (chkE (Int.natCast_nonneg _) (idxE (i := i) hi ((szVisit y m hm0 hm1 (h.2 y (List.mem_of_getElem? hi)) _).trans (brE (by rw [e]; decide) rfl)))), rfl⟩
  · exact .inr ⟨c, brE (rlt hlt) (chkE (Int.natCast_nonneg _) (idxE (i := i) hi ((szVisit y m hm0 hm1 (h.2 y (List.mem_of_getElem? hi)) _).trans (brN (by rw [e]; omega) (two (fun m j : Int => (some (Sum.inl ([.l (rows kVisit TVisit.row a), .i m, .i j] : List Leaf)) : Option (List Leaf ⊕ (Nat × List Leaf)))) e (wrapS (i := i) (by omega)))))))⟩
theorem toVisitS (a : List TVisit) (h : a.length + sumL TVisit.size a ≤ 1048576) (k : List V → Option β) : F71 β (rows kVisit TVisit.row a) k = k (rows kVisit TVisit.row a) := by
  simp only [F71, P71, rows_len, whileK, Int.toNat_natCast]
  refine chkE ⟨by omega, by omega, by omega, by omega⟩ ?_
  rw [while_each (fun i : Nat => ([.l (rows kVisit TVisit.row a), .l (rows kVisit TVisit.row (copyS a TVisit.nul i)), .i (i : Int)] : List Leaf)) a (0, [.l (rows kVisit TVisit.row a)]) ?h1 ?h2 _ ?hs]
  case hs => rw [← rows_copy0 rfl]; rfl
  case h1 =>
    intro i y hi
    have hlt : i < a.length := (List.getElem?_eq_some_iff.1 hi).1
    have hl := copyS_len (a := a) (n := TVisit.nul) (i := i) (by omega)
    have hm := sumL_mem (f := TVisit.size) (List.mem_of_getElem? hi)
    refine brE (rlt hlt) (chkE (Int.natCast_nonneg _) (idxE (i := i) hi ((toVisit y (by omega) _).trans (chkE ⟨Int.natCast_nonneg _, ?_⟩ (storeE (g := TVisit.row) (y := y) (i := i) rfl (Nat.lt_of_lt_of_eq hlt hl.symm) ?_)))))
    · show (Int.toNat (i : Int)) < (rows kVisit TVisit.row (copyS a TVisit.nul i)).length
      rw [rows_len]; exact Nat.lt_of_lt_of_eq hlt hl.symm
    · exact two (fun (c : List TVisit) (j : Int) => (some (Sum.inl ([.l (rows kVisit TVisit.row a), .l (rows kVisit TVisit.row c), .i j] : List Leaf)) : Option (List Leaf ⊕ (Nat × List Leaf)))) (copyS_set hi) (wrapS (i := i) (by omega))
  case h2 =>
    rw [copyS_end]
    exact brN rirr rfl
  · rfl
theorem eqVisitS (a b : List TVisit) (h : okL TVisit.ok a) (k : Bool → Option β) : F73 β (rows kVisit TVisit.row a) (rows kVisit TVisit.row b) k = k (decide (a = b)) := by
  simp only [F73, P73]
  refine eqLen (rows_len ..) (rows_len ..) (fun hl => ?_)
  refine while_eq (fun i : Nat => ([.l (rows kVisit TVisit.row a), .l (rows kVisit TVisit.row b), .i (i : Int)] : List Leaf)) a b hl (fun i x y hi hx hy => ?_) (brN rirr rfl) rfl rfl rfl
  have hb := h.1
  unfold maxLen at hb
  exact brE (rlt hi) (chkE (Int.natCast_nonneg _) (idxE (i := i) hx (chkE (Int.natCast_nonneg _) (idxE (i := i) hy ((eqVisit x y (h.2 x (List.mem_of_getElem? hx)) _).trans (brB rfl rfl (congrArg (fun j : Int => (some (Sum.inl ([.l (rows kVisit TVisit.row a), .l (rows kVisit TVisit.row b), .i j] : List Leaf)) : Option (List Leaf ⊕ (Nat × List Leaf)))) (wrapS (i := i) (by omega)))))))))
open Classical in noncomputable def lszVisitS (a : List TVisit) (l : Int) : Option Int := if 0 ≤ l ∧ l ≤ 1048576 ∧ okL TVisit.ok a then some (szL l (a.length + sumL TVisit.size a)) else none
theorem ei_lszVisitS (a : List TVisit) (l : Int) (k : Int → Option β) : Imp (F69 β (rows kVisit TVisit.row a) l k) (lszVisitS a l) (fun r => k r) := by
  intro r h
  unfold lszVisitS at h
  split at h
  · rename_i c; cases h; exact szVisitS a l c.1 c.2.1 c.2.2 k
  · cases h
def ltoVisitS (a : List TVisit) : Option (List TVisit) := if a.length + sumL TVisit.size a ≤ 1048576 then some a else none
theorem ei_ltoVisitS (a : List TVisit) (k : List V → Option β) : Imp (F71 β (rows kVisit TVisit.row a) k) (ltoVisitS a) (fun r => k (rows kVisit TVisit.row r)) := by
  intro r h
  unfold ltoVisitS at h
  split at h
  · rename_i c; cases h; exact toVisitS a c k
  · cases h
open Classical in noncomputable def leqVisitS (a b : List TVisit) : Option Bool := if okL TVisit.ok a then some (decide (a = b)) else none
theorem ei_leqVisitS (a b : List TVisit) (k : Bool → Option β) : Imp (F73 β (rows kVisit TVisit.row a) (rows kVisit TVisit.row b) k) (leqVisitS a b) (fun r => k r) := by
  intro r h
  unfold leqVisitS at h
  split at h
  · rename_i c; cases h; refine (eqVisitS a b c k).trans ?_; congr
  · cases h

/-! ### Tab -/
def TTab.nul : TTab := ⟨[], 0⟩
def TTab.size (a : TTab) : Nat := (a.xVisits.length + sumL TVisit.size a.xVisits) + (0)
def TTab.ok (a : TTab) : Prop := okL TVisit.ok a.xVisits ∧ okI a.xAt ∧ True
theorem szTab (a : TTab) (l : Int) (h0 : 0 ≤ l) (h1 : l ≤ 1048576) (h : a.ok) (k : Int → Option β) : F28 β (rows kVisit TVisit.row a.xVisits) a.xAt l k = k (szL l a.size) := by
  obtain ⟨q0, q1, _⟩ := h
  unfold TTab.size
  simp only [F28, P28]
  refine (szVisitS a.xVisits _ h0 h1 q0 _).trans (szSub h0 h1 (fun m0 e0 h0 h1 => ?_))
  rw [e0]
  exact szEnd h0
theorem toTab (a : TTab) (h : a.size ≤ 1048576) (k : List V → Int → Option β) : F30 β (rows kVisit TVisit.row a.xVisits) a.xAt k = k (rows kVisit TVisit.row a.xVisits) a.xAt := by
  unfold TTab.size at h
  simp only [F30, P30]
  exact (toVisitS a.xVisits (by omega) _).trans (rfl)
theorem eqTab_iff (a b : TTab) : (decide (a.xVisits = b.xVisits) && ((a.xAt == b.xAt) && (true))) = decide (a = b) := by
  cases a; cases b
  rw [Bool.eq_iff_iff]
  simp only [TTab.mk.injEq, Bool.and_true, Bool.and_eq_true, beq_iff_eq, decide_eq_true_eq]
theorem eqTab (a b : TTab) (h : a.ok) (k : Bool → Option β) : F32 β (rows kVisit TVisit.row a.xVisits) a.xAt (rows kVisit TVisit.row b.xVisits) b.xAt k = k (decide (a = b)) := by
  obtain ⟨q0, q1, _⟩ := h
  simp only [F32, P32]
  refine Eq.trans (b := k (decide (a.xVisits = b.xVisits) && ((a.xAt == b.xAt) && (true)))) ?_ (congrArg k (eqTab_iff a b))
  refine (eqVisitS a.xVisits b.xVisits q0 _).trans (eqCut ?_)
  refine eqCut ?_
  rfl
open Classical in noncomputable def lszTab (a : TTab) (l : Int) : Option Int := if 0 ≤ l ∧ l ≤ 1048576 ∧ TTab.ok a then some (szL l (TTab.size a)) else none
theorem ei_lszTab (a : TTab) (l : Int) (k : Int → Option β) : Imp (F28 β (rows kVisit TVisit.row a.xVisits) a.xAt l k) (lszTab a l) (fun r => k r) := by
  intro r h
  unfold lszTab at h
  split at h
  · rename_i c; cases h; exact szTab a l c.1 c.2.1 c.2.2 k
  · cases h
def ltoTab (a : TTab) : Option TTab := if TTab.size a ≤ 1048576 then some a else none
theorem ei_ltoTab (a : TTab) (k : List V → Int → Option β) : Imp (F30 β (rows kVisit TVisit.row a.xVisits) a.xAt k) (ltoTab a) (fun r => k (rows kVisit TVisit.row r.xVisits) r.xAt) := by
  intro r h
  unfold ltoTab at h
  split at h
  · rename_i c; cases h; exact toTab a c k
  · cases h
open Classical in noncomputable def leqTab (a b : TTab) : Option Bool := if TTab.ok a then some (decide (a = b)) else none
theorem ei_leqTab (a b : TTab) (k : Bool → Option β) : Imp (F32 β (rows kVisit TVisit.row a.xVisits) a.xAt (rows kVisit TVisit.row b.xVisits) b.xAt k) (leqTab a b) (fun r => k r) := by
  intro r h
  unfold leqTab at h
  split at h
  · rename_i c; cases h; refine (eqTab a b c k).trans ?_; congr
  · cases h

/-! ### arguments -/
def fl : Nat → Bool := fun t => t != 53 && t != 51 && t != 169 && t != 167 && t != 157 && t != 63 && t != 159 && t != 263 && t != 261 && t != 162 && t != 160 && t != 302 && t != 82 && t != 163 && t != 164 && t != 165
def L : List Nat := [53, 51, 169, 132, 9, 167, 157, 4, 63, 158, 159, 263, 3, 261, 316, 162, 160, 302, 82, 163, 268, 164, 271, 165]
theorem kids : kidsOk Try.prog L = true := by kernel_rfl
theorem flArgs : flOk Try.prog L fl = true := by kernel_rfl
theorem cells53 : Try.prog.cellsOf 53 = 2 := by kernel_rfl
theorem cells51 : Try.prog.cellsOf 51 = 1 := by kernel_rfl
theorem cells169 : Try.prog.cellsOf 169 = 25 := by kernel_rfl
theorem cells132 : Try.prog.cellsOf 132 = 2 := by kernel_rfl
theorem cells9 : Try.prog.cellsOf 9 = 1 := by kernel_rfl
theorem cells167 : Try.prog.cellsOf 167 = 22 := by kernel_rfl
theorem cells157 : Try.prog.cellsOf 157 = 5 := by kernel_rfl
theorem cells4 : Try.prog.cellsOf 4 = 1 := by kernel_rfl
theorem cells63 : Try.prog.cellsOf 63 = 1 := by kernel_rfl
theorem cells158 : Try.prog.cellsOf 158 = 1 := by kernel_rfl
theorem cells159 : Try.prog.cellsOf 159 = 1 := by kernel_rfl
theorem cells263 : Try.prog.cellsOf 263 = 4 := by kernel_rfl
theorem cells3 : Try.prog.cellsOf 3 = 1 := by kernel_rfl
theorem cells261 : Try.prog.cellsOf 261 = 1 := by kernel_rfl
theorem cells316 : Try.prog.cellsOf 316 = 2 := by kernel_rfl
theorem cells162 : Try.prog.cellsOf 162 = 2 := by kernel_rfl
theorem cells160 : Try.prog.cellsOf 160 = 1 := by kernel_rfl
theorem cells302 : Try.prog.cellsOf 302 = 4 := by kernel_rfl
theorem cells82 : Try.prog.cellsOf 82 = 1 := by kernel_rfl
theorem cells163 : Try.prog.cellsOf 163 = 1 := by kernel_rfl
theorem cells268 : Try.prog.cellsOf 268 = 8 := by kernel_rfl
theorem cells164 : Try.prog.cellsOf 164 = 1 := by kernel_rfl
theorem cells271 : Try.prog.cellsOf 271 = 5 := by kernel_rfl
theorem cells165 : Try.prog.cellsOf 165 = 1 := by kernel_rfl
theorem Addr_open {n : Nat} {us : List V} (h : Cn Try.prog fl n 132 us) : ∃ a : TAddr, a.ok ∧ us = [.str a.xHost, .str a.xPath] := by
  obtain ⟨m, hl, hf⟩ := cn_struct h Try.underlying132
  rw [cells132] at hl
  obtain ⟨u0, l0, rfl, hl0⟩ := list_next hl
  obtain ⟨u1, l1, rfl, hl1⟩ := list_next hl0
  obtain rfl := List.length_eq_zero_iff.1 hl1
  obtain ⟨g0, g1, _⟩ := hf
  rw [cells9] at g0
  obtain ⟨y0, z0, o0⟩ := cn_str g0 Try.underlying9
  simp only [List.drop_succ_cons, List.drop_zero, List.take_succ_cons, List.take_zero, List.cons.injEq, and_true] at z0
  obtain rfl := z0
  rw [cells9] at g1
  obtain ⟨y1, z1, o1⟩ := cn_str g1 Try.underlying9
  simp only [List.drop_succ_cons, List.drop_zero, List.take_succ_cons, List.take_zero, List.cons.injEq, and_true] at z1
  obtain rfl := z1
  exact ⟨⟨y0, y1⟩, ⟨o0, o1, trivial⟩, rfl⟩
theorem Policy_open {n : Nat} {us : List V} (h : Cn Try.prog fl n 157 us) : ∃ a : TPolicy, a.ok ∧ us = [.bool a.xSet, .sl 1 true (rStr a.xScripts), .sl 1 true (rStr a.xStyles), .sl 1 true (rStr a.xImages), .str a.xNonce] := by
  obtain ⟨m, hl, hf⟩ := cn_struct h Try.underlying157
  rw [cells157] at hl
  obtain ⟨u0, l0, rfl, hl0⟩ := list_next hl
  obtain ⟨u1, l1, rfl, hl1⟩ := list_next hl0
  obtain ⟨u2, l2, rfl, hl2⟩ := list_next hl1
  obtain ⟨u3, l3, rfl, hl3⟩ := list_next hl2
  obtain ⟨u4, l4, rfl, hl4⟩ := list_next hl3
  obtain rfl := List.length_eq_zero_iff.1 hl4
  obtain ⟨g0, g1, g2, g3, g4, _⟩ := hf
  rw [cells4] at g0
  obtain ⟨y0, z0⟩ := cn_bool g0 Try.underlying4
  have o0 : True := trivial
  simp only [List.drop_succ_cons, List.drop_zero, List.take_succ_cons, List.take_zero, List.cons.injEq, and_true] at z0
  obtain rfl := z0
  rw [cells63] at g1
  obtain ⟨_, r1, z1, b1, w1⟩ := cn_rows1 g1 Try.underlying63 (by rw [Try.underlying9]; intro fs hfs; cases hfs)
  obtain ⟨y1, rfl, v1⟩ := rows1_of (kd := .str) (g := fun e => e) (ok := okS) (fun r hr => by
    obtain ⟨us, h1, h2⟩ := w1 r hr
    obtain ⟨e, h3, h4⟩ := cn_str h1 Try.underlying9
    exact ⟨e, h4, by rw [h2, h3]; rfl⟩)
  have o1 : okL okS y1 := ⟨by rw [rows1_len] at b1; exact b1, v1⟩
  rw [cells9, show fl 9 = true from rfl] at z1
  simp only [List.drop_succ_cons, List.drop_zero, List.take_succ_cons, List.take_zero, List.cons.injEq, and_true] at z1
  obtain rfl := z1
  rw [cells63] at g2
  obtain ⟨_, r2, z2, b2, w2⟩ := cn_rows1 g2 Try.underlying63 (by rw [Try.underlying9]; intro fs hfs; cases hfs)
  obtain ⟨y2, rfl, v2⟩ := rows1_of (kd := .str) (g := fun e => e) (ok := okS) (fun r hr => by
    obtain ⟨us, h1, h2⟩ := w2 r hr
    obtain ⟨e, h3, h4⟩ := cn_str h1 Try.underlying9
    exact ⟨e, h4, by rw [h2, h3]; rfl⟩)
  have o2 : okL okS y2 := ⟨by rw [rows1_len] at b2; exact b2, v2⟩
  rw [cells9, show fl 9 = true from rfl] at z2
  simp only [List.drop_succ_cons, List.drop_zero, List.take_succ_cons, List.take_zero, List.cons.injEq, and_true] at z2
  obtain rfl := z2
  rw [cells63] at g3
  obtain ⟨_, r3, z3, b3, w3⟩ := cn_rows1 g3 Try.underlying63 (by rw [Try.underlying9]; intro fs hfs; cases hfs)
  obtain ⟨y3, rfl, v3⟩ := rows1_of (kd := .str) (g := fun e => e) (ok := okS) (fun r hr => by
    obtain ⟨us, h1, h2⟩ := w3 r hr
    obtain ⟨e, h3, h4⟩ := cn_str h1 Try.underlying9
    exact ⟨e, h4, by rw [h2, h3]; rfl⟩)
  have o3 : okL okS y3 := ⟨by rw [rows1_len] at b3; exact b3, v3⟩
  rw [cells9, show fl 9 = true from rfl] at z3
  simp only [List.drop_succ_cons, List.drop_zero, List.take_succ_cons, List.take_zero, List.cons.injEq, and_true] at z3
  obtain rfl := z3
  rw [cells9] at g4
  obtain ⟨y4, z4, o4⟩ := cn_str g4 Try.underlying9
  simp only [List.drop_succ_cons, List.drop_zero, List.take_succ_cons, List.take_zero, List.cons.injEq, and_true] at z4
  obtain rfl := z4
  exact ⟨⟨y0, y1, y2, y3, y4⟩, ⟨o0, o1, o2, o3, o4, trivial⟩, rfl⟩
theorem Tokenizer_open {n : Nat} {us : List V} (h : Cn Try.prog fl n 158 us) : ∃ a : TTokenizer, a.ok ∧ us = [.str a.xRest] := by
  obtain ⟨m, hl, hf⟩ := cn_struct h Try.underlying158
  rw [cells158] at hl
  obtain ⟨u0, l0, rfl, hl0⟩ := list_next hl
  obtain rfl := List.length_eq_zero_iff.1 hl0
  obtain ⟨g0, _⟩ := hf
  rw [cells9] at g0
  obtain ⟨y0, z0, o0⟩ := cn_str g0 Try.underlying9
  simp only [List.drop_succ_cons, List.drop_zero, List.take_succ_cons, List.take_zero, List.cons.injEq, and_true] at z0
  obtain rfl := z0
  exact ⟨⟨y0⟩, ⟨o0, trivial⟩, rfl⟩
theorem Attr_open {n : Nat} {us : List V} (h : Cn Try.prog fl n 316 us) : ∃ a : TAttr, a.ok ∧ us = [.str a.xName, .str a.xValue] := by
  obtain ⟨m, hl, hf⟩ := cn_struct h Try.underlying316
  rw [cells316] at hl
  obtain ⟨u0, l0, rfl, hl0⟩ := list_next hl
  obtain ⟨u1, l1, rfl, hl1⟩ := list_next hl0
  obtain rfl := List.length_eq_zero_iff.1 hl1
  obtain ⟨g0, g1, _⟩ := hf
  rw [cells9] at g0
  obtain ⟨y0, z0, o0⟩ := cn_str g0 Try.underlying9
  simp only [List.drop_succ_cons, List.drop_zero, List.take_succ_cons, List.take_zero, List.cons.injEq, and_true] at z0
  obtain rfl := z0
  rw [cells9] at g1
  obtain ⟨y1, z1, o1⟩ := cn_str g1 Try.underlying9
  simp only [List.drop_succ_cons, List.drop_zero, List.take_succ_cons, List.take_zero, List.cons.injEq, and_true] at z1
  obtain rfl := z1
  exact ⟨⟨y0, y1⟩, ⟨o0, o1, trivial⟩, rfl⟩
theorem Token_open {n : Nat} {us : List V} (h : Cn Try.prog fl n 263 us) : ∃ a : TToken, a.ok ∧ us = [.int .i64 a.xKind, .str a.xName, .sl 2 true (rows kAttr TAttr.row a.xAttrs), .str a.xText] := by
  obtain ⟨m, hl, hf⟩ := cn_struct h Try.underlying263
  rw [cells263] at hl
  obtain ⟨u0, l0, rfl, hl0⟩ := list_next hl
  obtain ⟨u1, l1, rfl, hl1⟩ := list_next hl0
  obtain ⟨u2, l2, rfl, hl2⟩ := list_next hl1
  obtain ⟨u3, l3, rfl, hl3⟩ := list_next hl2
  obtain rfl := List.length_eq_zero_iff.1 hl3
  obtain ⟨g0, g1, g2, g3, _⟩ := hf
  rw [cells3] at g0
  obtain ⟨y0, z0, o0⟩ := cn_int g0 Try.underlying3
  have o0 := okI_of o0
  simp only [List.drop_succ_cons, List.drop_zero, List.take_succ_cons, List.take_zero, List.cons.injEq, and_true] at z0
  obtain rfl := z0
  rw [cells9] at g1
  obtain ⟨y1, z1, o1⟩ := cn_str g1 Try.underlying9
  simp only [List.drop_succ_cons, List.drop_zero, List.take_succ_cons, List.take_zero, List.cons.injEq, and_true] at z1
  obtain rfl := z1
  rw [cells261] at g2
  obtain ⟨_, r2, z2, b2, w2⟩ := cn_rows g2 Try.underlying261 Try.underlying316
  obtain ⟨y2, rfl, v2⟩ := rows_of (ks := kAttr) (g := TAttr.row) (ok := TAttr.ok) (fun r hr => by
    obtain ⟨us, h1, h2⟩ := w2 r hr
    obtain ⟨e, h3, h4⟩ := Attr_open h1
    exact ⟨e, h3, by rw [h2, h4]; rfl⟩)
  have o2 : okL TAttr.ok y2 := ⟨by rw [rows_len] at b2; exact b2, v2⟩
  rw [cells316, show fl 316 = true from rfl] at z2
  simp only [List.drop_succ_cons, List.drop_zero, List.take_succ_cons, List.take_zero, List.cons.injEq, and_true] at z2
  obtain rfl := z2
  rw [cells9] at g3
  obtain ⟨y3, z3, o3⟩ := cn_str g3 Try.underlying9
  simp only [List.drop_succ_cons, List.drop_zero, List.take_succ_cons, List.take_zero, List.cons.injEq, and_true] at z3
  obtain rfl := z3
  exact ⟨⟨y0, y1, y2, y3⟩, ⟨o0, o1, o2, o3, trivial⟩, rfl⟩
theorem Node_open {n : Nat} {us : List V} (h : Cn Try.prog fl n 302 us) : ∃ a : TNode, a.ok ∧ us = [.str a.xName, .str a.xText, .int .i64 a.xParent, .sl 2 true (rows kAttr TAttr.row a.xAttrs)] := by
  obtain ⟨m, hl, hf⟩ := cn_struct h Try.underlying302
  rw [cells302] at hl
  obtain ⟨u0, l0, rfl, hl0⟩ := list_next hl
  obtain ⟨u1, l1, rfl, hl1⟩ := list_next hl0
  obtain ⟨u2, l2, rfl, hl2⟩ := list_next hl1
  obtain ⟨u3, l3, rfl, hl3⟩ := list_next hl2
  obtain rfl := List.length_eq_zero_iff.1 hl3
  obtain ⟨g0, g1, g2, g3, _⟩ := hf
  rw [cells9] at g0
  obtain ⟨y0, z0, o0⟩ := cn_str g0 Try.underlying9
  simp only [List.drop_succ_cons, List.drop_zero, List.take_succ_cons, List.take_zero, List.cons.injEq, and_true] at z0
  obtain rfl := z0
  rw [cells9] at g1
  obtain ⟨y1, z1, o1⟩ := cn_str g1 Try.underlying9
  simp only [List.drop_succ_cons, List.drop_zero, List.take_succ_cons, List.take_zero, List.cons.injEq, and_true] at z1
  obtain rfl := z1
  rw [cells3] at g2
  obtain ⟨y2, z2, o2⟩ := cn_int g2 Try.underlying3
  have o2 := okI_of o2
  simp only [List.drop_succ_cons, List.drop_zero, List.take_succ_cons, List.take_zero, List.cons.injEq, and_true] at z2
  obtain rfl := z2
  rw [cells261] at g3
  obtain ⟨_, r3, z3, b3, w3⟩ := cn_rows g3 Try.underlying261 Try.underlying316
  obtain ⟨y3, rfl, v3⟩ := rows_of (ks := kAttr) (g := TAttr.row) (ok := TAttr.ok) (fun r hr => by
    obtain ⟨us, h1, h2⟩ := w3 r hr
    obtain ⟨e, h3, h4⟩ := Attr_open h1
    exact ⟨e, h3, by rw [h2, h4]; rfl⟩)
  have o3 : okL TAttr.ok y3 := ⟨by rw [rows_len] at b3; exact b3, v3⟩
  rw [cells316, show fl 316 = true from rfl] at z3
  simp only [List.drop_succ_cons, List.drop_zero, List.take_succ_cons, List.take_zero, List.cons.injEq, and_true] at z3
  obtain rfl := z3
  exact ⟨⟨y0, y1, y2, y3⟩, ⟨o0, o1, o2, o3, trivial⟩, rfl⟩
theorem Builder_open {n : Nat} {us : List V} (h : Cn Try.prog fl n 162 us) : ∃ a : TBuilder, a.ok ∧ us = [.sl 4 false (rows kNode TNode.row a.xNodes), .sl 1 true (rInt a.xOpen)] := by
  obtain ⟨m, hl, hf⟩ := cn_struct h Try.underlying162
  rw [cells162] at hl
  obtain ⟨u0, l0, rfl, hl0⟩ := list_next hl
  obtain ⟨u1, l1, rfl, hl1⟩ := list_next hl0
  obtain rfl := List.length_eq_zero_iff.1 hl1
  obtain ⟨g0, g1, _⟩ := hf
  rw [cells160] at g0
  obtain ⟨_, r0, z0, b0, w0⟩ := cn_rows g0 Try.underlying160 Try.underlying302
  obtain ⟨y0, rfl, v0⟩ := rows_of (ks := kNode) (g := TNode.row) (ok := TNode.ok) (fun r hr => by
    obtain ⟨us, h1, h2⟩ := w0 r hr
    obtain ⟨e, h3, h4⟩ := Node_open h1
    exact ⟨e, h3, by rw [h2, h4]; rfl⟩)
  have o0 : okL TNode.ok y0 := ⟨by rw [rows_len] at b0; exact b0, v0⟩
  rw [cells302, show fl 302 = false from rfl] at z0
  simp only [List.drop_succ_cons, List.drop_zero, List.take_succ_cons, List.take_zero, List.cons.injEq, and_true] at z0
  obtain rfl := z0
  rw [cells82] at g1
  obtain ⟨_, r1, z1, b1, w1⟩ := cn_rows1 g1 Try.underlying82 (by rw [Try.underlying3]; intro fs hfs; cases hfs)
  obtain ⟨y1, rfl, v1⟩ := rows1_of (kd := .int .i64) (g := fun e => e) (ok := okI) (fun r hr => by
    obtain ⟨us, h1, h2⟩ := w1 r hr
    obtain ⟨e, h3, h4⟩ := cn_int h1 Try.underlying3
    exact ⟨e, okI_of h4, by rw [h2, h3]; rfl⟩)
  have o1 : okL okI y1 := ⟨by rw [rows1_len] at b1; exact b1, v1⟩
  rw [cells3, show fl 3 = true from rfl] at z1
  simp only [List.drop_succ_cons, List.drop_zero, List.take_succ_cons, List.take_zero, List.cons.injEq, and_true] at z1
  obtain rfl := z1
  exact ⟨⟨y0, y1⟩, ⟨o0, o1, trivial⟩, rfl⟩
theorem Slot_open {n : Nat} {us : List V} (h : Cn Try.prog fl n 268 us) : ∃ a : TSlot, a.ok ∧ us = [.int .i64 a.xMode, .str a.xTo.xHost, .str a.xTo.xPath, .str a.xDigest, .int .i64 a.xNode, .bool a.xDone, .int .i64 a.xCode, .str a.xBody] := by
  obtain ⟨m, hl, hf⟩ := cn_struct h Try.underlying268
  rw [cells268] at hl
  obtain ⟨u0, l0, rfl, hl0⟩ := list_next hl
  obtain ⟨u1, l1, rfl, hl1⟩ := list_next hl0
  obtain ⟨u2, l2, rfl, hl2⟩ := list_next hl1
  obtain ⟨u3, l3, rfl, hl3⟩ := list_next hl2
  obtain ⟨u4, l4, rfl, hl4⟩ := list_next hl3
  obtain ⟨u5, l5, rfl, hl5⟩ := list_next hl4
  obtain ⟨u6, l6, rfl, hl6⟩ := list_next hl5
  obtain ⟨u7, l7, rfl, hl7⟩ := list_next hl6
  obtain rfl := List.length_eq_zero_iff.1 hl7
  obtain ⟨g0, g1, g2, g3, g4, g5, g6, _⟩ := hf
  rw [cells3] at g0
  obtain ⟨y0, z0, o0⟩ := cn_int g0 Try.underlying3
  have o0 := okI_of o0
  simp only [List.drop_succ_cons, List.drop_zero, List.take_succ_cons, List.take_zero, List.cons.injEq, and_true] at z0
  obtain rfl := z0
  rw [cells132] at g1
  obtain ⟨y1, o1, z1⟩ := Addr_open g1
  simp only [List.drop_succ_cons, List.drop_zero, List.take_succ_cons, List.take_zero, List.cons.injEq, and_true] at z1
  obtain ⟨rfl, rfl⟩ := z1
  rw [cells9] at g2
  obtain ⟨y2, z2, o2⟩ := cn_str g2 Try.underlying9
  simp only [List.drop_succ_cons, List.drop_zero, List.take_succ_cons, List.take_zero, List.cons.injEq, and_true] at z2
  obtain rfl := z2
  rw [cells3] at g3
  obtain ⟨y3, z3, o3⟩ := cn_int g3 Try.underlying3
  have o3 := okI_of o3
  simp only [List.drop_succ_cons, List.drop_zero, List.take_succ_cons, List.take_zero, List.cons.injEq, and_true] at z3
  obtain rfl := z3
  rw [cells4] at g4
  obtain ⟨y4, z4⟩ := cn_bool g4 Try.underlying4
  have o4 : True := trivial
  simp only [List.drop_succ_cons, List.drop_zero, List.take_succ_cons, List.take_zero, List.cons.injEq, and_true] at z4
  obtain rfl := z4
  rw [cells3] at g5
  obtain ⟨y5, z5, o5⟩ := cn_int g5 Try.underlying3
  have o5 := okI_of o5
  simp only [List.drop_succ_cons, List.drop_zero, List.take_succ_cons, List.take_zero, List.cons.injEq, and_true] at z5
  obtain rfl := z5
  rw [cells9] at g6
  obtain ⟨y6, z6, o6⟩ := cn_str g6 Try.underlying9
  simp only [List.drop_succ_cons, List.drop_zero, List.take_succ_cons, List.take_zero, List.cons.injEq, and_true] at z6
  obtain rfl := z6
  exact ⟨⟨y0, y1, y2, y3, y4, y5, y6⟩, ⟨o0, o1, o2, o3, o4, o5, o6, trivial⟩, rfl⟩
theorem Module_open {n : Nat} {us : List V} (h : Cn Try.prog fl n 271 us) : ∃ a : TModule, a.ok ∧ us = [.str a.xTo.xHost, .str a.xTo.xPath, .bool a.xDone, .int .i64 a.xCode, .str a.xBody] := by
  obtain ⟨m, hl, hf⟩ := cn_struct h Try.underlying271
  rw [cells271] at hl
  obtain ⟨u0, l0, rfl, hl0⟩ := list_next hl
  obtain ⟨u1, l1, rfl, hl1⟩ := list_next hl0
  obtain ⟨u2, l2, rfl, hl2⟩ := list_next hl1
  obtain ⟨u3, l3, rfl, hl3⟩ := list_next hl2
  obtain ⟨u4, l4, rfl, hl4⟩ := list_next hl3
  obtain rfl := List.length_eq_zero_iff.1 hl4
  obtain ⟨g0, g1, g2, g3, _⟩ := hf
  rw [cells132] at g0
  obtain ⟨y0, o0, z0⟩ := Addr_open g0
  simp only [List.drop_succ_cons, List.drop_zero, List.take_succ_cons, List.take_zero, List.cons.injEq, and_true] at z0
  obtain ⟨rfl, rfl⟩ := z0
  rw [cells4] at g1
  obtain ⟨y1, z1⟩ := cn_bool g1 Try.underlying4
  have o1 : True := trivial
  simp only [List.drop_succ_cons, List.drop_zero, List.take_succ_cons, List.take_zero, List.cons.injEq, and_true] at z1
  obtain rfl := z1
  rw [cells3] at g2
  obtain ⟨y2, z2, o2⟩ := cn_int g2 Try.underlying3
  have o2 := okI_of o2
  simp only [List.drop_succ_cons, List.drop_zero, List.take_succ_cons, List.take_zero, List.cons.injEq, and_true] at z2
  obtain rfl := z2
  rw [cells9] at g3
  obtain ⟨y3, z3, o3⟩ := cn_str g3 Try.underlying9
  simp only [List.drop_succ_cons, List.drop_zero, List.take_succ_cons, List.take_zero, List.cons.injEq, and_true] at z3
  obtain rfl := z3
  exact ⟨⟨y0, y1, y2, y3⟩, ⟨o0, o1, o2, o3, trivial⟩, rfl⟩
theorem Page_open {n : Nat} {us : List V} (h : Cn Try.prog fl n 167 us) : ∃ a : TPage, a.ok ∧ us = [.str a.xAddr.xHost, .str a.xAddr.xPath, .bool a.xPolicy.xSet, .sl 1 true (rStr a.xPolicy.xScripts), .sl 1 true (rStr a.xPolicy.xStyles), .sl 1 true (rStr a.xPolicy.xImages), .str a.xPolicy.xNonce, .str a.xTok.xRest, .sl 4 false (rows kToken TToken.row a.xQueue), .bool a.xEnded, .sl 4 false (rows kNode TNode.row a.xBuilder.xNodes), .sl 1 true (rInt a.xBuilder.xOpen), .sl 8 true (rows kSlot TSlot.row a.xSlots), .sl 5 true (rows kModule TModule.row a.xMods), .sl 2 true (rows kAddr TAddr.row a.xEntries), .int .i64 a.xBlock, .int .i64 a.xInline, .int .i64 a.xDeferred, .int .i64 a.xEntered, .sl 2 true (rows kAddr TAddr.row a.xRan), .sl 1 true (rStr a.xLog), .bool a.xLoaded] := by
  obtain ⟨m, hl, hf⟩ := cn_struct h Try.underlying167
  rw [cells167] at hl
  obtain ⟨u0, l0, rfl, hl0⟩ := list_next hl
  obtain ⟨u1, l1, rfl, hl1⟩ := list_next hl0
  obtain ⟨u2, l2, rfl, hl2⟩ := list_next hl1
  obtain ⟨u3, l3, rfl, hl3⟩ := list_next hl2
  obtain ⟨u4, l4, rfl, hl4⟩ := list_next hl3
  obtain ⟨u5, l5, rfl, hl5⟩ := list_next hl4
  obtain ⟨u6, l6, rfl, hl6⟩ := list_next hl5
  obtain ⟨u7, l7, rfl, hl7⟩ := list_next hl6
  obtain ⟨u8, l8, rfl, hl8⟩ := list_next hl7
  obtain ⟨u9, l9, rfl, hl9⟩ := list_next hl8
  obtain ⟨u10, l10, rfl, hl10⟩ := list_next hl9
  obtain ⟨u11, l11, rfl, hl11⟩ := list_next hl10
  obtain ⟨u12, l12, rfl, hl12⟩ := list_next hl11
  obtain ⟨u13, l13, rfl, hl13⟩ := list_next hl12
  obtain ⟨u14, l14, rfl, hl14⟩ := list_next hl13
  obtain ⟨u15, l15, rfl, hl15⟩ := list_next hl14
  obtain ⟨u16, l16, rfl, hl16⟩ := list_next hl15
  obtain ⟨u17, l17, rfl, hl17⟩ := list_next hl16
  obtain ⟨u18, l18, rfl, hl18⟩ := list_next hl17
  obtain ⟨u19, l19, rfl, hl19⟩ := list_next hl18
  obtain ⟨u20, l20, rfl, hl20⟩ := list_next hl19
  obtain ⟨u21, l21, rfl, hl21⟩ := list_next hl20
  obtain rfl := List.length_eq_zero_iff.1 hl21
  obtain ⟨g0, g1, g2, g3, g4, g5, g6, g7, g8, g9, g10, g11, g12, g13, g14, g15, _⟩ := hf
  rw [cells132] at g0
  obtain ⟨y0, o0, z0⟩ := Addr_open g0
  simp only [List.drop_succ_cons, List.drop_zero, List.take_succ_cons, List.take_zero, List.cons.injEq, and_true] at z0
  obtain ⟨rfl, rfl⟩ := z0
  rw [cells157] at g1
  obtain ⟨y1, o1, z1⟩ := Policy_open g1
  simp only [List.drop_succ_cons, List.drop_zero, List.take_succ_cons, List.take_zero, List.cons.injEq, and_true] at z1
  obtain ⟨rfl, rfl, rfl, rfl, rfl⟩ := z1
  rw [cells158] at g2
  obtain ⟨y2, o2, z2⟩ := Tokenizer_open g2
  simp only [List.drop_succ_cons, List.drop_zero, List.take_succ_cons, List.take_zero, List.cons.injEq, and_true] at z2
  obtain rfl := z2
  rw [cells159] at g3
  obtain ⟨_, r3, z3, b3, w3⟩ := cn_rows g3 Try.underlying159 Try.underlying263
  obtain ⟨y3, rfl, v3⟩ := rows_of (ks := kToken) (g := TToken.row) (ok := TToken.ok) (fun r hr => by
    obtain ⟨us, h1, h2⟩ := w3 r hr
    obtain ⟨e, h3, h4⟩ := Token_open h1
    exact ⟨e, h3, by rw [h2, h4]; rfl⟩)
  have o3 : okL TToken.ok y3 := ⟨by rw [rows_len] at b3; exact b3, v3⟩
  rw [cells263, show fl 263 = false from rfl] at z3
  simp only [List.drop_succ_cons, List.drop_zero, List.take_succ_cons, List.take_zero, List.cons.injEq, and_true] at z3
  obtain rfl := z3
  rw [cells4] at g4
  obtain ⟨y4, z4⟩ := cn_bool g4 Try.underlying4
  have o4 : True := trivial
  simp only [List.drop_succ_cons, List.drop_zero, List.take_succ_cons, List.take_zero, List.cons.injEq, and_true] at z4
  obtain rfl := z4
  rw [cells162] at g5
  obtain ⟨y5, o5, z5⟩ := Builder_open g5
  simp only [List.drop_succ_cons, List.drop_zero, List.take_succ_cons, List.take_zero, List.cons.injEq, and_true] at z5
  obtain ⟨rfl, rfl⟩ := z5
  rw [cells163] at g6
  obtain ⟨_, r6, z6, b6, w6⟩ := cn_rows g6 Try.underlying163 Try.underlying268
  obtain ⟨y6, rfl, v6⟩ := rows_of (ks := kSlot) (g := TSlot.row) (ok := TSlot.ok) (fun r hr => by
    obtain ⟨us, h1, h2⟩ := w6 r hr
    obtain ⟨e, h3, h4⟩ := Slot_open h1
    exact ⟨e, h3, by rw [h2, h4]; rfl⟩)
  have o6 : okL TSlot.ok y6 := ⟨by rw [rows_len] at b6; exact b6, v6⟩
  rw [cells268, show fl 268 = true from rfl] at z6
  simp only [List.drop_succ_cons, List.drop_zero, List.take_succ_cons, List.take_zero, List.cons.injEq, and_true] at z6
  obtain rfl := z6
  rw [cells164] at g7
  obtain ⟨_, r7, z7, b7, w7⟩ := cn_rows g7 Try.underlying164 Try.underlying271
  obtain ⟨y7, rfl, v7⟩ := rows_of (ks := kModule) (g := TModule.row) (ok := TModule.ok) (fun r hr => by
    obtain ⟨us, h1, h2⟩ := w7 r hr
    obtain ⟨e, h3, h4⟩ := Module_open h1
    exact ⟨e, h3, by rw [h2, h4]; rfl⟩)
  have o7 : okL TModule.ok y7 := ⟨by rw [rows_len] at b7; exact b7, v7⟩
  rw [cells271, show fl 271 = true from rfl] at z7
  simp only [List.drop_succ_cons, List.drop_zero, List.take_succ_cons, List.take_zero, List.cons.injEq, and_true] at z7
  obtain rfl := z7
  rw [cells165] at g8
  obtain ⟨_, r8, z8, b8, w8⟩ := cn_rows g8 Try.underlying165 Try.underlying132
  obtain ⟨y8, rfl, v8⟩ := rows_of (ks := kAddr) (g := TAddr.row) (ok := TAddr.ok) (fun r hr => by
    obtain ⟨us, h1, h2⟩ := w8 r hr
    obtain ⟨e, h3, h4⟩ := Addr_open h1
    exact ⟨e, h3, by rw [h2, h4]; rfl⟩)
  have o8 : okL TAddr.ok y8 := ⟨by rw [rows_len] at b8; exact b8, v8⟩
  rw [cells132, show fl 132 = true from rfl] at z8
  simp only [List.drop_succ_cons, List.drop_zero, List.take_succ_cons, List.take_zero, List.cons.injEq, and_true] at z8
  obtain rfl := z8
  rw [cells3] at g9
  obtain ⟨y9, z9, o9⟩ := cn_int g9 Try.underlying3
  have o9 := okI_of o9
  simp only [List.drop_succ_cons, List.drop_zero, List.take_succ_cons, List.take_zero, List.cons.injEq, and_true] at z9
  obtain rfl := z9
  rw [cells3] at g10
  obtain ⟨y10, z10, o10⟩ := cn_int g10 Try.underlying3
  have o10 := okI_of o10
  simp only [List.drop_succ_cons, List.drop_zero, List.take_succ_cons, List.take_zero, List.cons.injEq, and_true] at z10
  obtain rfl := z10
  rw [cells3] at g11
  obtain ⟨y11, z11, o11⟩ := cn_int g11 Try.underlying3
  have o11 := okI_of o11
  simp only [List.drop_succ_cons, List.drop_zero, List.take_succ_cons, List.take_zero, List.cons.injEq, and_true] at z11
  obtain rfl := z11
  rw [cells3] at g12
  obtain ⟨y12, z12, o12⟩ := cn_int g12 Try.underlying3
  have o12 := okI_of o12
  simp only [List.drop_succ_cons, List.drop_zero, List.take_succ_cons, List.take_zero, List.cons.injEq, and_true] at z12
  obtain rfl := z12
  rw [cells165] at g13
  obtain ⟨_, r13, z13, b13, w13⟩ := cn_rows g13 Try.underlying165 Try.underlying132
  obtain ⟨y13, rfl, v13⟩ := rows_of (ks := kAddr) (g := TAddr.row) (ok := TAddr.ok) (fun r hr => by
    obtain ⟨us, h1, h2⟩ := w13 r hr
    obtain ⟨e, h3, h4⟩ := Addr_open h1
    exact ⟨e, h3, by rw [h2, h4]; rfl⟩)
  have o13 : okL TAddr.ok y13 := ⟨by rw [rows_len] at b13; exact b13, v13⟩
  rw [cells132, show fl 132 = true from rfl] at z13
  simp only [List.drop_succ_cons, List.drop_zero, List.take_succ_cons, List.take_zero, List.cons.injEq, and_true] at z13
  obtain rfl := z13
  rw [cells63] at g14
  obtain ⟨_, r14, z14, b14, w14⟩ := cn_rows1 g14 Try.underlying63 (by rw [Try.underlying9]; intro fs hfs; cases hfs)
  obtain ⟨y14, rfl, v14⟩ := rows1_of (kd := .str) (g := fun e => e) (ok := okS) (fun r hr => by
    obtain ⟨us, h1, h2⟩ := w14 r hr
    obtain ⟨e, h3, h4⟩ := cn_str h1 Try.underlying9
    exact ⟨e, h4, by rw [h2, h3]; rfl⟩)
  have o14 : okL okS y14 := ⟨by rw [rows1_len] at b14; exact b14, v14⟩
  rw [cells9, show fl 9 = true from rfl] at z14
  simp only [List.drop_succ_cons, List.drop_zero, List.take_succ_cons, List.take_zero, List.cons.injEq, and_true] at z14
  obtain rfl := z14
  rw [cells4] at g15
  obtain ⟨y15, z15⟩ := cn_bool g15 Try.underlying4
  have o15 : True := trivial
  simp only [List.drop_succ_cons, List.drop_zero, List.take_succ_cons, List.take_zero, List.cons.injEq, and_true] at z15
  obtain rfl := z15
  exact ⟨⟨y0, y1, y2, y3, y4, y5, y6, y7, y8, y9, y10, y11, y12, y13, y14, y15⟩, ⟨o0, o1, o2, o3, o4, o5, o6, o7, o8, o9, o10, o11, o12, o13, o14, o15, trivial⟩, rfl⟩
theorem Visit_open {n : Nat} {us : List V} (h : Cn Try.prog fl n 169 us) : ∃ a : TVisit, a.ok ∧ us = [.str a.xAddr.xHost, .str a.xAddr.xPath, .str a.xPage.xAddr.xHost, .str a.xPage.xAddr.xPath, .bool a.xPage.xPolicy.xSet, .sl 1 true (rStr a.xPage.xPolicy.xScripts), .sl 1 true (rStr a.xPage.xPolicy.xStyles), .sl 1 true (rStr a.xPage.xPolicy.xImages), .str a.xPage.xPolicy.xNonce, .str a.xPage.xTok.xRest, .sl 4 false (rows kToken TToken.row a.xPage.xQueue), .bool a.xPage.xEnded, .sl 4 false (rows kNode TNode.row a.xPage.xBuilder.xNodes), .sl 1 true (rInt a.xPage.xBuilder.xOpen), .sl 8 true (rows kSlot TSlot.row a.xPage.xSlots), .sl 5 true (rows kModule TModule.row a.xPage.xMods), .sl 2 true (rows kAddr TAddr.row a.xPage.xEntries), .int .i64 a.xPage.xBlock, .int .i64 a.xPage.xInline, .int .i64 a.xPage.xDeferred, .int .i64 a.xPage.xEntered, .sl 2 true (rows kAddr TAddr.row a.xPage.xRan), .sl 1 true (rStr a.xPage.xLog), .bool a.xPage.xLoaded, .bool a.xKept] := by
  obtain ⟨m, hl, hf⟩ := cn_struct h Try.underlying169
  rw [cells169] at hl
  obtain ⟨u0, l0, rfl, hl0⟩ := list_next hl
  obtain ⟨u1, l1, rfl, hl1⟩ := list_next hl0
  obtain ⟨u2, l2, rfl, hl2⟩ := list_next hl1
  obtain ⟨u3, l3, rfl, hl3⟩ := list_next hl2
  obtain ⟨u4, l4, rfl, hl4⟩ := list_next hl3
  obtain ⟨u5, l5, rfl, hl5⟩ := list_next hl4
  obtain ⟨u6, l6, rfl, hl6⟩ := list_next hl5
  obtain ⟨u7, l7, rfl, hl7⟩ := list_next hl6
  obtain ⟨u8, l8, rfl, hl8⟩ := list_next hl7
  obtain ⟨u9, l9, rfl, hl9⟩ := list_next hl8
  obtain ⟨u10, l10, rfl, hl10⟩ := list_next hl9
  obtain ⟨u11, l11, rfl, hl11⟩ := list_next hl10
  obtain ⟨u12, l12, rfl, hl12⟩ := list_next hl11
  obtain ⟨u13, l13, rfl, hl13⟩ := list_next hl12
  obtain ⟨u14, l14, rfl, hl14⟩ := list_next hl13
  obtain ⟨u15, l15, rfl, hl15⟩ := list_next hl14
  obtain ⟨u16, l16, rfl, hl16⟩ := list_next hl15
  obtain ⟨u17, l17, rfl, hl17⟩ := list_next hl16
  obtain ⟨u18, l18, rfl, hl18⟩ := list_next hl17
  obtain ⟨u19, l19, rfl, hl19⟩ := list_next hl18
  obtain ⟨u20, l20, rfl, hl20⟩ := list_next hl19
  obtain ⟨u21, l21, rfl, hl21⟩ := list_next hl20
  obtain ⟨u22, l22, rfl, hl22⟩ := list_next hl21
  obtain ⟨u23, l23, rfl, hl23⟩ := list_next hl22
  obtain ⟨u24, l24, rfl, hl24⟩ := list_next hl23
  obtain rfl := List.length_eq_zero_iff.1 hl24
  obtain ⟨g0, g1, g2, _⟩ := hf
  rw [cells132] at g0
  obtain ⟨y0, o0, z0⟩ := Addr_open g0
  simp only [List.drop_succ_cons, List.drop_zero, List.take_succ_cons, List.take_zero, List.cons.injEq, and_true] at z0
  obtain ⟨rfl, rfl⟩ := z0
  rw [cells167] at g1
  obtain ⟨y1, o1, z1⟩ := Page_open g1
  simp only [List.drop_succ_cons, List.drop_zero, List.take_succ_cons, List.take_zero, List.cons.injEq, and_true] at z1
  obtain ⟨rfl, rfl, rfl, rfl, rfl, rfl, rfl, rfl, rfl, rfl, rfl, rfl, rfl, rfl, rfl, rfl, rfl, rfl, rfl, rfl, rfl, rfl⟩ := z1
  rw [cells4] at g2
  obtain ⟨y2, z2⟩ := cn_bool g2 Try.underlying4
  have o2 : True := trivial
  simp only [List.drop_succ_cons, List.drop_zero, List.take_succ_cons, List.take_zero, List.cons.injEq, and_true] at z2
  obtain rfl := z2
  exact ⟨⟨y0, y1, y2⟩, ⟨o0, o1, o2, trivial⟩, rfl⟩
theorem Tab_open {n : Nat} {us : List V} (h : Cn Try.prog fl n 53 us) : ∃ a : TTab, a.ok ∧ us = [.sl 25 false (rows kVisit TVisit.row a.xVisits), .int .i64 a.xAt] := by
  obtain ⟨m, hl, hf⟩ := cn_struct h Try.underlying53
  rw [cells53] at hl
  obtain ⟨u0, l0, rfl, hl0⟩ := list_next hl
  obtain ⟨u1, l1, rfl, hl1⟩ := list_next hl0
  obtain rfl := List.length_eq_zero_iff.1 hl1
  obtain ⟨g0, g1, _⟩ := hf
  rw [cells51] at g0
  obtain ⟨_, r0, z0, b0, w0⟩ := cn_rows g0 Try.underlying51 Try.underlying169
  obtain ⟨y0, rfl, v0⟩ := rows_of (ks := kVisit) (g := TVisit.row) (ok := TVisit.ok) (fun r hr => by
    obtain ⟨us, h1, h2⟩ := w0 r hr
    obtain ⟨e, h3, h4⟩ := Visit_open h1
    exact ⟨e, h3, by rw [h2, h4]; rfl⟩)
  have o0 : okL TVisit.ok y0 := ⟨by rw [rows_len] at b0; exact b0, v0⟩
  rw [cells169, show fl 169 = false from rfl] at z0
  simp only [List.drop_succ_cons, List.drop_zero, List.take_succ_cons, List.take_zero, List.cons.injEq, and_true] at z0
  obtain rfl := z0
  rw [cells3] at g1
  obtain ⟨y1, z1, o1⟩ := cn_int g1 Try.underlying3
  have o1 := okI_of o1
  simp only [List.drop_succ_cons, List.drop_zero, List.take_succ_cons, List.take_zero, List.cons.injEq, and_true] at z1
  obtain rfl := z1
  exact ⟨⟨y0, y1⟩, ⟨o0, o1, trivial⟩, rfl⟩
theorem answers : Answers Try.prog D := sound_den agree (fun den hD => drawOk agree (by kernel_rfl) hD) extAns
end Go.Am

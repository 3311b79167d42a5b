/-
  The data of the laws: structures, their rows, their sizes; and what laws.sz.., laws.to.., laws.eq.. compute on them. Written by program (typed.py).
-/
import Derived.Test.YtlgbgnlpbnhhfaaGreatExt
import Derived.Test.YtlgbgnlpbnhhfaaGreatFps
import Derived.Test.YtlgbgnlpbnhhfaaGreatAmTyped
import Derived.Test.YtlgbgnlpbnhhfaaGreatTy
import Derived.Test.YtlgbgnlpbnhhfaaGreatAmData
namespace Go.Am
open Go Go.Proofs
set_option linter.unusedVariables false
set_option linter.unusedSimpArgs false
variable {β : Type}
theorem szStringS (a : List (List UInt8)) (l : Int) (h0 : 0 ≤ l) (h1 : l ≤ 1048576) (h : okL okS a) (k : Int → Option β) : F58 β (rStr a) l k = k (szL l (a.length + sumL List.length a)) := by
  simp only [F58, P58, rStr_len]
  refine szCut h0 h1 h.1 (fun m e h0 h1 => ?_)
  rw [e]
  refine while_sz (fun (i : Nat) (m : Int) => ([.l (rStr a), .i m, .i (i : Int)] : List Leaf)) a List.length (fun m => (1, [.i m])) (fun i y m hi hm0 hm1 => ?_) (fun m => brN rirr1 rfl) (fun m => rfl) h0 h1 rfl
  have hlt : i < a.length := (List.getElem?_eq_some_iff.1 hi).1
  have hb := h.1
  unfold maxLen at hb
  have hw := wrap_sub hm0 hm1 (h.2 y (List.mem_of_getElem? hi))
  by_cases c : m < (y.length : Int)
  · exact .inl ⟨_, c, brE (rlt1 hlt) (chkE (Int.natCast_nonneg _) (idxE1 (i := i) hi (brE (show IntKind.wrap .i64 (m - (y.length : Int)) < 0 by rw [hw]; omega) rfl))), rfl⟩
  · have c := Int.not_lt.1 c
    exact .inr ⟨c, brE (rlt1 hlt) (chkE (Int.natCast_nonneg _) (idxE1 (i := i) hi (brN (fun h => by have h : IntKind.wrap .i64 (m - (y.length : Int)) < 0 := h; rw [hw] at h; omega) (two (fun m j : Int => (some (Sum.inl ([.l (rStr a), .i m, .i j] : List Leaf)) : Option (List Leaf ⊕ (Nat × List Leaf)))) hw (wrapS (i := i) (by omega))))))⟩
theorem toStringS (a : List (List UInt8)) (h : a.length + sumL List.length a ≤ 1048576) (k : List V → Option β) : F73 β (rStr a) k = k (rStr a) := by
  simp only [F73, P73, rStr_len, whileK, Int.toNat_natCast]
  refine chkE ⟨by omega, by omega, by omega, by omega⟩ ?_
  rw [while_each (fun i : Nat => ([.l (rStr a), .l (rStr (copyS a ([] : List UInt8) i)), .i (i : Int)] : List Leaf)) a (0, [.l (rStr a)]) ?h1 ?h2 _ ?hs]
  case hs => rw [← rStr_copy0]; rfl
  case h1 =>
    intro i y hi
    have hlt : i < a.length := (List.getElem?_eq_some_iff.1 hi).1
    have hl := copyS_len (a := a) (n := ([] : List UInt8)) (i := i) (by omega)
    refine brE (rlt1 hlt) (chkE (Int.natCast_nonneg _) (idxE1 (i := i) hi (chkE ⟨Int.natCast_nonneg _, ?_⟩ (storeE1 (kd := .str) (g1 := fun e => e) (y := y) (i := i) rfl (Nat.lt_of_lt_of_eq hlt hl.symm) ?_))))
    · show (Int.toNat (i : Int)) < (rStr (copyS a ([] : List UInt8) i)).length
      rw [rStr_len]; exact Nat.lt_of_lt_of_eq hlt hl.symm
    · exact two (fun (c : List (List UInt8)) (j : Int) => (some (Sum.inl ([.l (rStr a), .l (rStr c), .i j] : List Leaf)) : Option (List Leaf ⊕ (Nat × List Leaf)))) (copyS_set hi) (wrapS (i := i) (by omega))
  case h2 =>
    rw [copyS_end]
    exact brN rirr1 rfl
  · rfl
theorem eqStringS (a b : List (List UInt8)) (h : okL okS a) (k : Bool → Option β) : F88 β (rStr a) (rStr b) k = k (decide (a = b)) := by
  simp only [F88, P88]
  refine eqLen (rStr_len ..) (rStr_len ..) (fun hl => ?_)
  refine while_eq (fun i : Nat => ([.l (rStr a), .l (rStr b), .i (i : Int)] : List Leaf)) a b hl (fun i x y hi hx hy => ?_) (brN rirr1 rfl) rfl rfl rfl
  have hb := h.1
  unfold maxLen at hb
  exact brE (rlt1 hi) (chkE (Int.natCast_nonneg _) (idxE1 (i := i) hx (chkE (Int.natCast_nonneg _) (idxE1 (i := i) hy (brB (c := !decide (x = y)) (by rw [Bool.eq_iff_iff]; simp) rfl (congrArg (fun j : Int => (some (Sum.inl ([.l (rStr a), .l (rStr b), .i j] : List Leaf)) : Option (List Leaf ⊕ (Nat × List Leaf)))) (wrapS (i := i) (by omega))))))))
theorem szIntS (a : List Int) (l : Int) (h0 : 0 ≤ l) (h1 : l ≤ 1048576) (h : okL okI a) (k : Int → Option β) : F129 β (rInt a) l k = k (szL l a.length) := by
  simp only [F129, P129, rInt_len]
  refine szCut (t := 0) h0 h1 h.1 (fun m e h0 h1 => ?_)
  rw [e]
  exact szEnd h0
theorem toIntS (a : List Int) (h : a.length ≤ 1048576) (k : List V → Option β) : F138 β (rInt a) k = k (rInt a) := by
  simp only [F138, P138, rInt_len, whileK, Int.toNat_natCast]
  refine chkE ⟨by omega, by omega, by omega, by omega⟩ ?_
  rw [while_each (fun i : Nat => ([.l (rInt a), .l (rInt (copyS a (0 : Int) i)), .i (i : Int)] : List Leaf)) a (0, [.l (rInt a)]) ?h1 ?h2 _ ?hs]
  case hs => rw [← rInt_copy0]; rfl
  case h1 =>
    intro i y hi
    have hlt : i < a.length := (List.getElem?_eq_some_iff.1 hi).1
    have hl := copyS_len (a := a) (n := (0 : Int)) (i := i) (by omega)
    refine brE (rlt1 hlt) (chkE (Int.natCast_nonneg _) (idxE1 (i := i) hi (chkE ⟨Int.natCast_nonneg _, ?_⟩ (storeE1 (kd := .int .i64) (g1 := fun e => e) (y := y) (i := i) rfl (Nat.lt_of_lt_of_eq hlt hl.symm) ?_))))
    · show (Int.toNat (i : Int)) < (rInt (copyS a (0 : Int) i)).length
      rw [rInt_len]; exact Nat.lt_of_lt_of_eq hlt hl.symm
    · exact two (fun (c : List Int) (j : Int) => (some (Sum.inl ([.l (rInt a), .l (rInt c), .i j] : List Leaf)) : Option (List Leaf ⊕ (Nat × List Leaf)))) (copyS_set hi) (wrapS (i := i) (by omega))
  case h2 =>
    rw [copyS_end]
    exact brN rirr1 rfl
  · rfl
theorem eqIntS (a b : List Int) (h : okL okI a) (k : Bool → Option β) : F148 β (rInt a) (rInt b) k = k (decide (a = b)) := by
  simp only [F148, P148]
  refine eqLen (rInt_len ..) (rInt_len ..) (fun hl => ?_)
  refine while_eq (fun i : Nat => ([.l (rInt a), .l (rInt b), .i (i : Int)] : List Leaf)) a b hl (fun i x y hi hx hy => ?_) (brN rirr1 rfl) rfl rfl rfl
  have hb := h.1
  unfold maxLen at hb
  exact brE (rlt1 hi) (chkE (Int.natCast_nonneg _) (idxE1 (i := i) hx (chkE (Int.natCast_nonneg _) (idxE1 (i := i) hy (brB (c := !decide (x = y)) (by rw [Bool.eq_iff_iff]; simp) rfl (congrArg (fun j : Int => (some (Sum.inl ([.l (rInt a), .l (rInt b), .i j] : List Leaf)) : Option (List Leaf ⊕ (Nat × List Leaf)))) (wrapS (i := i) (by omega))))))))

/-! ### Addr -/
def TAddr.nul : TAddr := ⟨[], []⟩
def TAddr.size (a : TAddr) : Nat := a.xHost.length + (a.xPath.length + (0))
def TAddr.ok (a : TAddr) : Prop := okS a.xHost ∧ okS a.xPath ∧ True
theorem szAddr (a : TAddr) (l : Int) (h0 : 0 ≤ l) (h1 : l ≤ 1048576) (h : a.ok) (k : Int → Option β) : F50 β a.xHost a.xPath l k = k (szL l a.size) := by
  obtain ⟨q0, q1, _⟩ := h
  unfold TAddr.size
  simp only [F50, P50]
  refine szCut h0 h1 q0 (fun m0 e0 h0 h1 => ?_)
  rw [e0]
  refine szCut h0 h1 q1 (fun m1 e1 h0 h1 => ?_)
  rw [e1]
  exact szEnd h0
theorem toAddr (a : TAddr) (h : a.size ≤ 1048576) (k : List UInt8 → List UInt8 → Option β) : F65 β a.xHost a.xPath k = k a.xHost a.xPath := by
  unfold TAddr.size at h
  simp only [F65, P65]
theorem eqAddr_iff (a b : TAddr) : ((a.xHost == b.xHost) && ((a.xPath == b.xPath) && (true))) = decide (a = b) := by
  cases a; cases b
  rw [Bool.eq_iff_iff]
  simp only [TAddr.mk.injEq, Bool.and_true, Bool.and_eq_true, beq_iff_eq, decide_eq_true_eq]
theorem eqAddr (a b : TAddr) (h : a.ok) (k : Bool → Option β) : F80 β a.xHost a.xPath b.xHost b.xPath k = k (decide (a = b)) := by
  obtain ⟨q0, q1, _⟩ := h
  simp only [F80, P80]
  refine Eq.trans (b := k ((a.xHost == b.xHost) && ((a.xPath == b.xPath) && (true)))) ?_ (congrArg k (eqAddr_iff a b))
  refine eqCut ?_
  refine eqCut ?_
  rfl
theorem szAddrS (a : List TAddr) (l : Int) (h0 : 0 ≤ l) (h1 : l ≤ 1048576) (h : okL TAddr.ok a) (k : Int → Option β) : F57 β (rows kAddr TAddr.row a) l k = k (szL l (a.length + sumL TAddr.size a)) := by
  simp only [F57, P57, rows_len]
  refine szCut h0 h1 h.1 (fun m e h0 h1 => ?_)
  rw [e]
  refine while_sz (fun (i : Nat) (m : Int) => ([.l (rows kAddr TAddr.row a), .i m, .i (i : Int)] : List Leaf)) a TAddr.size (fun m => (1, [.i m])) (fun i y m hi hm0 hm1 => ?_) (fun m => brN rirr rfl) (fun m => rfl) h0 h1 rfl
  have hlt : i < a.length := (List.getElem?_eq_some_iff.1 hi).1
  have hb := h.1
  unfold maxLen at hb
  rcases @szCase m y.size with ⟨c, e⟩ | ⟨c, e⟩
  · exact .inl ⟨_, c, brE (rlt hlt) (chkE (Int.natCast_nonneg _) (idxE (i := i) hi ((szAddr y m hm0 hm1 (h.2 y (List.mem_of_getElem? hi)) _).trans (brE (by rw [e]; decide) rfl)))), rfl⟩
  · exact .inr ⟨c, brE (rlt hlt) (chkE (Int.natCast_nonneg _) (idxE (i := i) hi ((szAddr y m hm0 hm1 (h.2 y (List.mem_of_getElem? hi)) _).trans (brN (by rw [e]; omega) (two (fun m j : Int => (some (Sum.inl ([.l (rows kAddr TAddr.row a), .i m, .i j] : List Leaf)) : Option (List Leaf ⊕ (Nat × List Leaf)))) e (wrapS (i := i) (by omega)))))))⟩
theorem toAddrS (a : List TAddr) (h : a.length + sumL TAddr.size a ≤ 1048576) (k : List V → Option β) : F72 β (rows kAddr TAddr.row a) k = k (rows kAddr TAddr.row a) := by
  simp only [F72, P72, rows_len, whileK, Int.toNat_natCast]
  refine chkE ⟨by omega, by omega, by omega, by omega⟩ ?_
  rw [while_each (fun i : Nat => ([.l (rows kAddr TAddr.row a), .l (rows kAddr TAddr.row (copyS a TAddr.nul i)), .i (i : Int)] : List Leaf)) a (0, [.l (rows kAddr TAddr.row a)]) ?h1 ?h2 _ ?hs]
  case hs => rw [← rows_copy0 rfl]; rfl
  case h1 =>
    intro i y hi
    have hlt : i < a.length := (List.getElem?_eq_some_iff.1 hi).1
    have hl := copyS_len (a := a) (n := TAddr.nul) (i := i) (by omega)
    have hm := sumL_mem (f := TAddr.size) (List.mem_of_getElem? hi)
    refine brE (rlt hlt) (chkE (Int.natCast_nonneg _) (idxE (i := i) hi ((toAddr y (by omega) _).trans (chkE ⟨Int.natCast_nonneg _, ?_⟩ (storeE (g := TAddr.row) (y := y) (i := i) rfl (Nat.lt_of_lt_of_eq hlt hl.symm) ?_)))))
    · show (Int.toNat (i : Int)) < (rows kAddr TAddr.row (copyS a TAddr.nul i)).length
      rw [rows_len]; exact Nat.lt_of_lt_of_eq hlt hl.symm
    · exact two (fun (c : List TAddr) (j : Int) => (some (Sum.inl ([.l (rows kAddr TAddr.row a), .l (rows kAddr TAddr.row c), .i j] : List Leaf)) : Option (List Leaf ⊕ (Nat × List Leaf)))) (copyS_set hi) (wrapS (i := i) (by omega))
  case h2 =>
    rw [copyS_end]
    exact brN rirr rfl
  · rfl
theorem eqAddrS (a b : List TAddr) (h : okL TAddr.ok a) (k : Bool → Option β) : F87 β (rows kAddr TAddr.row a) (rows kAddr TAddr.row b) k = k (decide (a = b)) := by
  simp only [F87, P87]
  refine eqLen (rows_len ..) (rows_len ..) (fun hl => ?_)
  refine while_eq (fun i : Nat => ([.l (rows kAddr TAddr.row a), .l (rows kAddr TAddr.row b), .i (i : Int)] : List Leaf)) a b hl (fun i x y hi hx hy => ?_) (brN rirr rfl) rfl rfl rfl
  have hb := h.1
  unfold maxLen at hb
  exact brE (rlt hi) (chkE (Int.natCast_nonneg _) (idxE (i := i) hx (chkE (Int.natCast_nonneg _) (idxE (i := i) hy ((eqAddr x y (h.2 x (List.mem_of_getElem? hx)) _).trans (brB rfl rfl (congrArg (fun j : Int => (some (Sum.inl ([.l (rows kAddr TAddr.row a), .l (rows kAddr TAddr.row b), .i j] : List Leaf)) : Option (List Leaf ⊕ (Nat × List Leaf)))) (wrapS (i := i) (by omega)))))))))

/-! ### Policy -/
def TPolicy.nul : TPolicy := ⟨false, [], [], [], []⟩
def TPolicy.size (a : TPolicy) : Nat := (a.xScripts.length + sumL List.length a.xScripts) + ((a.xStyles.length + sumL List.length a.xStyles) + ((a.xImages.length + sumL List.length a.xImages) + (a.xNonce.length + (0))))
def TPolicy.ok (a : TPolicy) : Prop := True ∧ okL okS a.xScripts ∧ okL okS a.xStyles ∧ okL okS a.xImages ∧ okS a.xNonce ∧ True
theorem szPolicy (a : TPolicy) (l : Int) (h0 : 0 ≤ l) (h1 : l ≤ 1048576) (h : a.ok) (k : Int → Option β) : F51 β a.xSet (rStr a.xScripts) (rStr a.xStyles) (rStr a.xImages) a.xNonce l k = k (szL l a.size) := by
  obtain ⟨q0, q1, q2, q3, q4, _⟩ := h
  unfold TPolicy.size
  simp only [F51, P51]
  refine (szStringS a.xScripts _ h0 h1 q1 _).trans (szSub h0 h1 (fun m1 e1 h0 h1 => ?_))
  rw [e1]
  refine (szStringS a.xStyles _ h0 h1 q2 _).trans (szSub h0 h1 (fun m2 e2 h0 h1 => ?_))
  rw [e2]
  refine (szStringS a.xImages _ h0 h1 q3 _).trans (szSub h0 h1 (fun m3 e3 h0 h1 => ?_))
  rw [e3]
  refine szCut h0 h1 q4 (fun m4 e4 h0 h1 => ?_)
  rw [e4]
  exact szEnd h0
theorem toPolicy (a : TPolicy) (h : a.size ≤ 1048576) (k : Bool → List V → List V → List V → List UInt8 → Option β) : F66 β a.xSet (rStr a.xScripts) (rStr a.xStyles) (rStr a.xImages) a.xNonce k = k a.xSet (rStr a.xScripts) (rStr a.xStyles) (rStr a.xImages) a.xNonce := by
  unfold TPolicy.size at h
  simp only [F66, P66]
  exact (toStringS a.xScripts (by omega) _).trans ((toStringS a.xStyles (by omega) _).trans ((toStringS a.xImages (by omega) _).trans (rfl)))
theorem eqPolicy_iff (a b : TPolicy) : ((a.xSet == b.xSet) && (decide (a.xScripts = b.xScripts) && (decide (a.xStyles = b.xStyles) && (decide (a.xImages = b.xImages) && ((a.xNonce == b.xNonce) && (true)))))) = decide (a = b) := by
  cases a; cases b
  rw [Bool.eq_iff_iff]
  simp only [TPolicy.mk.injEq, Bool.and_true, Bool.and_eq_true, beq_iff_eq, decide_eq_true_eq]
theorem eqPolicy (a b : TPolicy) (h : a.ok) (k : Bool → Option β) : F81 β a.xSet (rStr a.xScripts) (rStr a.xStyles) (rStr a.xImages) a.xNonce b.xSet (rStr b.xScripts) (rStr b.xStyles) (rStr b.xImages) b.xNonce k = k (decide (a = b)) := by
  obtain ⟨q0, q1, q2, q3, q4, _⟩ := h
  simp only [F81, P81]
  refine Eq.trans (b := k ((a.xSet == b.xSet) && (decide (a.xScripts = b.xScripts) && (decide (a.xStyles = b.xStyles) && (decide (a.xImages = b.xImages) && ((a.xNonce == b.xNonce) && (true))))))) ?_ (congrArg k (eqPolicy_iff a b))
  refine eqCut ?_
  refine (eqStringS a.xScripts b.xScripts q1 _).trans (eqCut ?_)
  refine (eqStringS a.xStyles b.xStyles q2 _).trans (eqCut ?_)
  refine (eqStringS a.xImages b.xImages q3 _).trans (eqCut ?_)
  refine eqCut ?_
  rfl

/-! ### Tokenizer -/
def TTokenizer.nul : TTokenizer := ⟨[]⟩
def TTokenizer.size (a : TTokenizer) : Nat := a.xRest.length + (0)
def TTokenizer.ok (a : TTokenizer) : Prop := okS a.xRest ∧ True
theorem szTokenizer (a : TTokenizer) (l : Int) (h0 : 0 ≤ l) (h1 : l ≤ 1048576) (h : a.ok) (k : Int → Option β) : F52 β a.xRest l k = k (szL l a.size) := by
  obtain ⟨q0, _⟩ := h
  unfold TTokenizer.size
  simp only [F52, P52]
  refine szCut h0 h1 q0 (fun m0 e0 h0 h1 => ?_)
  rw [e0]
  exact szEnd h0
theorem toTokenizer (a : TTokenizer) (h : a.size ≤ 1048576) (k : List UInt8 → Option β) : F67 β a.xRest k = k a.xRest := by
  unfold TTokenizer.size at h
  simp only [F67, P67]
theorem eqTokenizer_iff (a b : TTokenizer) : ((a.xRest == b.xRest) && (true)) = decide (a = b) := by
  cases a; cases b
  rw [Bool.eq_iff_iff]
  simp only [TTokenizer.mk.injEq, Bool.and_true, Bool.and_eq_true, beq_iff_eq, decide_eq_true_eq]
theorem eqTokenizer (a b : TTokenizer) (h : a.ok) (k : Bool → Option β) : F82 β a.xRest b.xRest k = k (decide (a = b)) := by
  obtain ⟨q0, _⟩ := h
  simp only [F82, P82]
  refine Eq.trans (b := k ((a.xRest == b.xRest) && (true))) ?_ (congrArg k (eqTokenizer_iff a b))
  refine eqCut ?_
  rfl

/-! ### Attr -/
def TAttr.nul : TAttr := ⟨[], []⟩
def TAttr.size (a : TAttr) : Nat := a.xName.length + (a.xValue.length + (0))
def TAttr.ok (a : TAttr) : Prop := okS a.xName ∧ okS a.xValue ∧ True
theorem szAttr (a : TAttr) (l : Int) (h0 : 0 ≤ l) (h1 : l ≤ 1048576) (h : a.ok) (k : Int → Option β) : F192 β a.xName a.xValue l k = k (szL l a.size) := by
  obtain ⟨q0, q1, _⟩ := h
  unfold TAttr.size
  simp only [F192, P192]
  refine szCut h0 h1 q0 (fun m0 e0 h0 h1 => ?_)
  rw [e0]
  refine szCut h0 h1 q1 (fun m1 e1 h0 h1 => ?_)
  rw [e1]
  exact szEnd h0
theorem toAttr (a : TAttr) (h : a.size ≤ 1048576) (k : List UInt8 → List UInt8 → Option β) : F193 β a.xName a.xValue k = k a.xName a.xValue := by
  unfold TAttr.size at h
  simp only [F193, P193]
theorem eqAttr_iff (a b : TAttr) : ((a.xName == b.xName) && ((a.xValue == b.xValue) && (true))) = decide (a = b) := by
  cases a; cases b
  rw [Bool.eq_iff_iff]
  simp only [TAttr.mk.injEq, Bool.and_true, Bool.and_eq_true, beq_iff_eq, decide_eq_true_eq]
theorem eqAttr (a b : TAttr) (h : a.ok) (k : Bool → Option β) : F197 β a.xName a.xValue b.xName b.xValue k = k (decide (a = b)) := by
  obtain ⟨q0, q1, _⟩ := h
  simp only [F197, P197]
  refine Eq.trans (b := k ((a.xName == b.xName) && ((a.xValue == b.xValue) && (true)))) ?_ (congrArg k (eqAttr_iff a b))
  refine eqCut ?_
  refine eqCut ?_
  rfl
theorem szAttrS (a : List TAttr) (l : Int) (h0 : 0 ≤ l) (h1 : l ≤ 1048576) (h : okL TAttr.ok a) (k : Int → Option β) : F177 β (rows kAttr TAttr.row a) l k = k (szL l (a.length + sumL TAttr.size a)) := by
  simp only [F177, P177, rows_len]
  refine szCut h0 h1 h.1 (fun m e h0 h1 => ?_)
  rw [e]
  refine while_sz (fun (i : Nat) (m : Int) => ([.l (rows kAttr TAttr.row a), .i m, .i (i : Int)] : List Leaf)) a TAttr.size (fun m => (1, [.i m])) (fun i y m hi hm0 hm1 => ?_) (fun m => brN rirr rfl) (fun m => rfl) h0 h1 rfl
  have hlt : i < a.length := (List.getElem?_eq_some_iff.1 hi).1
  have hb := h.1
  unfold maxLen at hb
  rcases @szCase m y.size with ⟨c, e⟩ | ⟨c, e⟩
  · exact .inl ⟨_, c, brE (rlt hlt) (chkE (Int.natCast_nonneg _) (idxE (i := i) hi ((szAttr y m hm0 hm1 (h.2 y (List.mem_of_getElem? hi)) _).trans (brE (by rw [e]; decide) rfl)))), rfl⟩
  · exact .inr ⟨c, brE (rlt hlt) (chkE (Int.natCast_nonneg _) (idxE (i := i) hi ((szAttr y m hm0 hm1 (h.2 y (List.mem_of_getElem? hi)) _).trans (brN (by rw [e]; omega) (two (fun m j : Int => (some (Sum.inl ([.l (rows kAttr TAttr.row a), .i m, .i j] : List Leaf)) : Option (List Leaf ⊕ (Nat × List Leaf)))) e (wrapS (i := i) (by omega)))))))⟩
theorem toAttrS (a : List TAttr) (h : a.length + sumL TAttr.size a ≤ 1048576) (k : List V → Option β) : F180 β (rows kAttr TAttr.row a) k = k (rows kAttr TAttr.row a) := by
  simp only [F180, P180, rows_len, whileK, Int.toNat_natCast]
  refine chkE ⟨by omega, by omega, by omega, by omega⟩ ?_
  rw [while_each (fun i : Nat => ([.l (rows kAttr TAttr.row a), .l (rows kAttr TAttr.row (copyS a TAttr.nul i)), .i (i : Int)] : List Leaf)) a (0, [.l (rows kAttr TAttr.row a)]) ?h1 ?h2 _ ?hs]
  case hs => rw [← rows_copy0 rfl]; rfl
  case h1 =>
    intro i y hi
    have hlt : i < a.length := (List.getElem?_eq_some_iff.1 hi).1
    have hl := copyS_len (a := a) (n := TAttr.nul) (i := i) (by omega)
    have hm := sumL_mem (f := TAttr.size) (List.mem_of_getElem? hi)
    refine brE (rlt hlt) (chkE (Int.natCast_nonneg _) (idxE (i := i) hi ((toAttr y (by omega) _).trans (chkE ⟨Int.natCast_nonneg _, ?_⟩ (storeE (g := TAttr.row) (y := y) (i := i) rfl (Nat.lt_of_lt_of_eq hlt hl.symm) ?_)))))
    · show (Int.toNat (i : Int)) < (rows kAttr TAttr.row (copyS a TAttr.nul i)).length
      rw [rows_len]; exact Nat.lt_of_lt_of_eq hlt hl.symm
    · exact two (fun (c : List TAttr) (j : Int) => (some (Sum.inl ([.l (rows kAttr TAttr.row a), .l (rows kAttr TAttr.row c), .i j] : List Leaf)) : Option (List Leaf ⊕ (Nat × List Leaf)))) (copyS_set hi) (wrapS (i := i) (by omega))
  case h2 =>
    rw [copyS_end]
    exact brN rirr rfl
  · rfl
theorem eqAttrS (a b : List TAttr) (h : okL TAttr.ok a) (k : Bool → Option β) : F186 β (rows kAttr TAttr.row a) (rows kAttr TAttr.row b) k = k (decide (a = b)) := by
  simp only [F186, P186]
  refine eqLen (rows_len ..) (rows_len ..) (fun hl => ?_)
  refine while_eq (fun i : Nat => ([.l (rows kAttr TAttr.row a), .l (rows kAttr TAttr.row b), .i (i : Int)] : List Leaf)) a b hl (fun i x y hi hx hy => ?_) (brN rirr rfl) rfl rfl rfl
  have hb := h.1
  unfold maxLen at hb
  exact brE (rlt hi) (chkE (Int.natCast_nonneg _) (idxE (i := i) hx (chkE (Int.natCast_nonneg _) (idxE (i := i) hy ((eqAttr x y (h.2 x (List.mem_of_getElem? hx)) _).trans (brB rfl rfl (congrArg (fun j : Int => (some (Sum.inl ([.l (rows kAttr TAttr.row a), .l (rows kAttr TAttr.row b), .i j] : List Leaf)) : Option (List Leaf ⊕ (Nat × List Leaf)))) (wrapS (i := i) (by omega)))))))))

/-! ### Token -/
def TToken.nul : TToken := ⟨0, [], [], []⟩
def TToken.size (a : TToken) : Nat := a.xName.length + ((a.xAttrs.length + sumL TAttr.size a.xAttrs) + (a.xText.length + (0)))
def TToken.ok (a : TToken) : Prop := okI a.xKind ∧ okS a.xName ∧ okL TAttr.ok a.xAttrs ∧ okS a.xText ∧ True
theorem szToken (a : TToken) (l : Int) (h0 : 0 ≤ l) (h1 : l ≤ 1048576) (h : a.ok) (k : Int → Option β) : F127 β a.xKind a.xName (rows kAttr TAttr.row a.xAttrs) a.xText l k = k (szL l a.size) := by
  obtain ⟨q0, q1, q2, q3, _⟩ := h
  unfold TToken.size
  simp only [F127, P127]
  refine szCut h0 h1 q1 (fun m1 e1 h0 h1 => ?_)
  rw [e1]
  refine (szAttrS a.xAttrs _ h0 h1 q2 _).trans (szSub h0 h1 (fun m2 e2 h0 h1 => ?_))
  rw [e2]
  refine szCut h0 h1 q3 (fun m3 e3 h0 h1 => ?_)
  rw [e3]
  exact szEnd h0
theorem toToken (a : TToken) (h : a.size ≤ 1048576) (k : Int → List UInt8 → List V → List UInt8 → Option β) : F136 β a.xKind a.xName (rows kAttr TAttr.row a.xAttrs) a.xText k = k a.xKind a.xName (rows kAttr TAttr.row a.xAttrs) a.xText := by
  unfold TToken.size at h
  simp only [F136, P136]
  exact (toAttrS a.xAttrs (by omega) _).trans (rfl)
theorem eqToken_iff (a b : TToken) : ((a.xKind == b.xKind) && ((a.xName == b.xName) && (decide (a.xAttrs = b.xAttrs) && ((a.xText == b.xText) && (true))))) = decide (a = b) := by
  cases a; cases b
  rw [Bool.eq_iff_iff]
  simp only [TToken.mk.injEq, Bool.and_true, Bool.and_eq_true, beq_iff_eq, decide_eq_true_eq]
theorem eqToken (a b : TToken) (h : a.ok) (k : Bool → Option β) : F146 β a.xKind a.xName (rows kAttr TAttr.row a.xAttrs) a.xText b.xKind b.xName (rows kAttr TAttr.row b.xAttrs) b.xText k = k (decide (a = b)) := by
  obtain ⟨q0, q1, q2, q3, _⟩ := h
  simp only [F146, P146]
  refine Eq.trans (b := k ((a.xKind == b.xKind) && ((a.xName == b.xName) && (decide (a.xAttrs = b.xAttrs) && ((a.xText == b.xText) && (true)))))) ?_ (congrArg k (eqToken_iff a b))
  refine eqCut ?_
  refine eqCut ?_
  refine (eqAttrS a.xAttrs b.xAttrs q2 _).trans (eqCut ?_)
  refine eqCut ?_
  rfl
theorem szTokenS (a : List TToken) (l : Int) (h0 : 0 ≤ l) (h1 : l ≤ 1048576) (h : okL TToken.ok a) (k : Int → Option β) : F53 β (rows kToken TToken.row a) l k = k (szL l (a.length + sumL TToken.size a)) := by
  simp only [F53, P53, rows_len]
  refine szCut h0 h1 h.1 (fun m e h0 h1 => ?_)
  rw [e]
  refine while_sz (fun (i : Nat) (m : Int) => ([.l (rows kToken TToken.row a), .i m, .i (i : Int)] : List Leaf)) a TToken.size (fun m => (1, [.i m])) (fun i y m hi hm0 hm1 => ?_) (fun m => brN rirr rfl) (fun m => rfl) h0 h1 rfl
  have hlt : i < a.length := (List.getElem?_eq_some_iff.1 hi).1
  have hb := h.1
  unfold maxLen at hb
  rcases @szCase m y.size with ⟨c, e⟩ | ⟨c, e⟩
  · exact .inl ⟨_, c, brE (rlt hlt) (chkE (Int.natCast_nonneg _) (idxE (i := i) hi ((szToken y m hm0 hm1 (h.2 y (List.mem_of_getElem? hi)) _).trans (brE (by rw [e]; decide) rfl)))), rfl⟩
  · exact .inr ⟨c, brE (rlt hlt) (chkE (Int.natCast_nonneg _) (idxE (i := i) hi ((szToken y m hm0 hm1 (h.2 y (List.mem_of_getElem? hi)) _).trans (brN (by rw [e]; omega) (two (fun m j : Int => (some (Sum.inl ([.l (rows kToken TToken.row a), .i m, .i j] : List Leaf)) : Option (List Leaf ⊕ (Nat × List Leaf)))) e (wrapS (i := i) (by omega)))))))⟩
theorem toTokenS (a : List TToken) (h : a.length + sumL TToken.size a ≤ 1048576) (k : List V → Option β) : F68 β (rows kToken TToken.row a) k = k (rows kToken TToken.row a) := by
  simp only [F68, P68, rows_len, whileK, Int.toNat_natCast]
  refine chkE ⟨by omega, by omega, by omega, by omega⟩ ?_
  rw [while_each (fun i : Nat => ([.l (rows kToken TToken.row a), .l (rows kToken TToken.row (copyS a TToken.nul i)), .i (i : Int)] : List Leaf)) a (0, [.l (rows kToken TToken.row a)]) ?h1 ?h2 _ ?hs]
  case hs => rw [← rows_copy0 rfl]; rfl
  case h1 =>
    intro i y hi
    have hlt : i < a.length := (List.getElem?_eq_some_iff.1 hi).1
    have hl := copyS_len (a := a) (n := TToken.nul) (i := i) (by omega)
    have hm := sumL_mem (f := TToken.size) (List.mem_of_getElem? hi)
    refine brE (rlt hlt) (chkE (Int.natCast_nonneg _) (idxE (i := i) hi ((toToken y (by omega) _).trans (chkE ⟨Int.natCast_nonneg _, ?_⟩ (storeE (g := TToken.row) (y := y) (i := i) rfl (Nat.lt_of_lt_of_eq hlt hl.symm) ?_)))))
    · show (Int.toNat (i : Int)) < (rows kToken TToken.row (copyS a TToken.nul i)).length
      rw [rows_len]; exact Nat.lt_of_lt_of_eq hlt hl.symm
    · exact two (fun (c : List TToken) (j : Int) => (some (Sum.inl ([.l (rows kToken TToken.row a), .l (rows kToken TToken.row c), .i j] : List Leaf)) : Option (List Leaf ⊕ (Nat × List Leaf)))) (copyS_set hi) (wrapS (i := i) (by omega))
  case h2 =>
    rw [copyS_end]
    exact brN rirr rfl
  · rfl
theorem eqTokenS (a b : List TToken) (h : okL TToken.ok a) (k : Bool → Option β) : F83 β (rows kToken TToken.row a) (rows kToken TToken.row b) k = k (decide (a = b)) := by
  simp only [F83, P83]
  refine eqLen (rows_len ..) (rows_len ..) (fun hl => ?_)
  refine while_eq (fun i : Nat => ([.l (rows kToken TToken.row a), .l (rows kToken TToken.row b), .i (i : Int)] : List Leaf)) a b hl (fun i x y hi hx hy => ?_) (brN rirr rfl) rfl rfl rfl
  have hb := h.1
  unfold maxLen at hb
  exact brE (rlt hi) (chkE (Int.natCast_nonneg _) (idxE (i := i) hx (chkE (Int.natCast_nonneg _) (idxE (i := i) hy ((eqToken x y (h.2 x (List.mem_of_getElem? hx)) _).trans (brB rfl rfl (congrArg (fun j : Int => (some (Sum.inl ([.l (rows kToken TToken.row a), .l (rows kToken TToken.row b), .i j] : List Leaf)) : Option (List Leaf ⊕ (Nat × List Leaf)))) (wrapS (i := i) (by omega)))))))))

/-! ### Node -/
def TNode.nul : TNode := ⟨[], [], 0, []⟩
def TNode.size (a : TNode) : Nat := a.xName.length + (a.xText.length + ((a.xAttrs.length + sumL TAttr.size a.xAttrs) + (0)))
def TNode.ok (a : TNode) : Prop := okS a.xName ∧ okS a.xText ∧ okI a.xParent ∧ okL TAttr.ok a.xAttrs ∧ True
theorem szNode (a : TNode) (l : Int) (h0 : 0 ≤ l) (h1 : l ≤ 1048576) (h : a.ok) (k : Int → Option β) : F178 β a.xName a.xText a.xParent (rows kAttr TAttr.row a.xAttrs) l k = k (szL l a.size) := by
  obtain ⟨q0, q1, q2, q3, _⟩ := h
  unfold TNode.size
  simp only [F178, P178]
  refine szCut h0 h1 q0 (fun m0 e0 h0 h1 => ?_)
  rw [e0]
  refine szCut h0 h1 q1 (fun m1 e1 h0 h1 => ?_)
  rw [e1]
  refine (szAttrS a.xAttrs _ h0 h1 q3 _).trans (szSub h0 h1 (fun m3 e3 h0 h1 => ?_))
  rw [e3]
  exact szEnd h0
theorem toNode (a : TNode) (h : a.size ≤ 1048576) (k : List UInt8 → List UInt8 → Int → List V → Option β) : F181 β a.xName a.xText a.xParent (rows kAttr TAttr.row a.xAttrs) k = k a.xName a.xText a.xParent (rows kAttr TAttr.row a.xAttrs) := by
  unfold TNode.size at h
  simp only [F181, P181]
  exact (toAttrS a.xAttrs (by omega) _).trans (rfl)
theorem eqNode_iff (a b : TNode) : ((a.xName == b.xName) && ((a.xText == b.xText) && ((a.xParent == b.xParent) && (decide (a.xAttrs = b.xAttrs) && (true))))) = decide (a = b) := by
  cases a; cases b
  rw [Bool.eq_iff_iff]
  simp only [TNode.mk.injEq, Bool.and_true, Bool.and_eq_true, beq_iff_eq, decide_eq_true_eq]
theorem eqNode (a b : TNode) (h : a.ok) (k : Bool → Option β) : F187 β a.xName a.xText a.xParent (rows kAttr TAttr.row a.xAttrs) b.xName b.xText b.xParent (rows kAttr TAttr.row b.xAttrs) k = k (decide (a = b)) := by
  obtain ⟨q0, q1, q2, q3, _⟩ := h
  simp only [F187, P187]
  refine Eq.trans (b := k ((a.xName == b.xName) && ((a.xText == b.xText) && ((a.xParent == b.xParent) && (decide (a.xAttrs = b.xAttrs) && (true)))))) ?_ (congrArg k (eqNode_iff a b))
  refine eqCut ?_
  refine eqCut ?_
  refine eqCut ?_
  refine (eqAttrS a.xAttrs b.xAttrs q3 _).trans (eqCut ?_)
  rfl
theorem szNodeS (a : List TNode) (l : Int) (h0 : 0 ≤ l) (h1 : l ≤ 1048576) (h : okL TNode.ok a) (k : Int → Option β) : F128 β (rows kNode TNode.row a) l k = k (szL l (a.length + sumL TNode.size a)) := by
  simp only [F128, P128, rows_len]
  refine szCut h0 h1 h.1 (fun m e h0 h1 => ?_)
  rw [e]
  refine while_sz (fun (i : Nat) (m : Int) => ([.l (rows kNode TNode.row a), .i m, .i (i : Int)] : List Leaf)) a TNode.size (fun m => (1, [.i m])) (fun i y m hi hm0 hm1 => ?_) (fun m => brN rirr rfl) (fun m => rfl) h0 h1 rfl
  have hlt : i < a.length := (List.getElem?_eq_some_iff.1 hi).1
  have hb := h.1
  unfold maxLen at hb
  rcases @szCase m y.size with ⟨c, e⟩ | ⟨c, e⟩
  · exact .inl ⟨_, c, brE (rlt hlt) (chkE (Int.natCast_nonneg _) (idxE (i := i) hi ((szNode y m hm0 hm1 (h.2 y (List.mem_of_getElem? hi)) _).trans (brE (by rw [e]; decide) rfl)))), rfl⟩
  · exact .inr ⟨c, brE (rlt hlt) (chkE (Int.natCast_nonneg _) (idxE (i := i) hi ((szNode y m hm0 hm1 (h.2 y (List.mem_of_getElem? hi)) _).trans (brN (by rw [e]; omega) (two (fun m j : Int => (some (Sum.inl ([.l (rows kNode TNode.row a), .i m, .i j] : List Leaf)) : Option (List Leaf ⊕ (Nat × List Leaf)))) e (wrapS (i := i) (by omega)))))))⟩
theorem toNodeS (a : List TNode) (h : a.length + sumL TNode.size a ≤ 1048576) (k : List V → Option β) : F137 β (rows kNode TNode.row a) k = k (rows kNode TNode.row a) := by
  simp only [F137, P137, rows_len, whileK, Int.toNat_natCast]
  refine chkE ⟨by omega, by omega, by omega, by omega⟩ ?_
  rw [while_each (fun i : Nat => ([.l (rows kNode TNode.row a), .l (rows kNode TNode.row (copyS a TNode.nul i)), .i (i : Int)] : List Leaf)) a (0, [.l (rows kNode TNode.row a)]) ?h1 ?h2 _ ?hs]
  case hs => rw [← rows_copy0 rfl]; rfl
  case h1 =>
    intro i y hi
    have hlt : i < a.length := (List.getElem?_eq_some_iff.1 hi).1
    have hl := copyS_len (a := a) (n := TNode.nul) (i := i) (by omega)
    have hm := sumL_mem (f := TNode.size) (List.mem_of_getElem? hi)
    refine brE (rlt hlt) (chkE (Int.natCast_nonneg _) (idxE (i := i) hi ((toNode y (by omega) _).trans (chkE ⟨Int.natCast_nonneg _, ?_⟩ (storeE (g := TNode.row) (y := y) (i := i) rfl (Nat.lt_of_lt_of_eq hlt hl.symm) ?_)))))
    · show (Int.toNat (i : Int)) < (rows kNode TNode.row (copyS a TNode.nul i)).length
      rw [rows_len]; exact Nat.lt_of_lt_of_eq hlt hl.symm
    · exact two (fun (c : List TNode) (j : Int) => (some (Sum.inl ([.l (rows kNode TNode.row a), .l (rows kNode TNode.row c), .i j] : List Leaf)) : Option (List Leaf ⊕ (Nat × List Leaf)))) (copyS_set hi) (wrapS (i := i) (by omega))
  case h2 =>
    rw [copyS_end]
    exact brN rirr rfl
  · rfl
theorem eqNodeS (a b : List TNode) (h : okL TNode.ok a) (k : Bool → Option β) : F147 β (rows kNode TNode.row a) (rows kNode TNode.row b) k = k (decide (a = b)) := by
  simp only [F147, P147]
  refine eqLen (rows_len ..) (rows_len ..) (fun hl => ?_)
  refine while_eq (fun i : Nat => ([.l (rows kNode TNode.row a), .l (rows kNode TNode.row b), .i (i : Int)] : List Leaf)) a b hl (fun i x y hi hx hy => ?_) (brN rirr rfl) rfl rfl rfl
  have hb := h.1
  unfold maxLen at hb
  exact brE (rlt hi) (chkE (Int.natCast_nonneg _) (idxE (i := i) hx (chkE (Int.natCast_nonneg _) (idxE (i := i) hy ((eqNode x y (h.2 x (List.mem_of_getElem? hx)) _).trans (brB rfl rfl (congrArg (fun j : Int => (some (Sum.inl ([.l (rows kNode TNode.row a), .l (rows kNode TNode.row b), .i j] : List Leaf)) : Option (List Leaf ⊕ (Nat × List Leaf)))) (wrapS (i := i) (by omega)))))))))

/-! ### Builder -/
def TBuilder.nul : TBuilder := ⟨[], []⟩
def TBuilder.size (a : TBuilder) : Nat := (a.xNodes.length + sumL TNode.size a.xNodes) + (a.xOpen.length + (0))
def TBuilder.ok (a : TBuilder) : Prop := okL TNode.ok a.xNodes ∧ okL okI a.xOpen ∧ True
theorem szBuilder (a : TBuilder) (l : Int) (h0 : 0 ≤ l) (h1 : l ≤ 1048576) (h : a.ok) (k : Int → Option β) : F54 β (rows kNode TNode.row a.xNodes) (rInt a.xOpen) l k = k (szL l a.size) := by
  obtain ⟨q0, q1, _⟩ := h
  unfold TBuilder.size
  simp only [F54, P54]
  refine (szNodeS a.xNodes _ h0 h1 q0 _).trans (szSub h0 h1 (fun m0 e0 h0 h1 => ?_))
  rw [e0]
  refine (szIntS a.xOpen _ h0 h1 q1 _).trans (szSub h0 h1 (fun m1 e1 h0 h1 => ?_))
  rw [e1]
  exact szEnd h0
theorem toBuilder (a : TBuilder) (h : a.size ≤ 1048576) (k : List V → List V → Option β) : F69 β (rows kNode TNode.row a.xNodes) (rInt a.xOpen) k = k (rows kNode TNode.row a.xNodes) (rInt a.xOpen) := by
  unfold TBuilder.size at h
  simp only [F69, P69]
  exact (toNodeS a.xNodes (by omega) _).trans ((toIntS a.xOpen (by omega) _).trans (rfl))
theorem eqBuilder_iff (a b : TBuilder) : (decide (a.xNodes = b.xNodes) && (decide (a.xOpen = b.xOpen) && (true))) = decide (a = b) := by
  cases a; cases b
  rw [Bool.eq_iff_iff]
  simp only [TBuilder.mk.injEq, Bool.and_true, Bool.and_eq_true, beq_iff_eq, decide_eq_true_eq]
theorem eqBuilder (a b : TBuilder) (h : a.ok) (k : Bool → Option β) : F84 β (rows kNode TNode.row a.xNodes) (rInt a.xOpen) (rows kNode TNode.row b.xNodes) (rInt b.xOpen) k = k (decide (a = b)) := by
  obtain ⟨q0, q1, _⟩ := h
  simp only [F84, P84]
  refine Eq.trans (b := k (decide (a.xNodes = b.xNodes) && (decide (a.xOpen = b.xOpen) && (true)))) ?_ (congrArg k (eqBuilder_iff a b))
  refine (eqNodeS a.xNodes b.xNodes q0 _).trans (eqCut ?_)
  refine (eqIntS a.xOpen b.xOpen q1 _).trans (eqCut ?_)
  rfl

/-! ### Slot -/
def TSlot.nul : TSlot := ⟨0, TAddr.nul, [], 0, false, 0, []⟩
def TSlot.size (a : TSlot) : Nat := TAddr.size a.xTo + (a.xDigest.length + (a.xBody.length + (0)))
def TSlot.ok (a : TSlot) : Prop := okI a.xMode ∧ TAddr.ok a.xTo ∧ okS a.xDigest ∧ okI a.xNode ∧ True ∧ okI a.xCode ∧ okS a.xBody ∧ True
theorem szSlot (a : TSlot) (l : Int) (h0 : 0 ≤ l) (h1 : l ≤ 1048576) (h : a.ok) (k : Int → Option β) : F130 β a.xMode a.xTo.xHost a.xTo.xPath a.xDigest a.xNode a.xDone a.xCode a.xBody l k = k (szL l a.size) := by
  obtain ⟨q0, q1, q2, q3, q4, q5, q6, _⟩ := h
  unfold TSlot.size
  simp only [F130, P130]
  refine (szAddr a.xTo _ h0 h1 q1 _).trans (szSub h0 h1 (fun m1 e1 h0 h1 => ?_))
  rw [e1]
  refine szCut h0 h1 q2 (fun m2 e2 h0 h1 => ?_)
  rw [e2]
  refine szCut h0 h1 q6 (fun m6 e6 h0 h1 => ?_)
  rw [e6]
  exact szEnd h0
theorem toSlot (a : TSlot) (h : a.size ≤ 1048576) (k : Int → List UInt8 → List UInt8 → List UInt8 → Int → Bool → Int → List UInt8 → Option β) : F139 β a.xMode a.xTo.xHost a.xTo.xPath a.xDigest a.xNode a.xDone a.xCode a.xBody k = k a.xMode a.xTo.xHost a.xTo.xPath a.xDigest a.xNode a.xDone a.xCode a.xBody := by
  unfold TSlot.size at h
  simp only [F139, P139]
  exact (toAddr a.xTo (by omega) _).trans (rfl)
theorem eqSlot_iff (a b : TSlot) : ((a.xMode == b.xMode) && (decide (a.xTo = b.xTo) && ((a.xDigest == b.xDigest) && ((a.xNode == b.xNode) && ((a.xDone == b.xDone) && ((a.xCode == b.xCode) && ((a.xBody == b.xBody) && (true)))))))) = decide (a = b) := by
  cases a; cases b
  rw [Bool.eq_iff_iff]
  simp only [TSlot.mk.injEq, Bool.and_true, Bool.and_eq_true, beq_iff_eq, decide_eq_true_eq]
theorem eqSlot (a b : TSlot) (h : a.ok) (k : Bool → Option β) : F149 β a.xMode a.xTo.xHost a.xTo.xPath a.xDigest a.xNode a.xDone a.xCode a.xBody b.xMode b.xTo.xHost b.xTo.xPath b.xDigest b.xNode b.xDone b.xCode b.xBody k = k (decide (a = b)) := by
  obtain ⟨q0, q1, q2, q3, q4, q5, q6, _⟩ := h
  simp only [F149, P149]
  refine Eq.trans (b := k ((a.xMode == b.xMode) && (decide (a.xTo = b.xTo) && ((a.xDigest == b.xDigest) && ((a.xNode == b.xNode) && ((a.xDone == b.xDone) && ((a.xCode == b.xCode) && ((a.xBody == b.xBody) && (true))))))))) ?_ (congrArg k (eqSlot_iff a b))
  refine eqCut ?_
  refine (eqAddr a.xTo b.xTo q1 _).trans (eqCut ?_)
  refine eqCut ?_
  refine eqCut ?_
  refine eqCut ?_
  refine eqCut ?_
  refine eqCut ?_
  rfl
theorem szSlotS (a : List TSlot) (l : Int) (h0 : 0 ≤ l) (h1 : l ≤ 1048576) (h : okL TSlot.ok a) (k : Int → Option β) : F55 β (rows kSlot TSlot.row a) l k = k (szL l (a.length + sumL TSlot.size a)) := by
  simp only [F55, P55, rows_len]
  refine szCut h0 h1 h.1 (fun m e h0 h1 => ?_)
  rw [e]
  refine while_sz (fun (i : Nat) (m : Int) => ([.l (rows kSlot TSlot.row a), .i m, .i (i : Int)] : List Leaf)) a TSlot.size (fun m => (1, [.i m])) (fun i y m hi hm0 hm1 => ?_) (fun m => brN rirr rfl) (fun m => rfl) h0 h1 rfl
  have hlt : i < a.length := (List.getElem?_eq_some_iff.1 hi).1
  have hb := h.1
  unfold maxLen at hb
  rcases @szCase m y.size with ⟨c, e⟩ | ⟨c, e⟩
  · exact .inl ⟨_, c, brE (rlt hlt) (chkE (Int.natCast_nonneg _) (idxE (i := i) hi ((szSlot y m hm0 hm1 (h.2 y (List.mem_of_getElem? hi)) _).trans (brE (by rw [e]; decide) rfl)))), rfl⟩
  · exact .inr ⟨c, brE (rlt hlt) (chkE (Int.natCast_nonneg _) (idxE (i := i) hi ((szSlot y m hm0 hm1 (h.2 y (List.mem_of_getElem? hi)) _).trans (brN (by rw [e]; omega) (two (fun m j : Int => (some (Sum.inl ([.l (rows kSlot TSlot.row a), .i m, .i j] : List Leaf)) : Option (List Leaf ⊕ (Nat × List Leaf)))) e (wrapS (i := i) (by omega)))))))⟩
theorem toSlotS (a : List TSlot) (h : a.length + sumL TSlot.size a ≤ 1048576) (k : List V → Option β) : F70 β (rows kSlot TSlot.row a) k = k (rows kSlot TSlot.row a) := by
  simp only [F70, P70, rows_len, whileK, Int.toNat_natCast]
  refine chkE ⟨by omega, by omega, by omega, by omega⟩ ?_
  rw [while_each (fun i : Nat => ([.l (rows kSlot TSlot.row a), .l (rows kSlot TSlot.row (copyS a TSlot.nul i)), .i (i : Int)] : List Leaf)) a (0, [.l (rows kSlot TSlot.row a)]) ?h1 ?h2 _ ?hs]
  case hs => rw [← rows_copy0 rfl]; rfl
  case h1 =>
    intro i y hi
    have hlt : i < a.length := (List.getElem?_eq_some_iff.1 hi).1
    have hl := copyS_len (a := a) (n := TSlot.nul) (i := i) (by omega)
    have hm := sumL_mem (f := TSlot.size) (List.mem_of_getElem? hi)
    refine brE (rlt hlt) (chkE (Int.natCast_nonneg _) (idxE (i := i) hi ((toSlot y (by omega) _).trans (chkE ⟨Int.natCast_nonneg _, ?_⟩ (storeE (g := TSlot.row) (y := y) (i := i) rfl (Nat.lt_of_lt_of_eq hlt hl.symm) ?_)))))
    · show (Int.toNat (i : Int)) < (rows kSlot TSlot.row (copyS a TSlot.nul i)).length
      rw [rows_len]; exact Nat.lt_of_lt_of_eq hlt hl.symm
    · exact two (fun (c : List TSlot) (j : Int) => (some (Sum.inl ([.l (rows kSlot TSlot.row a), .l (rows kSlot TSlot.row c), .i j] : List Leaf)) : Option (List Leaf ⊕ (Nat × List Leaf)))) (copyS_set hi) (wrapS (i := i) (by omega))
  case h2 =>
    rw [copyS_end]
    exact brN rirr rfl
  · rfl
theorem eqSlotS (a b : List TSlot) (h : okL TSlot.ok a) (k : Bool → Option β) : F85 β (rows kSlot TSlot.row a) (rows kSlot TSlot.row b) k = k (decide (a = b)) := by
  simp only [F85, P85]
  refine eqLen (rows_len ..) (rows_len ..) (fun hl => ?_)
  refine while_eq (fun i : Nat => ([.l (rows kSlot TSlot.row a), .l (rows kSlot TSlot.row b), .i (i : Int)] : List Leaf)) a b hl (fun i x y hi hx hy => ?_) (brN rirr rfl) rfl rfl rfl
  have hb := h.1
  unfold maxLen at hb
  exact brE (rlt hi) (chkE (Int.natCast_nonneg _) (idxE (i := i) hx (chkE (Int.natCast_nonneg _) (idxE (i := i) hy ((eqSlot x y (h.2 x (List.mem_of_getElem? hx)) _).trans (brB rfl rfl (congrArg (fun j : Int => (some (Sum.inl ([.l (rows kSlot TSlot.row a), .l (rows kSlot TSlot.row b), .i j] : List Leaf)) : Option (List Leaf ⊕ (Nat × List Leaf)))) (wrapS (i := i) (by omega)))))))))

/-! ### Module -/
def TModule.nul : TModule := ⟨TAddr.nul, false, 0, []⟩
def TModule.size (a : TModule) : Nat := TAddr.size a.xTo + (a.xBody.length + (0))
def TModule.ok (a : TModule) : Prop := TAddr.ok a.xTo ∧ True ∧ okI a.xCode ∧ okS a.xBody ∧ True
theorem szModule (a : TModule) (l : Int) (h0 : 0 ≤ l) (h1 : l ≤ 1048576) (h : a.ok) (k : Int → Option β) : F131 β a.xTo.xHost a.xTo.xPath a.xDone a.xCode a.xBody l k = k (szL l a.size) := by
  obtain ⟨q0, q1, q2, q3, _⟩ := h
  unfold TModule.size
  simp only [F131, P131]
  refine (szAddr a.xTo _ h0 h1 q0 _).trans (szSub h0 h1 (fun m0 e0 h0 h1 => ?_))
  rw [e0]
  refine szCut h0 h1 q3 (fun m3 e3 h0 h1 => ?_)
  rw [e3]
  exact szEnd h0
theorem toModule (a : TModule) (h : a.size ≤ 1048576) (k : List UInt8 → List UInt8 → Bool → Int → List UInt8 → Option β) : F140 β a.xTo.xHost a.xTo.xPath a.xDone a.xCode a.xBody k = k a.xTo.xHost a.xTo.xPath a.xDone a.xCode a.xBody := by
  unfold TModule.size at h
  simp only [F140, P140]
  exact (toAddr a.xTo (by omega) _).trans (rfl)
theorem eqModule_iff (a b : TModule) : (decide (a.xTo = b.xTo) && ((a.xDone == b.xDone) && ((a.xCode == b.xCode) && ((a.xBody == b.xBody) && (true))))) = decide (a = b) := by
  cases a; cases b
  rw [Bool.eq_iff_iff]
  simp only [TModule.mk.injEq, Bool.and_true, Bool.and_eq_true, beq_iff_eq, decide_eq_true_eq]
theorem eqModule (a b : TModule) (h : a.ok) (k : Bool → Option β) : F150 β a.xTo.xHost a.xTo.xPath a.xDone a.xCode a.xBody b.xTo.xHost b.xTo.xPath b.xDone b.xCode b.xBody k = k (decide (a = b)) := by
  obtain ⟨q0, q1, q2, q3, _⟩ := h
  simp only [F150, P150]
  refine Eq.trans (b := k (decide (a.xTo = b.xTo) && ((a.xDone == b.xDone) && ((a.xCode == b.xCode) && ((a.xBody == b.xBody) && (true)))))) ?_ (congrArg k (eqModule_iff a b))
  refine (eqAddr a.xTo b.xTo q0 _).trans (eqCut ?_)
  refine eqCut ?_
  refine eqCut ?_
  refine eqCut ?_
  rfl
theorem szModuleS (a : List TModule) (l : Int) (h0 : 0 ≤ l) (h1 : l ≤ 1048576) (h : okL TModule.ok a) (k : Int → Option β) : F56 β (rows kModule TModule.row a) l k = k (szL l (a.length + sumL TModule.size a)) := by
  simp only [F56, P56, rows_len]
  refine szCut h0 h1 h.1 (fun m e h0 h1 => ?_)
  rw [e]
  refine while_sz (fun (i : Nat) (m : Int) => ([.l (rows kModule TModule.row a), .i m, .i (i : Int)] : List Leaf)) a TModule.size (fun m => (1, [.i m])) (fun i y m hi hm0 hm1 => ?_) (fun m => brN rirr rfl) (fun m => rfl) h0 h1 rfl
  have hlt : i < a.length := (List.getElem?_eq_some_iff.1 hi).1
  have hb := h.1
  unfold maxLen at hb
  rcases @szCase m y.size with ⟨c, e⟩ | ⟨c, e⟩
  · exact .inl ⟨_, c, brE (rlt hlt) (chkE (Int.natCast_nonneg _) (idxE (i := i) hi ((szModule y m hm0 hm1 (h.2 y (List.mem_of_getElem? hi)) _).trans (brE (by rw [e]; decide) rfl)))), rfl⟩
  · exact .inr ⟨c, brE (rlt hlt) (chkE (Int.natCast_nonneg _) (idxE (i := i) hi ((szModule y m hm0 hm1 (h.2 y (List.mem_of_getElem? hi)) _).trans (brN (by rw [e]; omega) (two (fun m j : Int => (some (Sum.inl ([.l (rows kModule TModule.row a), .i m, .i j] : List Leaf)) : Option (List Leaf ⊕ (Nat × List Leaf)))) e (wrapS (i := i) (by omega)))))))⟩
theorem toModuleS (a : List TModule) (h : a.length + sumL TModule.size a ≤ 1048576) (k : List V → Option β) : F71 β (rows kModule TModule.row a) k = k (rows kModule TModule.row a) := by
  simp only [F71, P71, rows_len, whileK, Int.toNat_natCast]
  refine chkE ⟨by omega, by omega, by omega, by omega⟩ ?_
  rw [while_each (fun i : Nat => ([.l (rows kModule TModule.row a), .l (rows kModule TModule.row (copyS a TModule.nul i)), .i (i : Int)] : List Leaf)) a (0, [.l (rows kModule TModule.row a)]) ?h1 ?h2 _ ?hs]
  case hs => rw [← rows_copy0 rfl]; rfl
  case h1 =>
    intro i y hi
    have hlt : i < a.length := (List.getElem?_eq_some_iff.1 hi).1
    have hl := copyS_len (a := a) (n := TModule.nul) (i := i) (by omega)
    have hm := sumL_mem (f := TModule.size) (List.mem_of_getElem? hi)
    refine brE (rlt hlt) (chkE (Int.natCast_nonneg _) (idxE (i := i) hi ((toModule y (by omega) _).trans (chkE ⟨Int.natCast_nonneg _, ?_⟩ (storeE (g := TModule.row) (y := y) (i := i) rfl (Nat.lt_of_lt_of_eq hlt hl.symm) ?_)))))
    · show (Int.toNat (i : Int)) < (rows kModule TModule.row (copyS a TModule.nul i)).length
      rw [rows_len]; exact Nat.lt_of_lt_of_eq hlt hl.symm
    · exact two (fun (c : List TModule) (j : Int) => (some (Sum.inl ([.l (rows kModule TModule.row a), .l (rows kModule TModule.row c), .i j] : List Leaf)) : Option (List Leaf ⊕ (Nat × List Leaf)))) (copyS_set hi) (wrapS (i := i) (by omega))
  case h2 =>
    rw [copyS_end]
    exact brN rirr rfl
  · rfl
theorem eqModuleS (a b : List TModule) (h : okL TModule.ok a) (k : Bool → Option β) : F86 β (rows kModule TModule.row a) (rows kModule TModule.row b) k = k (decide (a = b)) := by
  simp only [F86, P86]
  refine eqLen (rows_len ..) (rows_len ..) (fun hl => ?_)
  refine while_eq (fun i : Nat => ([.l (rows kModule TModule.row a), .l (rows kModule TModule.row b), .i (i : Int)] : List Leaf)) a b hl (fun i x y hi hx hy => ?_) (brN rirr rfl) rfl rfl rfl
  have hb := h.1
  unfold maxLen at hb
  exact brE (rlt hi) (chkE (Int.natCast_nonneg _) (idxE (i := i) hx (chkE (Int.natCast_nonneg _) (idxE (i := i) hy ((eqModule x y (h.2 x (List.mem_of_getElem? hx)) _).trans (brB rfl rfl (congrArg (fun j : Int => (some (Sum.inl ([.l (rows kModule TModule.row a), .l (rows kModule TModule.row b), .i j] : List Leaf)) : Option (List Leaf ⊕ (Nat × List Leaf)))) (wrapS (i := i) (by omega)))))))))

/-! ### Page -/
def TPage.nul : TPage := ⟨TAddr.nul, TPolicy.nul, TTokenizer.nul, [], false, TBuilder.nul, [], [], [], 0, 0, 0, 0, [], [], false⟩
def TPage.size (a : TPage) : Nat := TAddr.size a.xAddr + (TPolicy.size a.xPolicy + (TTokenizer.size a.xTok + ((a.xQueue.length + sumL TToken.size a.xQueue) + (TBuilder.size a.xBuilder + ((a.xSlots.length + sumL TSlot.size a.xSlots) + ((a.xMods.length + sumL TModule.size a.xMods) + ((a.xEntries.length + sumL TAddr.size a.xEntries) + ((a.xRan.length + sumL TAddr.size a.xRan) + ((a.xLog.length + sumL List.length a.xLog) + (0))))))))))
def TPage.ok (a : TPage) : Prop := TAddr.ok a.xAddr ∧ TPolicy.ok a.xPolicy ∧ TTokenizer.ok a.xTok ∧ okL TToken.ok a.xQueue ∧ True ∧ TBuilder.ok a.xBuilder ∧ okL TSlot.ok a.xSlots ∧ okL TModule.ok a.xMods ∧ okL TAddr.ok a.xEntries ∧ okI a.xBlock ∧ okI a.xInline ∧ okI a.xDeferred ∧ okI a.xEntered ∧ okL TAddr.ok a.xRan ∧ okL okS a.xLog ∧ True ∧ True
theorem szPage (a : TPage) (l : Int) (h0 : 0 ≤ l) (h1 : l ≤ 1048576) (h : a.ok) (k : Int → Option β) : F18 β a.xAddr.xHost a.xAddr.xPath a.xPolicy.xSet (rStr a.xPolicy.xScripts) (rStr a.xPolicy.xStyles) (rStr a.xPolicy.xImages) a.xPolicy.xNonce a.xTok.xRest (rows kToken TToken.row a.xQueue) a.xEnded (rows kNode TNode.row a.xBuilder.xNodes) (rInt a.xBuilder.xOpen) (rows kSlot TSlot.row a.xSlots) (rows kModule TModule.row a.xMods) (rows kAddr TAddr.row a.xEntries) a.xBlock a.xInline a.xDeferred a.xEntered (rows kAddr TAddr.row a.xRan) (rStr a.xLog) a.xLoaded l k = k (szL l a.size) := by
  obtain ⟨q0, q1, q2, q3, q4, q5, q6, q7, q8, q9, q10, q11, q12, q13, q14, q15, _⟩ := h
  unfold TPage.size
  simp only [F18, P18]
  refine (szAddr a.xAddr _ h0 h1 q0 _).trans (szSub h0 h1 (fun m0 e0 h0 h1 => ?_))
  rw [e0]
  refine (szPolicy a.xPolicy _ h0 h1 q1 _).trans (szSub h0 h1 (fun m1 e1 h0 h1 => ?_))
  rw [e1]
  refine (szTokenizer a.xTok _ h0 h1 q2 _).trans (szSub h0 h1 (fun m2 e2 h0 h1 => ?_))
  rw [e2]
  refine (szTokenS a.xQueue _ h0 h1 q3 _).trans (szSub h0 h1 (fun m3 e3 h0 h1 => ?_))
  rw [e3]
  refine (szBuilder a.xBuilder _ h0 h1 q5 _).trans (szSub h0 h1 (fun m5 e5 h0 h1 => ?_))
  rw [e5]
  refine (szSlotS a.xSlots _ h0 h1 q6 _).trans (szSub h0 h1 (fun m6 e6 h0 h1 => ?_))
  rw [e6]
  refine (szModuleS a.xMods _ h0 h1 q7 _).trans (szSub h0 h1 (fun m7 e7 h0 h1 => ?_))
  rw [e7]
  refine (szAddrS a.xEntries _ h0 h1 q8 _).trans (szSub h0 h1 (fun m8 e8 h0 h1 => ?_))
  rw [e8]
  refine (szAddrS a.xRan _ h0 h1 q13 _).trans (szSub h0 h1 (fun m13 e13 h0 h1 => ?_))
  rw [e13]
  refine (szStringS a.xLog _ h0 h1 q14 _).trans (szSub h0 h1 (fun m14 e14 h0 h1 => ?_))
  rw [e14]
  exact szEnd h0
theorem toPage (a : TPage) (h : a.size ≤ 1048576) (k : List UInt8 → List UInt8 → Bool → List V → List V → List V → List UInt8 → List UInt8 → List V → Bool → List V → List V → List V → List V → List V → Int → Int → Int → Int → List V → List V → Bool → Option β) : F20 β a.xAddr.xHost a.xAddr.xPath a.xPolicy.xSet (rStr a.xPolicy.xScripts) (rStr a.xPolicy.xStyles) (rStr a.xPolicy.xImages) a.xPolicy.xNonce a.xTok.xRest (rows kToken TToken.row a.xQueue) a.xEnded (rows kNode TNode.row a.xBuilder.xNodes) (rInt a.xBuilder.xOpen) (rows kSlot TSlot.row a.xSlots) (rows kModule TModule.row a.xMods) (rows kAddr TAddr.row a.xEntries) a.xBlock a.xInline a.xDeferred a.xEntered (rows kAddr TAddr.row a.xRan) (rStr a.xLog) a.xLoaded k = k a.xAddr.xHost a.xAddr.xPath a.xPolicy.xSet (rStr a.xPolicy.xScripts) (rStr a.xPolicy.xStyles) (rStr a.xPolicy.xImages) a.xPolicy.xNonce a.xTok.xRest (rows kToken TToken.row a.xQueue) a.xEnded (rows kNode TNode.row a.xBuilder.xNodes) (rInt a.xBuilder.xOpen) (rows kSlot TSlot.row a.xSlots) (rows kModule TModule.row a.xMods) (rows kAddr TAddr.row a.xEntries) a.xBlock a.xInline a.xDeferred a.xEntered (rows kAddr TAddr.row a.xRan) (rStr a.xLog) a.xLoaded := by
  unfold TPage.size at h
  simp only [F20, P20]
  exact (toAddr a.xAddr (by omega) _).trans ((toPolicy a.xPolicy (by omega) _).trans ((toTokenizer a.xTok (by omega) _).trans ((toTokenS a.xQueue (by omega) _).trans ((toBuilder a.xBuilder (by omega) _).trans ((toSlotS a.xSlots (by omega) _).trans ((toModuleS a.xMods (by omega) _).trans ((toAddrS a.xEntries (by omega) _).trans ((toAddrS a.xRan (by omega) _).trans ((toStringS a.xLog (by omega) _).trans (rfl))))))))))
theorem eqPage_iff (a b : TPage) : (decide (a.xAddr = b.xAddr) && (decide (a.xPolicy = b.xPolicy) && (decide (a.xTok = b.xTok) && (decide (a.xQueue = b.xQueue) && ((a.xEnded == b.xEnded) && (decide (a.xBuilder = b.xBuilder) && (decide (a.xSlots = b.xSlots) && (decide (a.xMods = b.xMods) && (decide (a.xEntries = b.xEntries) && ((a.xBlock == b.xBlock) && ((a.xInline == b.xInline) && ((a.xDeferred == b.xDeferred) && ((a.xEntered == b.xEntered) && (decide (a.xRan = b.xRan) && (decide (a.xLog = b.xLog) && ((a.xLoaded == b.xLoaded) && (true))))))))))))))))) = decide (a = b) := by
  cases a; cases b
  rw [Bool.eq_iff_iff]
  simp only [TPage.mk.injEq, Bool.and_true, Bool.and_eq_true, beq_iff_eq, decide_eq_true_eq]
theorem eqPage (a b : TPage) (h : a.ok) (k : Bool → Option β) : F22 β a.xAddr.xHost a.xAddr.xPath a.xPolicy.xSet (rStr a.xPolicy.xScripts) (rStr a.xPolicy.xStyles) (rStr a.xPolicy.xImages) a.xPolicy.xNonce a.xTok.xRest (rows kToken TToken.row a.xQueue) a.xEnded (rows kNode TNode.row a.xBuilder.xNodes) (rInt a.xBuilder.xOpen) (rows kSlot TSlot.row a.xSlots) (rows kModule TModule.row a.xMods) (rows kAddr TAddr.row a.xEntries) a.xBlock a.xInline a.xDeferred a.xEntered (rows kAddr TAddr.row a.xRan) (rStr a.xLog) a.xLoaded b.xAddr.xHost b.xAddr.xPath b.xPolicy.xSet (rStr b.xPolicy.xScripts) (rStr b.xPolicy.xStyles) (rStr b.xPolicy.xImages) b.xPolicy.xNonce b.xTok.xRest (rows kToken TToken.row b.xQueue) b.xEnded (rows kNode TNode.row b.xBuilder.xNodes) (rInt b.xBuilder.xOpen) (rows kSlot TSlot.row b.xSlots) (rows kModule TModule.row b.xMods) (rows kAddr TAddr.row b.xEntries) b.xBlock b.xInline b.xDeferred b.xEntered (rows kAddr TAddr.row b.xRan) (rStr b.xLog) b.xLoaded k = k (decide (a = b)) := by
  obtain ⟨q0, q1, q2, q3, q4, q5, q6, q7, q8, q9, q10, q11, q12, q13, q14, q15, _⟩ := h
  simp only [F22, P22]
  refine Eq.trans (b := k (decide (a.xAddr = b.xAddr) && (decide (a.xPolicy = b.xPolicy) && (decide (a.xTok = b.xTok) && (decide (a.xQueue = b.xQueue) && ((a.xEnded == b.xEnded) && (decide (a.xBuilder = b.xBuilder) && (decide (a.xSlots = b.xSlots) && (decide (a.xMods = b.xMods) && (decide (a.xEntries = b.xEntries) && ((a.xBlock == b.xBlock) && ((a.xInline == b.xInline) && ((a.xDeferred == b.xDeferred) && ((a.xEntered == b.xEntered) && (decide (a.xRan = b.xRan) && (decide (a.xLog = b.xLog) && ((a.xLoaded == b.xLoaded) && (true)))))))))))))))))) ?_ (congrArg k (eqPage_iff a b))
  refine (eqAddr a.xAddr b.xAddr q0 _).trans (eqCut ?_)
  refine (eqPolicy a.xPolicy b.xPolicy q1 _).trans (eqCut ?_)
  refine (eqTokenizer a.xTok b.xTok q2 _).trans (eqCut ?_)
  refine (eqTokenS a.xQueue b.xQueue q3 _).trans (eqCut ?_)
  refine eqCut ?_
  refine (eqBuilder a.xBuilder b.xBuilder q5 _).trans (eqCut ?_)
  refine (eqSlotS a.xSlots b.xSlots q6 _).trans (eqCut ?_)
  refine (eqModuleS a.xMods b.xMods q7 _).trans (eqCut ?_)
  refine (eqAddrS a.xEntries b.xEntries q8 _).trans (eqCut ?_)
  refine eqCut ?_
  refine eqCut ?_
  refine eqCut ?_
  refine eqCut ?_
  refine (eqAddrS a.xRan b.xRan q13 _).trans (eqCut ?_)
  refine (eqStringS a.xLog b.xLog q14 _).trans (eqCut ?_)
  refine eqCut ?_
  rfl
open Classical in noncomputable def lszPage (a : TPage) (l : Int) : Option Int := if 0 ≤ l ∧ l ≤ 1048576 ∧ TPage.ok a then some (szL l (TPage.size a)) else none
theorem ei_lszPage (a : TPage) (l : Int) (k : Int → Option β) : Imp (F18 β a.xAddr.xHost a.xAddr.xPath a.xPolicy.xSet (rStr a.xPolicy.xScripts) (rStr a.xPolicy.xStyles) (rStr a.xPolicy.xImages) a.xPolicy.xNonce a.xTok.xRest (rows kToken TToken.row a.xQueue) a.xEnded (rows kNode TNode.row a.xBuilder.xNodes) (rInt a.xBuilder.xOpen) (rows kSlot TSlot.row a.xSlots) (rows kModule TModule.row a.xMods) (rows kAddr TAddr.row a.xEntries) a.xBlock a.xInline a.xDeferred a.xEntered (rows kAddr TAddr.row a.xRan) (rStr a.xLog) a.xLoaded l k) (lszPage a l) (fun r => k r) := by
  intro r h
  unfold lszPage at h
  split at h
  · rename_i c; cases h; exact szPage a l c.1 c.2.1 c.2.2 k
  · cases h
def ltoPage (a : TPage) : Option TPage := if TPage.size a ≤ 1048576 then some a else none
theorem ei_ltoPage (a : TPage) (k : List UInt8 → List UInt8 → Bool → List V → List V → List V → List UInt8 → List UInt8 → List V → Bool → List V → List V → List V → List V → List V → Int → Int → Int → Int → List V → List V → Bool → Option β) : Imp (F20 β a.xAddr.xHost a.xAddr.xPath a.xPolicy.xSet (rStr a.xPolicy.xScripts) (rStr a.xPolicy.xStyles) (rStr a.xPolicy.xImages) a.xPolicy.xNonce a.xTok.xRest (rows kToken TToken.row a.xQueue) a.xEnded (rows kNode TNode.row a.xBuilder.xNodes) (rInt a.xBuilder.xOpen) (rows kSlot TSlot.row a.xSlots) (rows kModule TModule.row a.xMods) (rows kAddr TAddr.row a.xEntries) a.xBlock a.xInline a.xDeferred a.xEntered (rows kAddr TAddr.row a.xRan) (rStr a.xLog) a.xLoaded k) (ltoPage a) (fun r => k r.xAddr.xHost r.xAddr.xPath r.xPolicy.xSet (rStr r.xPolicy.xScripts) (rStr r.xPolicy.xStyles) (rStr r.xPolicy.xImages) r.xPolicy.xNonce r.xTok.xRest (rows kToken TToken.row r.xQueue) r.xEnded (rows kNode TNode.row r.xBuilder.xNodes) (rInt r.xBuilder.xOpen) (rows kSlot TSlot.row r.xSlots) (rows kModule TModule.row r.xMods) (rows kAddr TAddr.row r.xEntries) r.xBlock r.xInline r.xDeferred r.xEntered (rows kAddr TAddr.row r.xRan) (rStr r.xLog) r.xLoaded) := by
  intro r h
  unfold ltoPage at h
  split at h
  · rename_i c; cases h; exact toPage a c k
  · cases h
open Classical in noncomputable def leqPage (a b : TPage) : Option Bool := if TPage.ok a then some (decide (a = b)) else none
theorem ei_leqPage (a b : TPage) (k : Bool → Option β) : Imp (F22 β a.xAddr.xHost a.xAddr.xPath a.xPolicy.xSet (rStr a.xPolicy.xScripts) (rStr a.xPolicy.xStyles) (rStr a.xPolicy.xImages) a.xPolicy.xNonce a.xTok.xRest (rows kToken TToken.row a.xQueue) a.xEnded (rows kNode TNode.row a.xBuilder.xNodes) (rInt a.xBuilder.xOpen) (rows kSlot TSlot.row a.xSlots) (rows kModule TModule.row a.xMods) (rows kAddr TAddr.row a.xEntries) a.xBlock a.xInline a.xDeferred a.xEntered (rows kAddr TAddr.row a.xRan) (rStr a.xLog) a.xLoaded b.xAddr.xHost b.xAddr.xPath b.xPolicy.xSet (rStr b.xPolicy.xScripts) (rStr b.xPolicy.xStyles) (rStr b.xPolicy.xImages) b.xPolicy.xNonce b.xTok.xRest (rows kToken TToken.row b.xQueue) b.xEnded (rows kNode TNode.row b.xBuilder.xNodes) (rInt b.xBuilder.xOpen) (rows kSlot TSlot.row b.xSlots) (rows kModule TModule.row b.xMods) (rows kAddr TAddr.row b.xEntries) b.xBlock b.xInline b.xDeferred b.xEntered (rows kAddr TAddr.row b.xRan) (rStr b.xLog) b.xLoaded k) (leqPage a b) (fun r => k r) := by
  intro r h
  unfold leqPage at h
  split at h
  · rename_i c; cases h; refine (eqPage a b c k).trans ?_; congr
  · cases h

/-! ### Visit -/
def TVisit.nul : TVisit := ⟨TAddr.nul, TPage.nul, false⟩
def TVisit.size (a : TVisit) : Nat := TAddr.size a.xAddr + (TPage.size a.xPage + (0))
def TVisit.ok (a : TVisit) : Prop := TAddr.ok a.xAddr ∧ TPage.ok a.xPage ∧ True ∧ True
theorem szVisit (a : TVisit) (l : Int) (h0 : 0 ≤ l) (h1 : l ≤ 1048576) (h : a.ok) (k : Int → Option β) : F151 β a.xAddr.xHost a.xAddr.xPath a.xPage.xAddr.xHost a.xPage.xAddr.xPath a.xPage.xPolicy.xSet (rStr a.xPage.xPolicy.xScripts) (rStr a.xPage.xPolicy.xStyles) (rStr a.xPage.xPolicy.xImages) a.xPage.xPolicy.xNonce a.xPage.xTok.xRest (rows kToken TToken.row a.xPage.xQueue) a.xPage.xEnded (rows kNode TNode.row a.xPage.xBuilder.xNodes) (rInt a.xPage.xBuilder.xOpen) (rows kSlot TSlot.row a.xPage.xSlots) (rows kModule TModule.row a.xPage.xMods) (rows kAddr TAddr.row a.xPage.xEntries) a.xPage.xBlock a.xPage.xInline a.xPage.xDeferred a.xPage.xEntered (rows kAddr TAddr.row a.xPage.xRan) (rStr a.xPage.xLog) a.xPage.xLoaded a.xKept l k = k (szL l a.size) := by
  obtain ⟨q0, q1, q2, _⟩ := h
  unfold TVisit.size
  simp only [F151, P151]
  refine (szAddr a.xAddr _ h0 h1 q0 _).trans (szSub h0 h1 (fun m0 e0 h0 h1 => ?_))
  rw [e0]
  refine (szPage a.xPage _ h0 h1 q1 _).trans (szSub h0 h1 (fun m1 e1 h0 h1 => ?_))
  rw [e1]
  exact szEnd h0
theorem toVisit (a : TVisit) (h : a.size ≤ 1048576) (k : List UInt8 → List UInt8 → List UInt8 → List UInt8 → Bool → List V → List V → List V → List UInt8 → List UInt8 → List V → Bool → List V → List V → List V → List V → List V → Int → Int → Int → Int → List V → List V → Bool → Bool → Option β) : F152 β a.xAddr.xHost a.xAddr.xPath a.xPage.xAddr.xHost a.xPage.xAddr.xPath a.xPage.xPolicy.xSet (rStr a.xPage.xPolicy.xScripts) (rStr a.xPage.xPolicy.xStyles) (rStr a.xPage.xPolicy.xImages) a.xPage.xPolicy.xNonce a.xPage.xTok.xRest (rows kToken TToken.row a.xPage.xQueue) a.xPage.xEnded (rows kNode TNode.row a.xPage.xBuilder.xNodes) (rInt a.xPage.xBuilder.xOpen) (rows kSlot TSlot.row a.xPage.xSlots) (rows kModule TModule.row a.xPage.xMods) (rows kAddr TAddr.row a.xPage.xEntries) a.xPage.xBlock a.xPage.xInline a.xPage.xDeferred a.xPage.xEntered (rows kAddr TAddr.row a.xPage.xRan) (rStr a.xPage.xLog) a.xPage.xLoaded a.xKept k = k a.xAddr.xHost a.xAddr.xPath a.xPage.xAddr.xHost a.xPage.xAddr.xPath a.xPage.xPolicy.xSet (rStr a.xPage.xPolicy.xScripts) (rStr a.xPage.xPolicy.xStyles) (rStr a.xPage.xPolicy.xImages) a.xPage.xPolicy.xNonce a.xPage.xTok.xRest (rows kToken TToken.row a.xPage.xQueue) a.xPage.xEnded (rows kNode TNode.row a.xPage.xBuilder.xNodes) (rInt a.xPage.xBuilder.xOpen) (rows kSlot TSlot.row a.xPage.xSlots) (rows kModule TModule.row a.xPage.xMods) (rows kAddr TAddr.row a.xPage.xEntries) a.xPage.xBlock a.xPage.xInline a.xPage.xDeferred a.xPage.xEntered (rows kAddr TAddr.row a.xPage.xRan) (rStr a.xPage.xLog) a.xPage.xLoaded a.xKept := by
  unfold TVisit.size at h
  simp only [F152, P152]
  exact (toAddr a.xAddr (by omega) _).trans ((toPage a.xPage (by omega) _).trans (rfl))
theorem eqVisit_iff (a b : TVisit) : (decide (a.xAddr = b.xAddr) && (decide (a.xPage = b.xPage) && ((a.xKept == b.xKept) && (true)))) = decide (a = b) := by
  cases a; cases b
  rw [Bool.eq_iff_iff]
  simp only [TVisit.mk.injEq, Bool.and_true, Bool.and_eq_true, beq_iff_eq, decide_eq_true_eq]
theorem eqVisit (a b : TVisit) (h : a.ok) (k : Bool → Option β) : F154 β a.xAddr.xHost a.xAddr.xPath a.xPage.xAddr.xHost a.xPage.xAddr.xPath a.xPage.xPolicy.xSet (rStr a.xPage.xPolicy.xScripts) (rStr a.xPage.xPolicy.xStyles) (rStr a.xPage.xPolicy.xImages) a.xPage.xPolicy.xNonce a.xPage.xTok.xRest (rows kToken TToken.row a.xPage.xQueue) a.xPage.xEnded (rows kNode TNode.row a.xPage.xBuilder.xNodes) (rInt a.xPage.xBuilder.xOpen) (rows kSlot TSlot.row a.xPage.xSlots) (rows kModule TModule.row a.xPage.xMods) (rows kAddr TAddr.row a.xPage.xEntries) a.xPage.xBlock a.xPage.xInline a.xPage.xDeferred a.xPage.xEntered (rows kAddr TAddr.row a.xPage.xRan) (rStr a.xPage.xLog) a.xPage.xLoaded a.xKept b.xAddr.xHost b.xAddr.xPath b.xPage.xAddr.xHost b.xPage.xAddr.xPath b.xPage.xPolicy.xSet (rStr b.xPage.xPolicy.xScripts) (rStr b.xPage.xPolicy.xStyles) (rStr b.xPage.xPolicy.xImages) b.xPage.xPolicy.xNonce b.xPage.xTok.xRest (rows kToken TToken.row b.xPage.xQueue) b.xPage.xEnded (rows kNode TNode.row b.xPage.xBuilder.xNodes) (rInt b.xPage.xBuilder.xOpen) (rows kSlot TSlot.row b.xPage.xSlots) (rows kModule TModule.row b.xPage.xMods) (rows kAddr TAddr.row b.xPage.xEntries) b.xPage.xBlock b.xPage.xInline b.xPage.xDeferred b.xPage.xEntered (rows kAddr TAddr.row b.xPage.xRan) (rStr b.xPage.xLog) b.xPage.xLoaded b.xKept k = k (decide (a = b)) := by
  obtain ⟨q0, q1, q2, _⟩ := h
  simp only [F154, P154]
  refine Eq.trans (b := k (decide (a.xAddr = b.xAddr) && (decide (a.xPage = b.xPage) && ((a.xKept == b.xKept) && (true))))) ?_ (congrArg k (eqVisit_iff a b))
  refine (eqAddr a.xAddr b.xAddr q0 _).trans (eqCut ?_)
  refine (eqPage a.xPage b.xPage q1 _).trans (eqCut ?_)
  refine eqCut ?_
  rfl
theorem szVisitS (a : List TVisit) (l : Int) (h0 : 0 ≤ l) (h1 : l ≤ 1048576) (h : okL TVisit.ok a) (k : Int → Option β) : F89 β (rows kVisit TVisit.row a) l k = k (szL l (a.length + sumL TVisit.size a)) := by
  simp only [F89, P89, rows_len]
  refine szCut h0 h1 h.1 (fun m e h0 h1 => ?_)
  rw [e]
  refine while_sz (fun (i : Nat) (m : Int) => ([.l (rows kVisit TVisit.row a), .i m, .i (i : Int)] : List Leaf)) a TVisit.size (fun m => (1, [.i m])) (fun i y m hi hm0 hm1 => ?_) (fun m => brN rirr rfl) (fun m => rfl) h0 h1 rfl
  have hlt : i < a.length := (List.getElem?_eq_some_iff.1 hi).1
  have hb := h.1
  unfold maxLen at hb
  rcases @szCase m y.size with ⟨c, e⟩ | ⟨c, e⟩
  · exact .inl ⟨_, c, brE (rlt hlt) (chkE (Int.natCast_nonneg _) (idxE (i := i) hi ((szVisit y m hm0 hm1 (h.2 y (List.mem_of_getElem? hi)) _).trans (brE (by rw [e]; decide) rfl)))), rfl⟩
  · exact .inr ⟨c, brE (rlt hlt) (chkE (Int.natCast_nonneg _) (idxE (i := i) hi ((szVisit y m hm0 hm1 (h.2 y (List.mem_of_getElem? hi)) _).trans (brN (by rw [e]; omega) (two (fun m j : Int => (some (Sum.inl ([.l (rows kVisit TVisit.row a), .i m, .i j] : List Leaf)) : Option (List Leaf ⊕ (Nat × List Leaf)))) e (wrapS (i := i) (by omega)))))))⟩
theorem toVisitS (a : List TVisit) (h : a.length + sumL TVisit.size a ≤ 1048576) (k : List V → Option β) : F91 β (rows kVisit TVisit.row a) k = k (rows kVisit TVisit.row a) := by
  simp only [F91, P91, rows_len, whileK, Int.toNat_natCast]
  refine chkE ⟨by omega, by omega, by omega, by omega⟩ ?_
  rw [while_each (fun i : Nat => ([.l (rows kVisit TVisit.row a), .l (rows kVisit TVisit.row (copyS a TVisit.nul i)), .i (i : Int)] : List Leaf)) a (0, [.l (rows kVisit TVisit.row a)]) ?h1 ?h2 _ ?hs]
  case hs => rw [← rows_copy0 rfl]; rfl
  case h1 =>
    intro i y hi
    have hlt : i < a.length := (List.getElem?_eq_some_iff.1 hi).1
    have hl := copyS_len (a := a) (n := TVisit.nul) (i := i) (by omega)
    have hm := sumL_mem (f := TVisit.size) (List.mem_of_getElem? hi)
    refine brE (rlt hlt) (chkE (Int.natCast_nonneg _) (idxE (i := i) hi ((toVisit y (by omega) _).trans (chkE ⟨Int.natCast_nonneg _, ?_⟩ (storeE (g := TVisit.row) (y := y) (i := i) rfl (Nat.lt_of_lt_of_eq hlt hl.symm) ?_)))))
    · show (Int.toNat (i : Int)) < (rows kVisit TVisit.row (copyS a TVisit.nul i)).length
      rw [rows_len]; exact Nat.lt_of_lt_of_eq hlt hl.symm
    · exact two (fun (c : List TVisit) (j : Int) => (some (Sum.inl ([.l (rows kVisit TVisit.row a), .l (rows kVisit TVisit.row c), .i j] : List Leaf)) : Option (List Leaf ⊕ (Nat × List Leaf)))) (copyS_set hi) (wrapS (i := i) (by omega))
  case h2 =>
    rw [copyS_end]
    exact brN rirr rfl
  · rfl
theorem eqVisitS (a b : List TVisit) (h : okL TVisit.ok a) (k : Bool → Option β) : F93 β (rows kVisit TVisit.row a) (rows kVisit TVisit.row b) k = k (decide (a = b)) := by
  simp only [F93, P93]
  refine eqLen (rows_len ..) (rows_len ..) (fun hl => ?_)
  refine while_eq (fun i : Nat => ([.l (rows kVisit TVisit.row a), .l (rows kVisit TVisit.row b), .i (i : Int)] : List Leaf)) a b hl (fun i x y hi hx hy => ?_) (brN rirr rfl) rfl rfl rfl
  have hb := h.1
  unfold maxLen at hb
  exact brE (rlt hi) (chkE (Int.natCast_nonneg _) (idxE (i := i) hx (chkE (Int.natCast_nonneg _) (idxE (i := i) hy ((eqVisit x y (h.2 x (List.mem_of_getElem? hx)) _).trans (brB rfl rfl (congrArg (fun j : Int => (some (Sum.inl ([.l (rows kVisit TVisit.row a), .l (rows kVisit TVisit.row b), .i j] : List Leaf)) : Option (List Leaf ⊕ (Nat × List Leaf)))) (wrapS (i := i) (by omega)))))))))

/-! ### Tab -/
def TTab.nul : TTab := ⟨[], 0⟩
def TTab.size (a : TTab) : Nat := (a.xVisits.length + sumL TVisit.size a.xVisits) + (0)
def TTab.ok (a : TTab) : Prop := okL TVisit.ok a.xVisits ∧ okI a.xAt ∧ True
theorem szTab (a : TTab) (l : Int) (h0 : 0 ≤ l) (h1 : l ≤ 1048576) (h : a.ok) (k : Int → Option β) : F23 β (rows kVisit TVisit.row a.xVisits) a.xAt l k = k (szL l a.size) := by
  obtain ⟨q0, q1, _⟩ := h
  unfold TTab.size
  simp only [F23, P23]
  refine (szVisitS a.xVisits _ h0 h1 q0 _).trans (szSub h0 h1 (fun m0 e0 h0 h1 => ?_))
  rw [e0]
  exact szEnd h0
theorem toTab (a : TTab) (h : a.size ≤ 1048576) (k : List V → Int → Option β) : F25 β (rows kVisit TVisit.row a.xVisits) a.xAt k = k (rows kVisit TVisit.row a.xVisits) a.xAt := by
  unfold TTab.size at h
  simp only [F25, P25]
  exact (toVisitS a.xVisits (by omega) _).trans (rfl)
theorem eqTab_iff (a b : TTab) : (decide (a.xVisits = b.xVisits) && ((a.xAt == b.xAt) && (true))) = decide (a = b) := by
  cases a; cases b
  rw [Bool.eq_iff_iff]
  simp only [TTab.mk.injEq, Bool.and_true, Bool.and_eq_true, beq_iff_eq, decide_eq_true_eq]
theorem eqTab (a b : TTab) (h : a.ok) (k : Bool → Option β) : F27 β (rows kVisit TVisit.row a.xVisits) a.xAt (rows kVisit TVisit.row b.xVisits) b.xAt k = k (decide (a = b)) := by
  obtain ⟨q0, q1, _⟩ := h
  simp only [F27, P27]
  refine Eq.trans (b := k (decide (a.xVisits = b.xVisits) && ((a.xAt == b.xAt) && (true)))) ?_ (congrArg k (eqTab_iff a b))
  refine (eqVisitS a.xVisits b.xVisits q0 _).trans (eqCut ?_)
  refine eqCut ?_
  rfl
open Classical in noncomputable def lszTab (a : TTab) (l : Int) : Option Int := if 0 ≤ l ∧ l ≤ 1048576 ∧ TTab.ok a then some (szL l (TTab.size a)) else none
theorem ei_lszTab (a : TTab) (l : Int) (k : Int → Option β) : Imp (F23 β (rows kVisit TVisit.row a.xVisits) a.xAt l k) (lszTab a l) (fun r => k r) := by
  intro r h
  unfold lszTab at h
  split at h
  · rename_i c; cases h; exact szTab a l c.1 c.2.1 c.2.2 k
  · cases h
def ltoTab (a : TTab) : Option TTab := if TTab.size a ≤ 1048576 then some a else none
theorem ei_ltoTab (a : TTab) (k : List V → Int → Option β) : Imp (F25 β (rows kVisit TVisit.row a.xVisits) a.xAt k) (ltoTab a) (fun r => k (rows kVisit TVisit.row r.xVisits) r.xAt) := by
  intro r h
  unfold ltoTab at h
  split at h
  · rename_i c; cases h; exact toTab a c k
  · cases h
open Classical in noncomputable def leqTab (a b : TTab) : Option Bool := if TTab.ok a then some (decide (a = b)) else none
theorem ei_leqTab (a b : TTab) (k : Bool → Option β) : Imp (F27 β (rows kVisit TVisit.row a.xVisits) a.xAt (rows kVisit TVisit.row b.xVisits) b.xAt k) (leqTab a b) (fun r => k r) := by
  intro r h
  unfold leqTab at h
  split at h
  · rename_i c; cases h; refine (eqTab a b c k).trans ?_; congr
  · cases h

/-! ### arguments -/
def fl : Nat → Bool := fun t => t != 38 && t != 26 && t != 24 && t != 29 && t != 196 && t != 194 && t != 33 && t != 30 && t != 249 && t != 31 && t != 34 && t != 35 && t != 36 && t != 87 && t != 85 && t != 224
def L : List Nat := [38, 23, 9, 26, 4, 24, 28, 29, 196, 3, 194, 260, 33, 30, 249, 31, 34, 201, 35, 204, 36, 87, 85, 224]
theorem kids : kidsOk Tryz.prog L = true := by kernel_rfl
theorem flArgs : flOk Tryz.prog L fl = true := by kernel_rfl
theorem cells38 : Tryz.prog.cellsOf 38 = 22 := by kernel_rfl
theorem cells23 : Tryz.prog.cellsOf 23 = 2 := by kernel_rfl
theorem cells9 : Tryz.prog.cellsOf 9 = 1 := by kernel_rfl
theorem cells26 : Tryz.prog.cellsOf 26 = 5 := by kernel_rfl
theorem cells4 : Tryz.prog.cellsOf 4 = 1 := by kernel_rfl
theorem cells24 : Tryz.prog.cellsOf 24 = 1 := by kernel_rfl
theorem cells28 : Tryz.prog.cellsOf 28 = 1 := by kernel_rfl
theorem cells29 : Tryz.prog.cellsOf 29 = 1 := by kernel_rfl
theorem cells196 : Tryz.prog.cellsOf 196 = 4 := by kernel_rfl
theorem cells3 : Tryz.prog.cellsOf 3 = 1 := by kernel_rfl
theorem cells194 : Tryz.prog.cellsOf 194 = 1 := by kernel_rfl
theorem cells260 : Tryz.prog.cellsOf 260 = 2 := by kernel_rfl
theorem cells33 : Tryz.prog.cellsOf 33 = 2 := by kernel_rfl
theorem cells30 : Tryz.prog.cellsOf 30 = 1 := by kernel_rfl
theorem cells249 : Tryz.prog.cellsOf 249 = 4 := by kernel_rfl
theorem cells31 : Tryz.prog.cellsOf 31 = 1 := by kernel_rfl
theorem cells34 : Tryz.prog.cellsOf 34 = 1 := by kernel_rfl
theorem cells201 : Tryz.prog.cellsOf 201 = 8 := by kernel_rfl
theorem cells35 : Tryz.prog.cellsOf 35 = 1 := by kernel_rfl
theorem cells204 : Tryz.prog.cellsOf 204 = 5 := by kernel_rfl
theorem cells36 : Tryz.prog.cellsOf 36 = 1 := by kernel_rfl
theorem cells87 : Tryz.prog.cellsOf 87 = 2 := by kernel_rfl
theorem cells85 : Tryz.prog.cellsOf 85 = 1 := by kernel_rfl
theorem cells224 : Tryz.prog.cellsOf 224 = 25 := by kernel_rfl
theorem Addr_open {n : Nat} {us : List V} (h : Cn Tryz.prog fl n 23 us) : ∃ a : TAddr, a.ok ∧ us = [.str a.xHost, .str a.xPath] := by
  obtain ⟨m, hl, hf⟩ := cn_struct h Tryz.underlying23
  rw [cells23] at hl
  obtain ⟨u0, l0, rfl, hl0⟩ := list_next hl
  obtain ⟨u1, l1, rfl, hl1⟩ := list_next hl0
  obtain rfl := List.length_eq_zero_iff.1 hl1
  obtain ⟨g0, g1, _⟩ := hf
  rw [cells9] at g0
  obtain ⟨y0, z0, o0⟩ := cn_str g0 Tryz.underlying9
  simp only [List.drop_succ_cons, List.drop_zero, List.take_succ_cons, List.take_zero, List.cons.injEq, and_true] at z0
  obtain rfl := z0
  rw [cells9] at g1
  obtain ⟨y1, z1, o1⟩ := cn_str g1 Tryz.underlying9
  simp only [List.drop_succ_cons, List.drop_zero, List.take_succ_cons, List.take_zero, List.cons.injEq, and_true] at z1
  obtain rfl := z1
  exact ⟨⟨y0, y1⟩, ⟨o0, o1, trivial⟩, rfl⟩
theorem Policy_open {n : Nat} {us : List V} (h : Cn Tryz.prog fl n 26 us) : ∃ a : TPolicy, a.ok ∧ us = [.bool a.xSet, .sl 1 true (rStr a.xScripts), .sl 1 true (rStr a.xStyles), .sl 1 true (rStr a.xImages), .str a.xNonce] := by
  obtain ⟨m, hl, hf⟩ := cn_struct h Tryz.underlying26
  rw [cells26] at hl
  obtain ⟨u0, l0, rfl, hl0⟩ := list_next hl
  obtain ⟨u1, l1, rfl, hl1⟩ := list_next hl0
  obtain ⟨u2, l2, rfl, hl2⟩ := list_next hl1
  obtain ⟨u3, l3, rfl, hl3⟩ := list_next hl2
  obtain ⟨u4, l4, rfl, hl4⟩ := list_next hl3
  obtain rfl := List.length_eq_zero_iff.1 hl4
  obtain ⟨g0, g1, g2, g3, g4, _⟩ := hf
  rw [cells4] at g0
  obtain ⟨y0, z0⟩ := cn_bool g0 Tryz.underlying4
  have o0 : True := trivial
  simp only [List.drop_succ_cons, List.drop_zero, List.take_succ_cons, List.take_zero, List.cons.injEq, and_true] at z0
  obtain rfl := z0
  rw [cells24] at g1
  obtain ⟨_, r1, z1, b1, w1⟩ := cn_rows1 g1 Tryz.underlying24 (by rw [Tryz.underlying9]; intro fs hfs; cases hfs)
  obtain ⟨y1, rfl, v1⟩ := rows1_of (kd := .str) (g := fun e => e) (ok := okS) (fun r hr => by
    obtain ⟨us, h1, h2⟩ := w1 r hr
    obtain ⟨e, h3, h4⟩ := cn_str h1 Tryz.underlying9
    exact ⟨e, h4, by rw [h2, h3]; rfl⟩)
  have o1 : okL okS y1 := ⟨by rw [rows1_len] at b1; exact b1, v1⟩
  rw [cells9, show fl 9 = true from rfl] at z1
  simp only [List.drop_succ_cons, List.drop_zero, List.take_succ_cons, List.take_zero, List.cons.injEq, and_true] at z1
  obtain rfl := z1
  rw [cells24] at g2
  obtain ⟨_, r2, z2, b2, w2⟩ := cn_rows1 g2 Tryz.underlying24 (by rw [Tryz.underlying9]; intro fs hfs; cases hfs)
  obtain ⟨y2, rfl, v2⟩ := rows1_of (kd := .str) (g := fun e => e) (ok := okS) (fun r hr => by
    obtain ⟨us, h1, h2⟩ := w2 r hr
    obtain ⟨e, h3, h4⟩ := cn_str h1 Tryz.underlying9
    exact ⟨e, h4, by rw [h2, h3]; rfl⟩)
  have o2 : okL okS y2 := ⟨by rw [rows1_len] at b2; exact b2, v2⟩
  rw [cells9, show fl 9 = true from rfl] at z2
  simp only [List.drop_succ_cons, List.drop_zero, List.take_succ_cons, List.take_zero, List.cons.injEq, and_true] at z2
  obtain rfl := z2
  rw [cells24] at g3
  obtain ⟨_, r3, z3, b3, w3⟩ := cn_rows1 g3 Tryz.underlying24 (by rw [Tryz.underlying9]; intro fs hfs; cases hfs)
  obtain ⟨y3, rfl, v3⟩ := rows1_of (kd := .str) (g := fun e => e) (ok := okS) (fun r hr => by
    obtain ⟨us, h1, h2⟩ := w3 r hr
    obtain ⟨e, h3, h4⟩ := cn_str h1 Tryz.underlying9
    exact ⟨e, h4, by rw [h2, h3]; rfl⟩)
  have o3 : okL okS y3 := ⟨by rw [rows1_len] at b3; exact b3, v3⟩
  rw [cells9, show fl 9 = true from rfl] at z3
  simp only [List.drop_succ_cons, List.drop_zero, List.take_succ_cons, List.take_zero, List.cons.injEq, and_true] at z3
  obtain rfl := z3
  rw [cells9] at g4
  obtain ⟨y4, z4, o4⟩ := cn_str g4 Tryz.underlying9
  simp only [List.drop_succ_cons, List.drop_zero, List.take_succ_cons, List.take_zero, List.cons.injEq, and_true] at z4
  obtain rfl := z4
  exact ⟨⟨y0, y1, y2, y3, y4⟩, ⟨o0, o1, o2, o3, o4, trivial⟩, rfl⟩
theorem Tokenizer_open {n : Nat} {us : List V} (h : Cn Tryz.prog fl n 28 us) : ∃ a : TTokenizer, a.ok ∧ us = [.str a.xRest] := by
  obtain ⟨m, hl, hf⟩ := cn_struct h Tryz.underlying28
  rw [cells28] at hl
  obtain ⟨u0, l0, rfl, hl0⟩ := list_next hl
  obtain rfl := List.length_eq_zero_iff.1 hl0
  obtain ⟨g0, _⟩ := hf
  rw [cells9] at g0
  obtain ⟨y0, z0, o0⟩ := cn_str g0 Tryz.underlying9
  simp only [List.drop_succ_cons, List.drop_zero, List.take_succ_cons, List.take_zero, List.cons.injEq, and_true] at z0
  obtain rfl := z0
  exact ⟨⟨y0⟩, ⟨o0, trivial⟩, rfl⟩
theorem Attr_open {n : Nat} {us : List V} (h : Cn Tryz.prog fl n 260 us) : ∃ a : TAttr, a.ok ∧ us = [.str a.xName, .str a.xValue] := by
  obtain ⟨m, hl, hf⟩ := cn_struct h Tryz.underlying260
  rw [cells260] at hl
  obtain ⟨u0, l0, rfl, hl0⟩ := list_next hl
  obtain ⟨u1, l1, rfl, hl1⟩ := list_next hl0
  obtain rfl := List.length_eq_zero_iff.1 hl1
  obtain ⟨g0, g1, _⟩ := hf
  rw [cells9] at g0
  obtain ⟨y0, z0, o0⟩ := cn_str g0 Tryz.underlying9
  simp only [List.drop_succ_cons, List.drop_zero, List.take_succ_cons, List.take_zero, List.cons.injEq, and_true] at z0
  obtain rfl := z0
  rw [cells9] at g1
  obtain ⟨y1, z1, o1⟩ := cn_str g1 Tryz.underlying9
  simp only [List.drop_succ_cons, List.drop_zero, List.take_succ_cons, List.take_zero, List.cons.injEq, and_true] at z1
  obtain rfl := z1
  exact ⟨⟨y0, y1⟩, ⟨o0, o1, trivial⟩, rfl⟩
theorem Token_open {n : Nat} {us : List V} (h : Cn Tryz.prog fl n 196 us) : ∃ a : TToken, a.ok ∧ us = [.int .i64 a.xKind, .str a.xName, .sl 2 true (rows kAttr TAttr.row a.xAttrs), .str a.xText] := by
  obtain ⟨m, hl, hf⟩ := cn_struct h Tryz.underlying196
  rw [cells196] at hl
  obtain ⟨u0, l0, rfl, hl0⟩ := list_next hl
  obtain ⟨u1, l1, rfl, hl1⟩ := list_next hl0
  obtain ⟨u2, l2, rfl, hl2⟩ := list_next hl1
  obtain ⟨u3, l3, rfl, hl3⟩ := list_next hl2
  obtain rfl := List.length_eq_zero_iff.1 hl3
  obtain ⟨g0, g1, g2, g3, _⟩ := hf
  rw [cells3] at g0
  obtain ⟨y0, z0, o0⟩ := cn_int g0 Tryz.underlying3
  have o0 := okI_of o0
  simp only [List.drop_succ_cons, List.drop_zero, List.take_succ_cons, List.take_zero, List.cons.injEq, and_true] at z0
  obtain rfl := z0
  rw [cells9] at g1
  obtain ⟨y1, z1, o1⟩ := cn_str g1 Tryz.underlying9
  simp only [List.drop_succ_cons, List.drop_zero, List.take_succ_cons, List.take_zero, List.cons.injEq, and_true] at z1
  obtain rfl := z1
  rw [cells194] at g2
  obtain ⟨_, r2, z2, b2, w2⟩ := cn_rows g2 Tryz.underlying194 Tryz.underlying260
  obtain ⟨y2, rfl, v2⟩ := rows_of (ks := kAttr) (g := TAttr.row) (ok := TAttr.ok) (fun r hr => by
    obtain ⟨us, h1, h2⟩ := w2 r hr
    obtain ⟨e, h3, h4⟩ := Attr_open h1
    exact ⟨e, h3, by rw [h2, h4]; rfl⟩)
  have o2 : okL TAttr.ok y2 := ⟨by rw [rows_len] at b2; exact b2, v2⟩
  rw [cells260, show fl 260 = true from rfl] at z2
  simp only [List.drop_succ_cons, List.drop_zero, List.take_succ_cons, List.take_zero, List.cons.injEq, and_true] at z2
  obtain rfl := z2
  rw [cells9] at g3
  obtain ⟨y3, z3, o3⟩ := cn_str g3 Tryz.underlying9
  simp only [List.drop_succ_cons, List.drop_zero, List.take_succ_cons, List.take_zero, List.cons.injEq, and_true] at z3
  obtain rfl := z3
  exact ⟨⟨y0, y1, y2, y3⟩, ⟨o0, o1, o2, o3, trivial⟩, rfl⟩
theorem Node_open {n : Nat} {us : List V} (h : Cn Tryz.prog fl n 249 us) : ∃ a : TNode, a.ok ∧ us = [.str a.xName, .str a.xText, .int .i64 a.xParent, .sl 2 true (rows kAttr TAttr.row a.xAttrs)] := by
  obtain ⟨m, hl, hf⟩ := cn_struct h Tryz.underlying249
  rw [cells249] at hl
  obtain ⟨u0, l0, rfl, hl0⟩ := list_next hl
  obtain ⟨u1, l1, rfl, hl1⟩ := list_next hl0
  obtain ⟨u2, l2, rfl, hl2⟩ := list_next hl1
  obtain ⟨u3, l3, rfl, hl3⟩ := list_next hl2
  obtain rfl := List.length_eq_zero_iff.1 hl3
  obtain ⟨g0, g1, g2, g3, _⟩ := hf
  rw [cells9] at g0
  obtain ⟨y0, z0, o0⟩ := cn_str g0 Tryz.underlying9
  simp only [List.drop_succ_cons, List.drop_zero, List.take_succ_cons, List.take_zero, List.cons.injEq, and_true] at z0
  obtain rfl := z0
  rw [cells9] at g1
  obtain ⟨y1, z1, o1⟩ := cn_str g1 Tryz.underlying9
  simp only [List.drop_succ_cons, List.drop_zero, List.take_succ_cons, List.take_zero, List.cons.injEq, and_true] at z1
  obtain rfl := z1
  rw [cells3] at g2
  obtain ⟨y2, z2, o2⟩ := cn_int g2 Tryz.underlying3
  have o2 := okI_of o2
  simp only [List.drop_succ_cons, List.drop_zero, List.take_succ_cons, List.take_zero, List.cons.injEq, and_true] at z2
  obtain rfl := z2
  rw [cells194] at g3
  obtain ⟨_, r3, z3, b3, w3⟩ := cn_rows g3 Tryz.underlying194 Tryz.underlying260
  obtain ⟨y3, rfl, v3⟩ := rows_of (ks := kAttr) (g := TAttr.row) (ok := TAttr.ok) (fun r hr => by
    obtain ⟨us, h1, h2⟩ := w3 r hr
    obtain ⟨e, h3, h4⟩ := Attr_open h1
    exact ⟨e, h3, by rw [h2, h4]; rfl⟩)
  have o3 : okL TAttr.ok y3 := ⟨by rw [rows_len] at b3; exact b3, v3⟩
  rw [cells260, show fl 260 = true from rfl] at z3
  simp only [List.drop_succ_cons, List.drop_zero, List.take_succ_cons, List.take_zero, List.cons.injEq, and_true] at z3
  obtain rfl := z3
  exact ⟨⟨y0, y1, y2, y3⟩, ⟨o0, o1, o2, o3, trivial⟩, rfl⟩
theorem Builder_open {n : Nat} {us : List V} (h : Cn Tryz.prog fl n 33 us) : ∃ a : TBuilder, a.ok ∧ us = [.sl 4 false (rows kNode TNode.row a.xNodes), .sl 1 true (rInt a.xOpen)] := by
  obtain ⟨m, hl, hf⟩ := cn_struct h Tryz.underlying33
  rw [cells33] at hl
  obtain ⟨u0, l0, rfl, hl0⟩ := list_next hl
  obtain ⟨u1, l1, rfl, hl1⟩ := list_next hl0
  obtain rfl := List.length_eq_zero_iff.1 hl1
  obtain ⟨g0, g1, _⟩ := hf
  rw [cells30] at g0
  obtain ⟨_, r0, z0, b0, w0⟩ := cn_rows g0 Tryz.underlying30 Tryz.underlying249
  obtain ⟨y0, rfl, v0⟩ := rows_of (ks := kNode) (g := TNode.row) (ok := TNode.ok) (fun r hr => by
    obtain ⟨us, h1, h2⟩ := w0 r hr
    obtain ⟨e, h3, h4⟩ := Node_open h1
    exact ⟨e, h3, by rw [h2, h4]; rfl⟩)
  have o0 : okL TNode.ok y0 := ⟨by rw [rows_len] at b0; exact b0, v0⟩
  rw [cells249, show fl 249 = false from rfl] at z0
  simp only [List.drop_succ_cons, List.drop_zero, List.take_succ_cons, List.take_zero, List.cons.injEq, and_true] at z0
  obtain rfl := z0
  rw [cells31] at g1
  obtain ⟨_, r1, z1, b1, w1⟩ := cn_rows1 g1 Tryz.underlying31 (by rw [Tryz.underlying3]; intro fs hfs; cases hfs)
  obtain ⟨y1, rfl, v1⟩ := rows1_of (kd := .int .i64) (g := fun e => e) (ok := okI) (fun r hr => by
    obtain ⟨us, h1, h2⟩ := w1 r hr
    obtain ⟨e, h3, h4⟩ := cn_int h1 Tryz.underlying3
    exact ⟨e, okI_of h4, by rw [h2, h3]; rfl⟩)
  have o1 : okL okI y1 := ⟨by rw [rows1_len] at b1; exact b1, v1⟩
  rw [cells3, show fl 3 = true from rfl] at z1
  simp only [List.drop_succ_cons, List.drop_zero, List.take_succ_cons, List.take_zero, List.cons.injEq, and_true] at z1
  obtain rfl := z1
  exact ⟨⟨y0, y1⟩, ⟨o0, o1, trivial⟩, rfl⟩
theorem Slot_open {n : Nat} {us : List V} (h : Cn Tryz.prog fl n 201 us) : ∃ a : TSlot, a.ok ∧ us = [.int .i64 a.xMode, .str a.xTo.xHost, .str a.xTo.xPath, .str a.xDigest, .int .i64 a.xNode, .bool a.xDone, .int .i64 a.xCode, .str a.xBody] := by
  obtain ⟨m, hl, hf⟩ := cn_struct h Tryz.underlying201
  rw [cells201] at hl
  obtain ⟨u0, l0, rfl, hl0⟩ := list_next hl
  obtain ⟨u1, l1, rfl, hl1⟩ := list_next hl0
  obtain ⟨u2, l2, rfl, hl2⟩ := list_next hl1
  obtain ⟨u3, l3, rfl, hl3⟩ := list_next hl2
  obtain ⟨u4, l4, rfl, hl4⟩ := list_next hl3
  obtain ⟨u5, l5, rfl, hl5⟩ := list_next hl4
  obtain ⟨u6, l6, rfl, hl6⟩ := list_next hl5
  obtain ⟨u7, l7, rfl, hl7⟩ := list_next hl6
  obtain rfl := List.length_eq_zero_iff.1 hl7
  obtain ⟨g0, g1, g2, g3, g4, g5, g6, _⟩ := hf
  rw [cells3] at g0
  obtain ⟨y0, z0, o0⟩ := cn_int g0 Tryz.underlying3
  have o0 := okI_of o0
  simp only [List.drop_succ_cons, List.drop_zero, List.take_succ_cons, List.take_zero, List.cons.injEq, and_true] at z0
  obtain rfl := z0
  rw [cells23] at g1
  obtain ⟨y1, o1, z1⟩ := Addr_open g1
  simp only [List.drop_succ_cons, List.drop_zero, List.take_succ_cons, List.take_zero, List.cons.injEq, and_true] at z1
  obtain ⟨rfl, rfl⟩ := z1
  rw [cells9] at g2
  obtain ⟨y2, z2, o2⟩ := cn_str g2 Tryz.underlying9
  simp only [List.drop_succ_cons, List.drop_zero, List.take_succ_cons, List.take_zero, List.cons.injEq, and_true] at z2
  obtain rfl := z2
  rw [cells3] at g3
  obtain ⟨y3, z3, o3⟩ := cn_int g3 Tryz.underlying3
  have o3 := okI_of o3
  simp only [List.drop_succ_cons, List.drop_zero, List.take_succ_cons, List.take_zero, List.cons.injEq, and_true] at z3
  obtain rfl := z3
  rw [cells4] at g4
  obtain ⟨y4, z4⟩ := cn_bool g4 Tryz.underlying4
  have o4 : True := trivial
  simp only [List.drop_succ_cons, List.drop_zero, List.take_succ_cons, List.take_zero, List.cons.injEq, and_true] at z4
  obtain rfl := z4
  rw [cells3] at g5
  obtain ⟨y5, z5, o5⟩ := cn_int g5 Tryz.underlying3
  have o5 := okI_of o5
  simp only [List.drop_succ_cons, List.drop_zero, List.take_succ_cons, List.take_zero, List.cons.injEq, and_true] at z5
  obtain rfl := z5
  rw [cells9] at g6
  obtain ⟨y6, z6, o6⟩ := cn_str g6 Tryz.underlying9
  simp only [List.drop_succ_cons, List.drop_zero, List.take_succ_cons, List.take_zero, List.cons.injEq, and_true] at z6
  obtain rfl := z6
  exact ⟨⟨y0, y1, y2, y3, y4, y5, y6⟩, ⟨o0, o1, o2, o3, o4, o5, o6, trivial⟩, rfl⟩
theorem Module_open {n : Nat} {us : List V} (h : Cn Tryz.prog fl n 204 us) : ∃ a : TModule, a.ok ∧ us = [.str a.xTo.xHost, .str a.xTo.xPath, .bool a.xDone, .int .i64 a.xCode, .str a.xBody] := by
  obtain ⟨m, hl, hf⟩ := cn_struct h Tryz.underlying204
  rw [cells204] at hl
  obtain ⟨u0, l0, rfl, hl0⟩ := list_next hl
  obtain ⟨u1, l1, rfl, hl1⟩ := list_next hl0
  obtain ⟨u2, l2, rfl, hl2⟩ := list_next hl1
  obtain ⟨u3, l3, rfl, hl3⟩ := list_next hl2
  obtain ⟨u4, l4, rfl, hl4⟩ := list_next hl3
  obtain rfl := List.length_eq_zero_iff.1 hl4
  obtain ⟨g0, g1, g2, g3, _⟩ := hf
  rw [cells23] at g0
  obtain ⟨y0, o0, z0⟩ := Addr_open g0
  simp only [List.drop_succ_cons, List.drop_zero, List.take_succ_cons, List.take_zero, List.cons.injEq, and_true] at z0
  obtain ⟨rfl, rfl⟩ := z0
  rw [cells4] at g1
  obtain ⟨y1, z1⟩ := cn_bool g1 Tryz.underlying4
  have o1 : True := trivial
  simp only [List.drop_succ_cons, List.drop_zero, List.take_succ_cons, List.take_zero, List.cons.injEq, and_true] at z1
  obtain rfl := z1
  rw [cells3] at g2
  obtain ⟨y2, z2, o2⟩ := cn_int g2 Tryz.underlying3
  have o2 := okI_of o2
  simp only [List.drop_succ_cons, List.drop_zero, List.take_succ_cons, List.take_zero, List.cons.injEq, and_true] at z2
  obtain rfl := z2
  rw [cells9] at g3
  obtain ⟨y3, z3, o3⟩ := cn_str g3 Tryz.underlying9
  simp only [List.drop_succ_cons, List.drop_zero, List.take_succ_cons, List.take_zero, List.cons.injEq, and_true] at z3
  obtain rfl := z3
  exact ⟨⟨y0, y1, y2, y3⟩, ⟨o0, o1, o2, o3, trivial⟩, rfl⟩
theorem Page_open {n : Nat} {us : List V} (h : Cn Tryz.prog fl n 38 us) : ∃ a : TPage, a.ok ∧ us = [.str a.xAddr.xHost, .str a.xAddr.xPath, .bool a.xPolicy.xSet, .sl 1 true (rStr a.xPolicy.xScripts), .sl 1 true (rStr a.xPolicy.xStyles), .sl 1 true (rStr a.xPolicy.xImages), .str a.xPolicy.xNonce, .str a.xTok.xRest, .sl 4 false (rows kToken TToken.row a.xQueue), .bool a.xEnded, .sl 4 false (rows kNode TNode.row a.xBuilder.xNodes), .sl 1 true (rInt a.xBuilder.xOpen), .sl 8 true (rows kSlot TSlot.row a.xSlots), .sl 5 true (rows kModule TModule.row a.xMods), .sl 2 true (rows kAddr TAddr.row a.xEntries), .int .i64 a.xBlock, .int .i64 a.xInline, .int .i64 a.xDeferred, .int .i64 a.xEntered, .sl 2 true (rows kAddr TAddr.row a.xRan), .sl 1 true (rStr a.xLog), .bool a.xLoaded] := by
  obtain ⟨m, hl, hf⟩ := cn_struct h Tryz.underlying38
  rw [cells38] at hl
  obtain ⟨u0, l0, rfl, hl0⟩ := list_next hl
  obtain ⟨u1, l1, rfl, hl1⟩ := list_next hl0
  obtain ⟨u2, l2, rfl, hl2⟩ := list_next hl1
  obtain ⟨u3, l3, rfl, hl3⟩ := list_next hl2
  obtain ⟨u4, l4, rfl, hl4⟩ := list_next hl3
  obtain ⟨u5, l5, rfl, hl5⟩ := list_next hl4
  obtain ⟨u6, l6, rfl, hl6⟩ := list_next hl5
  obtain ⟨u7, l7, rfl, hl7⟩ := list_next hl6
  obtain ⟨u8, l8, rfl, hl8⟩ := list_next hl7
  obtain ⟨u9, l9, rfl, hl9⟩ := list_next hl8
  obtain ⟨u10, l10, rfl, hl10⟩ := list_next hl9
  obtain ⟨u11, l11, rfl, hl11⟩ := list_next hl10
  obtain ⟨u12, l12, rfl, hl12⟩ := list_next hl11
  obtain ⟨u13, l13, rfl, hl13⟩ := list_next hl12
  obtain ⟨u14, l14, rfl, hl14⟩ := list_next hl13
  obtain ⟨u15, l15, rfl, hl15⟩ := list_next hl14
  obtain ⟨u16, l16, rfl, hl16⟩ := list_next hl15
  obtain ⟨u17, l17, rfl, hl17⟩ := list_next hl16
  obtain ⟨u18, l18, rfl, hl18⟩ := list_next hl17
  obtain ⟨u19, l19, rfl, hl19⟩ := list_next hl18
  obtain ⟨u20, l20, rfl, hl20⟩ := list_next hl19
  obtain ⟨u21, l21, rfl, hl21⟩ := list_next hl20
  obtain rfl := List.length_eq_zero_iff.1 hl21
  obtain ⟨g0, g1, g2, g3, g4, g5, g6, g7, g8, g9, g10, g11, g12, g13, g14, g15, _⟩ := hf
  rw [cells23] at g0
  obtain ⟨y0, o0, z0⟩ := Addr_open g0
  simp only [List.drop_succ_cons, List.drop_zero, List.take_succ_cons, List.take_zero, List.cons.injEq, and_true] at z0
  obtain ⟨rfl, rfl⟩ := z0
  rw [cells26] at g1
  obtain ⟨y1, o1, z1⟩ := Policy_open g1
  simp only [List.drop_succ_cons, List.drop_zero, List.take_succ_cons, List.take_zero, List.cons.injEq, and_true] at z1
  obtain ⟨rfl, rfl, rfl, rfl, rfl⟩ := z1
  rw [cells28] at g2
  obtain ⟨y2, o2, z2⟩ := Tokenizer_open g2
  simp only [List.drop_succ_cons, List.drop_zero, List.take_succ_cons, List.take_zero, List.cons.injEq, and_true] at z2
  obtain rfl := z2
  rw [cells29] at g3
  obtain ⟨_, r3, z3, b3, w3⟩ := cn_rows g3 Tryz.underlying29 Tryz.underlying196
  obtain ⟨y3, rfl, v3⟩ := rows_of (ks := kToken) (g := TToken.row) (ok := TToken.ok) (fun r hr => by
    obtain ⟨us, h1, h2⟩ := w3 r hr
    obtain ⟨e, h3, h4⟩ := Token_open h1
    exact ⟨e, h3, by rw [h2, h4]; rfl⟩)
  have o3 : okL TToken.ok y3 := ⟨by rw [rows_len] at b3; exact b3, v3⟩
  rw [cells196, show fl 196 = false from rfl] at z3
  simp only [List.drop_succ_cons, List.drop_zero, List.take_succ_cons, List.take_zero, List.cons.injEq, and_true] at z3
  obtain rfl := z3
  rw [cells4] at g4
  obtain ⟨y4, z4⟩ := cn_bool g4 Tryz.underlying4
  have o4 : True := trivial
  simp only [List.drop_succ_cons, List.drop_zero, List.take_succ_cons, List.take_zero, List.cons.injEq, and_true] at z4
  obtain rfl := z4
  rw [cells33] at g5
  obtain ⟨y5, o5, z5⟩ := Builder_open g5
  simp only [List.drop_succ_cons, List.drop_zero, List.take_succ_cons, List.take_zero, List.cons.injEq, and_true] at z5
  obtain ⟨rfl, rfl⟩ := z5
  rw [cells34] at g6
  obtain ⟨_, r6, z6, b6, w6⟩ := cn_rows g6 Tryz.underlying34 Tryz.underlying201
  obtain ⟨y6, rfl, v6⟩ := rows_of (ks := kSlot) (g := TSlot.row) (ok := TSlot.ok) (fun r hr => by
    obtain ⟨us, h1, h2⟩ := w6 r hr
    obtain ⟨e, h3, h4⟩ := Slot_open h1
    exact ⟨e, h3, by rw [h2, h4]; rfl⟩)
  have o6 : okL TSlot.ok y6 := ⟨by rw [rows_len] at b6; exact b6, v6⟩
  rw [cells201, show fl 201 = true from rfl] at z6
  simp only [List.drop_succ_cons, List.drop_zero, List.take_succ_cons, List.take_zero, List.cons.injEq, and_true] at z6
  obtain rfl := z6
  rw [cells35] at g7
  obtain ⟨_, r7, z7, b7, w7⟩ := cn_rows g7 Tryz.underlying35 Tryz.underlying204
  obtain ⟨y7, rfl, v7⟩ := rows_of (ks := kModule) (g := TModule.row) (ok := TModule.ok) (fun r hr => by
    obtain ⟨us, h1, h2⟩ := w7 r hr
    obtain ⟨e, h3, h4⟩ := Module_open h1
    exact ⟨e, h3, by rw [h2, h4]; rfl⟩)
  have o7 : okL TModule.ok y7 := ⟨by rw [rows_len] at b7; exact b7, v7⟩
  rw [cells204, show fl 204 = true from rfl] at z7
  simp only [List.drop_succ_cons, List.drop_zero, List.take_succ_cons, List.take_zero, List.cons.injEq, and_true] at z7
  obtain rfl := z7
  rw [cells36] at g8
  obtain ⟨_, r8, z8, b8, w8⟩ := cn_rows g8 Tryz.underlying36 Tryz.underlying23
  obtain ⟨y8, rfl, v8⟩ := rows_of (ks := kAddr) (g := TAddr.row) (ok := TAddr.ok) (fun r hr => by
    obtain ⟨us, h1, h2⟩ := w8 r hr
    obtain ⟨e, h3, h4⟩ := Addr_open h1
    exact ⟨e, h3, by rw [h2, h4]; rfl⟩)
  have o8 : okL TAddr.ok y8 := ⟨by rw [rows_len] at b8; exact b8, v8⟩
  rw [cells23, show fl 23 = true from rfl] at z8
  simp only [List.drop_succ_cons, List.drop_zero, List.take_succ_cons, List.take_zero, List.cons.injEq, and_true] at z8
  obtain rfl := z8
  rw [cells3] at g9
  obtain ⟨y9, z9, o9⟩ := cn_int g9 Tryz.underlying3
  have o9 := okI_of o9
  simp only [List.drop_succ_cons, List.drop_zero, List.take_succ_cons, List.take_zero, List.cons.injEq, and_true] at z9
  obtain rfl := z9
  rw [cells3] at g10
  obtain ⟨y10, z10, o10⟩ := cn_int g10 Tryz.underlying3
  have o10 := okI_of o10
  simp only [List.drop_succ_cons, List.drop_zero, List.take_succ_cons, List.take_zero, List.cons.injEq, and_true] at z10
  obtain rfl := z10
  rw [cells3] at g11
  obtain ⟨y11, z11, o11⟩ := cn_int g11 Tryz.underlying3
  have o11 := okI_of o11
  simp only [List.drop_succ_cons, List.drop_zero, List.take_succ_cons, List.take_zero, List.cons.injEq, and_true] at z11
  obtain rfl := z11
  rw [cells3] at g12
  obtain ⟨y12, z12, o12⟩ := cn_int g12 Tryz.underlying3
  have o12 := okI_of o12
  simp only [List.drop_succ_cons, List.drop_zero, List.take_succ_cons, List.take_zero, List.cons.injEq, and_true] at z12
  obtain rfl := z12
  rw [cells36] at g13
  obtain ⟨_, r13, z13, b13, w13⟩ := cn_rows g13 Tryz.underlying36 Tryz.underlying23
  obtain ⟨y13, rfl, v13⟩ := rows_of (ks := kAddr) (g := TAddr.row) (ok := TAddr.ok) (fun r hr => by
    obtain ⟨us, h1, h2⟩ := w13 r hr
    obtain ⟨e, h3, h4⟩ := Addr_open h1
    exact ⟨e, h3, by rw [h2, h4]; rfl⟩)
  have o13 : okL TAddr.ok y13 := ⟨by rw [rows_len] at b13; exact b13, v13⟩
  rw [cells23, show fl 23 = true from rfl] at z13
  simp only [List.drop_succ_cons, List.drop_zero, List.take_succ_cons, List.take_zero, List.cons.injEq, and_true] at z13
  obtain rfl := z13
  rw [cells24] at g14
  obtain ⟨_, r14, z14, b14, w14⟩ := cn_rows1 g14 Tryz.underlying24 (by rw [Tryz.underlying9]; intro fs hfs; cases hfs)
  obtain ⟨y14, rfl, v14⟩ := rows1_of (kd := .str) (g := fun e => e) (ok := okS) (fun r hr => by
    obtain ⟨us, h1, h2⟩ := w14 r hr
    obtain ⟨e, h3, h4⟩ := cn_str h1 Tryz.underlying9
    exact ⟨e, h4, by rw [h2, h3]; rfl⟩)
  have o14 : okL okS y14 := ⟨by rw [rows1_len] at b14; exact b14, v14⟩
  rw [cells9, show fl 9 = true from rfl] at z14
  simp only [List.drop_succ_cons, List.drop_zero, List.take_succ_cons, List.take_zero, List.cons.injEq, and_true] at z14
  obtain rfl := z14
  rw [cells4] at g15
  obtain ⟨y15, z15⟩ := cn_bool g15 Tryz.underlying4
  have o15 : True := trivial
  simp only [List.drop_succ_cons, List.drop_zero, List.take_succ_cons, List.take_zero, List.cons.injEq, and_true] at z15
  obtain rfl := z15
  exact ⟨⟨y0, y1, y2, y3, y4, y5, y6, y7, y8, y9, y10, y11, y12, y13, y14, y15⟩, ⟨o0, o1, o2, o3, o4, o5, o6, o7, o8, o9, o10, o11, o12, o13, o14, o15, trivial⟩, rfl⟩
theorem Visit_open {n : Nat} {us : List V} (h : Cn Tryz.prog fl n 224 us) : ∃ a : TVisit, a.ok ∧ us = [.str a.xAddr.xHost, .str a.xAddr.xPath, .str a.xPage.xAddr.xHost, .str a.xPage.xAddr.xPath, .bool a.xPage.xPolicy.xSet, .sl 1 true (rStr a.xPage.xPolicy.xScripts), .sl 1 true (rStr a.xPage.xPolicy.xStyles), .sl 1 true (rStr a.xPage.xPolicy.xImages), .str a.xPage.xPolicy.xNonce, .str a.xPage.xTok.xRest, .sl 4 false (rows kToken TToken.row a.xPage.xQueue), .bool a.xPage.xEnded, .sl 4 false (rows kNode TNode.row a.xPage.xBuilder.xNodes), .sl 1 true (rInt a.xPage.xBuilder.xOpen), .sl 8 true (rows kSlot TSlot.row a.xPage.xSlots), .sl 5 true (rows kModule TModule.row a.xPage.xMods), .sl 2 true (rows kAddr TAddr.row a.xPage.xEntries), .int .i64 a.xPage.xBlock, .int .i64 a.xPage.xInline, .int .i64 a.xPage.xDeferred, .int .i64 a.xPage.xEntered, .sl 2 true (rows kAddr TAddr.row a.xPage.xRan), .sl 1 true (rStr a.xPage.xLog), .bool a.xPage.xLoaded, .bool a.xKept] := by
  obtain ⟨m, hl, hf⟩ := cn_struct h Tryz.underlying224
  rw [cells224] at hl
  obtain ⟨u0, l0, rfl, hl0⟩ := list_next hl
  obtain ⟨u1, l1, rfl, hl1⟩ := list_next hl0
  obtain ⟨u2, l2, rfl, hl2⟩ := list_next hl1
  obtain ⟨u3, l3, rfl, hl3⟩ := list_next hl2
  obtain ⟨u4, l4, rfl, hl4⟩ := list_next hl3
  obtain ⟨u5, l5, rfl, hl5⟩ := list_next hl4
  obtain ⟨u6, l6, rfl, hl6⟩ := list_next hl5
  obtain ⟨u7, l7, rfl, hl7⟩ := list_next hl6
  obtain ⟨u8, l8, rfl, hl8⟩ := list_next hl7
  obtain ⟨u9, l9, rfl, hl9⟩ := list_next hl8
  obtain ⟨u10, l10, rfl, hl10⟩ := list_next hl9
  obtain ⟨u11, l11, rfl, hl11⟩ := list_next hl10
  obtain ⟨u12, l12, rfl, hl12⟩ := list_next hl11
  obtain ⟨u13, l13, rfl, hl13⟩ := list_next hl12
  obtain ⟨u14, l14, rfl, hl14⟩ := list_next hl13
  obtain ⟨u15, l15, rfl, hl15⟩ := list_next hl14
  obtain ⟨u16, l16, rfl, hl16⟩ := list_next hl15
  obtain ⟨u17, l17, rfl, hl17⟩ := list_next hl16
  obtain ⟨u18, l18, rfl, hl18⟩ := list_next hl17
  obtain ⟨u19, l19, rfl, hl19⟩ := list_next hl18
  obtain ⟨u20, l20, rfl, hl20⟩ := list_next hl19
  obtain ⟨u21, l21, rfl, hl21⟩ := list_next hl20
  obtain ⟨u22, l22, rfl, hl22⟩ := list_next hl21
  obtain ⟨u23, l23, rfl, hl23⟩ := list_next hl22
  obtain ⟨u24, l24, rfl, hl24⟩ := list_next hl23
  obtain rfl := List.length_eq_zero_iff.1 hl24
  obtain ⟨g0, g1, g2, _⟩ := hf
  rw [cells23] at g0
  obtain ⟨y0, o0, z0⟩ := Addr_open g0
  simp only [List.drop_succ_cons, List.drop_zero, List.take_succ_cons, List.take_zero, List.cons.injEq, and_true] at z0
  obtain ⟨rfl, rfl⟩ := z0
  rw [cells38] at g1
  obtain ⟨y1, o1, z1⟩ := Page_open g1
  simp only [List.drop_succ_cons, List.drop_zero, List.take_succ_cons, List.take_zero, List.cons.injEq, and_true] at z1
  obtain ⟨rfl, rfl, rfl, rfl, rfl, rfl, rfl, rfl, rfl, rfl, rfl, rfl, rfl, rfl, rfl, rfl, rfl, rfl, rfl, rfl, rfl, rfl⟩ := z1
  rw [cells4] at g2
  obtain ⟨y2, z2⟩ := cn_bool g2 Tryz.underlying4
  have o2 : True := trivial
  simp only [List.drop_succ_cons, List.drop_zero, List.take_succ_cons, List.take_zero, List.cons.injEq, and_true] at z2
  obtain rfl := z2
  exact ⟨⟨y0, y1, y2⟩, ⟨o0, o1, o2, trivial⟩, rfl⟩
theorem Tab_open {n : Nat} {us : List V} (h : Cn Tryz.prog fl n 87 us) : ∃ a : TTab, a.ok ∧ us = [.sl 25 false (rows kVisit TVisit.row a.xVisits), .int .i64 a.xAt] := by
  obtain ⟨m, hl, hf⟩ := cn_struct h Tryz.underlying87
  rw [cells87] at hl
  obtain ⟨u0, l0, rfl, hl0⟩ := list_next hl
  obtain ⟨u1, l1, rfl, hl1⟩ := list_next hl0
  obtain rfl := List.length_eq_zero_iff.1 hl1
  obtain ⟨g0, g1, _⟩ := hf
  rw [cells85] at g0
  obtain ⟨_, r0, z0, b0, w0⟩ := cn_rows g0 Tryz.underlying85 Tryz.underlying224
  obtain ⟨y0, rfl, v0⟩ := rows_of (ks := kVisit) (g := TVisit.row) (ok := TVisit.ok) (fun r hr => by
    obtain ⟨us, h1, h2⟩ := w0 r hr
    obtain ⟨e, h3, h4⟩ := Visit_open h1
    exact ⟨e, h3, by rw [h2, h4]; rfl⟩)
  have o0 : okL TVisit.ok y0 := ⟨by rw [rows_len] at b0; exact b0, v0⟩
  rw [cells224, show fl 224 = false from rfl] at z0
  simp only [List.drop_succ_cons, List.drop_zero, List.take_succ_cons, List.take_zero, List.cons.injEq, and_true] at z0
  obtain rfl := z0
  rw [cells3] at g1
  obtain ⟨y1, z1, o1⟩ := cn_int g1 Tryz.underlying3
  have o1 := okI_of o1
  simp only [List.drop_succ_cons, List.drop_zero, List.take_succ_cons, List.take_zero, List.cons.injEq, and_true] at z1
  obtain rfl := z1
  exact ⟨⟨y0, y1⟩, ⟨o0, o1, trivial⟩, rfl⟩
theorem answers : Answers Tryz.prog D := sound_den agree (fun den hD => drawOk agree (by kernel_rfl) hD) extAns
end Go.Am

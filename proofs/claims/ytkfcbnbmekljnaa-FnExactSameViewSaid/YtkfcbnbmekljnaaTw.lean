/-
  The data of the laws: structures, their rows, their sizes; and what laws.sz.., laws.to.., laws.eq.. compute on them. Written by program (typed.py).
-/
import Derived.Test.YtkfcbnbmekljnaaExt
import Derived.Test.YtkfcbnbmekljnaaFw
import Derived.Test.YtkfcbnbmekljnaaAmTyped
import Derived.Test.YtkfcbnbmekljnaaTy
import Derived.Test.YtkfcbnbmekljnaaAmData
namespace Go.Am
open Go Go.Proofs
set_option linter.unusedVariables false
set_option linter.unusedSimpArgs false
variable {β : Type}

/-! ### Response -/
def TResponse.nul : TResponse := ⟨0, 0, [], 0, false, []⟩
def TResponse.size (a : TResponse) : Nat := a.xBody.length + (a.xPolicy.length + (0))
def TResponse.ok (a : TResponse) : Prop := okI a.xStatus ∧ okI a.xKind ∧ okS a.xBody ∧ okI a.xAge ∧ True ∧ okS a.xPolicy ∧ True
theorem szResponse (a : TResponse) (l : Int) (h0 : 0 ≤ l) (h1 : l ≤ 1048576) (h : a.ok) (k : Int → Option β) : F76 β a.xStatus a.xKind a.xBody a.xAge a.xShares a.xPolicy l k = k (szL l a.size) := by
  obtain ⟨q0, q1, q2, q3, q4, q5, _⟩ := h
  unfold TResponse.size
  simp only [F76, P76]
  refine szCut h0 h1 q2 (fun m2 e2 h0 h1 => ?_)
  rw [e2]
  refine szCut h0 h1 q5 (fun m5 e5 h0 h1 => ?_)
  rw [e5]
  exact szEnd h0
theorem toResponse (a : TResponse) (h : a.size ≤ 1048576) (k : Int → Int → List UInt8 → Int → Bool → List UInt8 → Option β) : F78 β a.xStatus a.xKind a.xBody a.xAge a.xShares a.xPolicy k = k a.xStatus a.xKind a.xBody a.xAge a.xShares a.xPolicy := by
  unfold TResponse.size at h
  simp only [F78, P78]
theorem eqResponse_iff (a b : TResponse) : ((a.xStatus == b.xStatus) && ((a.xKind == b.xKind) && ((a.xBody == b.xBody) && ((a.xAge == b.xAge) && ((a.xShares == b.xShares) && ((a.xPolicy == b.xPolicy) && (true))))))) = decide (a = b) := by
  cases a; cases b
  rw [Bool.eq_iff_iff]
  simp only [TResponse.mk.injEq, Bool.and_true, Bool.and_eq_true, beq_iff_eq, decide_eq_true_eq]
theorem eqResponse (a b : TResponse) (h : a.ok) (k : Bool → Option β) : F92 β a.xStatus a.xKind a.xBody a.xAge a.xShares a.xPolicy b.xStatus b.xKind b.xBody b.xAge b.xShares b.xPolicy k = k (decide (a = b)) := by
  obtain ⟨q0, q1, q2, q3, q4, q5, _⟩ := h
  simp only [F92, P92]
  refine Eq.trans (b := k ((a.xStatus == b.xStatus) && ((a.xKind == b.xKind) && ((a.xBody == b.xBody) && ((a.xAge == b.xAge) && ((a.xShares == b.xShares) && ((a.xPolicy == b.xPolicy) && (true)))))))) ?_ (congrArg k (eqResponse_iff a b))
  refine eqCut ?_
  refine eqCut ?_
  refine eqCut ?_
  refine eqCut ?_
  refine eqCut ?_
  refine eqCut ?_
  rfl

/-! ### File -/
def TFile.nul : TFile := ⟨[], TResponse.nul⟩
def TFile.size (a : TFile) : Nat := a.xPath.length + (TResponse.size a.xResponse + (0))
def TFile.ok (a : TFile) : Prop := okS a.xPath ∧ TResponse.ok a.xResponse ∧ True
theorem szFile (a : TFile) (l : Int) (h0 : 0 ≤ l) (h1 : l ≤ 1048576) (h : a.ok) (k : Int → Option β) : F75 β a.xPath a.xResponse.xStatus a.xResponse.xKind a.xResponse.xBody a.xResponse.xAge a.xResponse.xShares a.xResponse.xPolicy l k = k (szL l a.size) := by
  obtain ⟨q0, q1, _⟩ := h
  unfold TFile.size
  simp only [F75, P75]
  refine szCut h0 h1 q0 (fun m0 e0 h0 h1 => ?_)
  rw [e0]
  refine (szResponse a.xResponse _ h0 h1 q1 _).trans (szSub h0 h1 (fun m1 e1 h0 h1 => ?_))
  rw [e1]
  exact szEnd h0
theorem toFile (a : TFile) (h : a.size ≤ 1048576) (k : List UInt8 → Int → Int → List UInt8 → Int → Bool → List UInt8 → Option β) : F77 β a.xPath a.xResponse.xStatus a.xResponse.xKind a.xResponse.xBody a.xResponse.xAge a.xResponse.xShares a.xResponse.xPolicy k = k a.xPath a.xResponse.xStatus a.xResponse.xKind a.xResponse.xBody a.xResponse.xAge a.xResponse.xShares a.xResponse.xPolicy := by
  unfold TFile.size at h
  simp only [F77, P77]
  exact (toResponse a.xResponse (by omega) _).trans (rfl)
theorem eqFile_iff (a b : TFile) : ((a.xPath == b.xPath) && (decide (a.xResponse = b.xResponse) && (true))) = decide (a = b) := by
  cases a; cases b
  rw [Bool.eq_iff_iff]
  simp only [TFile.mk.injEq, Bool.and_true, Bool.and_eq_true, beq_iff_eq, decide_eq_true_eq]
theorem eqFile (a b : TFile) (h : a.ok) (k : Bool → Option β) : F91 β a.xPath a.xResponse.xStatus a.xResponse.xKind a.xResponse.xBody a.xResponse.xAge a.xResponse.xShares a.xResponse.xPolicy b.xPath b.xResponse.xStatus b.xResponse.xKind b.xResponse.xBody b.xResponse.xAge b.xResponse.xShares b.xResponse.xPolicy k = k (decide (a = b)) := by
  obtain ⟨q0, q1, _⟩ := h
  simp only [F91, P91]
  refine Eq.trans (b := k ((a.xPath == b.xPath) && (decide (a.xResponse = b.xResponse) && (true)))) ?_ (congrArg k (eqFile_iff a b))
  refine eqCut ?_
  refine (eqResponse a.xResponse b.xResponse q1 _).trans (eqCut ?_)
  rfl
theorem szFileS (a : List TFile) (l : Int) (h0 : 0 ≤ l) (h1 : l ≤ 1048576) (h : okL TFile.ok a) (k : Int → Option β) : F58 β (rows kFile TFile.row a) l k = k (szL l (a.length + sumL TFile.size a)) := by
  simp only [F58, P58, rows_len]
  refine szCut h0 h1 h.1 (fun m e h0 h1 => ?_)
  rw [e]
  refine while_sz (fun (i : Nat) (m : Int) => ([.l (rows kFile TFile.row a), .i m, .i (i : Int)] : List Leaf)) a TFile.size (fun m => (1, [.i m])) (fun i y m hi hm0 hm1 => ?_) (fun m => brN rirr rfl) (fun m => rfl) h0 h1 rfl
  have hlt : i < a.length := (List.getElem?_eq_some_iff.1 hi).1
  have hb := h.1
  unfold maxLen at hb
  rcases @szCase m y.size with ⟨c, e⟩ | ⟨c, e⟩
  · exact .inl ⟨_, c, brE (rlt hlt) (chkE (Int.natCast_nonneg _) (idxE (i := i) hi ((szFile y m hm0 hm1 (h.2 y (List.mem_of_getElem? hi)) _).trans (brE (by rw [e]; decide) rfl)))), rfl⟩
  · exact .inr ⟨c, brE (rlt hlt) (chkE (Int.natCast_nonneg _) (idxE (i := i) hi ((szFile y m hm0 hm1 (h.2 y (List.mem_of_getElem? hi)) _).trans (brN (by rw [e]; omega) (two (fun m j : Int => (some (Sum.inl ([.l (rows kFile TFile.row a), .i m, .i j] : List Leaf)) : Option (List Leaf ⊕ (Nat × List Leaf)))) e (wrapS (i := i) (by omega)))))))⟩
theorem toFileS (a : List TFile) (h : a.length + sumL TFile.size a ≤ 1048576) (k : List V → Option β) : F61 β (rows kFile TFile.row a) k = k (rows kFile TFile.row a) := by
  simp only [F61, P61, rows_len, whileK, Int.toNat_natCast]
  refine chkE ⟨by omega, by omega, by omega, by omega⟩ ?_
  rw [while_each (fun i : Nat => ([.l (rows kFile TFile.row a), .l (rows kFile TFile.row (copyS a TFile.nul i)), .i (i : Int)] : List Leaf)) a (0, [.l (rows kFile TFile.row a)]) ?h1 ?h2 _ ?hs]
  case hs => rw [← rows_copy0 rfl]; rfl
  case h1 =>
    intro i y hi
    have hlt : i < a.length := (List.getElem?_eq_some_iff.1 hi).1
    have hl := copyS_len (a := a) (n := TFile.nul) (i := i) (by omega)
    have hm := sumL_mem (f := TFile.size) (List.mem_of_getElem? hi)
    refine brE (rlt hlt) (chkE (Int.natCast_nonneg _) (idxE (i := i) hi ((toFile y (by omega) _).trans (chkE ⟨Int.natCast_nonneg _, ?_⟩ (storeE (g := TFile.row) (y := y) (i := i) rfl (Nat.lt_of_lt_of_eq hlt hl.symm) ?_)))))
    · show (Int.toNat (i : Int)) < (rows kFile TFile.row (copyS a TFile.nul i)).length
      rw [rows_len]; exact Nat.lt_of_lt_of_eq hlt hl.symm
    · exact two (fun (c : List TFile) (j : Int) => (some (Sum.inl ([.l (rows kFile TFile.row a), .l (rows kFile TFile.row c), .i j] : List Leaf)) : Option (List Leaf ⊕ (Nat × List Leaf)))) (copyS_set hi) (wrapS (i := i) (by omega))
  case h2 =>
    rw [copyS_end]
    exact brN rirr rfl
  · rfl
theorem eqFileS (a b : List TFile) (h : okL TFile.ok a) (k : Bool → Option β) : F67 β (rows kFile TFile.row a) (rows kFile TFile.row b) k = k (decide (a = b)) := by
  simp only [F67, P67]
  refine eqLen (rows_len ..) (rows_len ..) (fun hl => ?_)
  refine while_eq (fun i : Nat => ([.l (rows kFile TFile.row a), .l (rows kFile TFile.row b), .i (i : Int)] : List Leaf)) a b hl (fun i x y hi hx hy => ?_) (brN rirr rfl) rfl rfl rfl
  have hb := h.1
  unfold maxLen at hb
  exact brE (rlt hi) (chkE (Int.natCast_nonneg _) (idxE (i := i) hx (chkE (Int.natCast_nonneg _) (idxE (i := i) hy ((eqFile x y (h.2 x (List.mem_of_getElem? hx)) _).trans (brB rfl rfl (congrArg (fun j : Int => (some (Sum.inl ([.l (rows kFile TFile.row a), .l (rows kFile TFile.row b), .i j] : List Leaf)) : Option (List Leaf ⊕ (Nat × List Leaf)))) (wrapS (i := i) (by omega)))))))))

/-! ### Server -/
def TServer.nul : TServer := ⟨[], []⟩
def TServer.size (a : TServer) : Nat := a.xHost.length + ((a.xFiles.length + sumL TFile.size a.xFiles) + (0))
def TServer.ok (a : TServer) : Prop := okS a.xHost ∧ okL TFile.ok a.xFiles ∧ True
theorem szServer (a : TServer) (l : Int) (h0 : 0 ≤ l) (h1 : l ≤ 1048576) (h : a.ok) (k : Int → Option β) : F40 β a.xHost (rows kFile TFile.row a.xFiles) l k = k (szL l a.size) := by
  obtain ⟨q0, q1, _⟩ := h
  unfold TServer.size
  simp only [F40, P40]
  refine szCut h0 h1 q0 (fun m0 e0 h0 h1 => ?_)
  rw [e0]
  refine (szFileS a.xFiles _ h0 h1 q1 _).trans (szSub h0 h1 (fun m1 e1 h0 h1 => ?_))
  rw [e1]
  exact szEnd h0
theorem toServer (a : TServer) (h : a.size ≤ 1048576) (k : List UInt8 → List V → Option β) : F44 β a.xHost (rows kFile TFile.row a.xFiles) k = k a.xHost (rows kFile TFile.row a.xFiles) := by
  unfold TServer.size at h
  simp only [F44, P44]
  exact (toFileS a.xFiles (by omega) _).trans (rfl)
theorem eqServer_iff (a b : TServer) : ((a.xHost == b.xHost) && (decide (a.xFiles = b.xFiles) && (true))) = decide (a = b) := by
  cases a; cases b
  rw [Bool.eq_iff_iff]
  simp only [TServer.mk.injEq, Bool.and_true, Bool.and_eq_true, beq_iff_eq, decide_eq_true_eq]
theorem eqServer (a b : TServer) (h : a.ok) (k : Bool → Option β) : F50 β a.xHost (rows kFile TFile.row a.xFiles) b.xHost (rows kFile TFile.row b.xFiles) k = k (decide (a = b)) := by
  obtain ⟨q0, q1, _⟩ := h
  simp only [F50, P50]
  refine Eq.trans (b := k ((a.xHost == b.xHost) && (decide (a.xFiles = b.xFiles) && (true)))) ?_ (congrArg k (eqServer_iff a b))
  refine eqCut ?_
  refine (eqFileS a.xFiles b.xFiles q1 _).trans (eqCut ?_)
  rfl
theorem szServerS (a : List TServer) (l : Int) (h0 : 0 ≤ l) (h1 : l ≤ 1048576) (h : okL TServer.ok a) (k : Int → Option β) : F16 β (rows kServer TServer.row a) l k = k (szL l (a.length + sumL TServer.size a)) := by
  simp only [F16, P16, rows_len]
  refine szCut h0 h1 h.1 (fun m e h0 h1 => ?_)
  rw [e]
  refine while_sz (fun (i : Nat) (m : Int) => ([.l (rows kServer TServer.row a), .i m, .i (i : Int)] : List Leaf)) a TServer.size (fun m => (1, [.i m])) (fun i y m hi hm0 hm1 => ?_) (fun m => brN rirr rfl) (fun m => rfl) h0 h1 rfl
  have hlt : i < a.length := (List.getElem?_eq_some_iff.1 hi).1
  have hb := h.1
  unfold maxLen at hb
  rcases @szCase m y.size with ⟨c, e⟩ | ⟨c, e⟩
  · exact .inl ⟨_, c, brE (rlt hlt) (chkE (Int.natCast_nonneg _) (idxE (i := i) hi ((szServer y m hm0 hm1 (h.2 y (List.mem_of_getElem? hi)) _).trans (brE (by rw [e]; decide) rfl)))), rfl⟩
  · exact .inr ⟨c, brE (rlt hlt) (chkE (Int.natCast_nonneg _) (idxE (i := i) hi ((szServer y m hm0 hm1 (h.2 y (List.mem_of_getElem? hi)) _).trans (brN (by rw [e]; omega) (two (fun m j : Int => (some (Sum.inl ([.l (rows kServer TServer.row a), .i m, .i j] : List Leaf)) : Option (List Leaf ⊕ (Nat × List Leaf)))) e (wrapS (i := i) (by omega)))))))⟩
theorem toServerS (a : List TServer) (h : a.length + sumL TServer.size a ≤ 1048576) (k : List V → Option β) : F20 β (rows kServer TServer.row a) k = k (rows kServer TServer.row a) := by
  simp only [F20, P20, rows_len, whileK, Int.toNat_natCast]
  refine chkE ⟨by omega, by omega, by omega, by omega⟩ ?_
  rw [while_each (fun i : Nat => ([.l (rows kServer TServer.row a), .l (rows kServer TServer.row (copyS a TServer.nul i)), .i (i : Int)] : List Leaf)) a (0, [.l (rows kServer TServer.row a)]) ?h1 ?h2 _ ?hs]
  case hs => rw [← rows_copy0 rfl]; rfl
  case h1 =>
    intro i y hi
    have hlt : i < a.length := (List.getElem?_eq_some_iff.1 hi).1
    have hl := copyS_len (a := a) (n := TServer.nul) (i := i) (by omega)
    have hm := sumL_mem (f := TServer.size) (List.mem_of_getElem? hi)
    refine brE (rlt hlt) (chkE (Int.natCast_nonneg _) (idxE (i := i) hi ((toServer y (by omega) _).trans (chkE ⟨Int.natCast_nonneg _, ?_⟩ (storeE (g := TServer.row) (y := y) (i := i) rfl (Nat.lt_of_lt_of_eq hlt hl.symm) ?_)))))
    · show (Int.toNat (i : Int)) < (rows kServer TServer.row (copyS a TServer.nul i)).length
      rw [rows_len]; exact Nat.lt_of_lt_of_eq hlt hl.symm
    · exact two (fun (c : List TServer) (j : Int) => (some (Sum.inl ([.l (rows kServer TServer.row a), .l (rows kServer TServer.row c), .i j] : List Leaf)) : Option (List Leaf ⊕ (Nat × List Leaf)))) (copyS_set hi) (wrapS (i := i) (by omega))
  case h2 =>
    rw [copyS_end]
    exact brN rirr rfl
  · rfl
theorem eqServerS (a b : List TServer) (h : okL TServer.ok a) (k : Bool → Option β) : F26 β (rows kServer TServer.row a) (rows kServer TServer.row b) k = k (decide (a = b)) := by
  simp only [F26, P26]
  refine eqLen (rows_len ..) (rows_len ..) (fun hl => ?_)
  refine while_eq (fun i : Nat => ([.l (rows kServer TServer.row a), .l (rows kServer TServer.row b), .i (i : Int)] : List Leaf)) a b hl (fun i x y hi hx hy => ?_) (brN rirr rfl) rfl rfl rfl
  have hb := h.1
  unfold maxLen at hb
  exact brE (rlt hi) (chkE (Int.natCast_nonneg _) (idxE (i := i) hx (chkE (Int.natCast_nonneg _) (idxE (i := i) hy ((eqServer x y (h.2 x (List.mem_of_getElem? hx)) _).trans (brB rfl rfl (congrArg (fun j : Int => (some (Sum.inl ([.l (rows kServer TServer.row a), .l (rows kServer TServer.row b), .i j] : List Leaf)) : Option (List Leaf ⊕ (Nat × List Leaf)))) (wrapS (i := i) (by omega)))))))))

/-! ### Addr -/
def TAddr.nul : TAddr := ⟨[], []⟩
def TAddr.size (a : TAddr) : Nat := a.xHost.length + (a.xPath.length + (0))
def TAddr.ok (a : TAddr) : Prop := okS a.xHost ∧ okS a.xPath ∧ True
theorem szAddr (a : TAddr) (l : Int) (h0 : 0 ≤ l) (h1 : l ≤ 1048576) (h : a.ok) (k : Int → Option β) : F60 β a.xHost a.xPath l k = k (szL l a.size) := by
  obtain ⟨q0, q1, _⟩ := h
  unfold TAddr.size
  simp only [F60, P60]
  refine szCut h0 h1 q0 (fun m0 e0 h0 h1 => ?_)
  rw [e0]
  refine szCut h0 h1 q1 (fun m1 e1 h0 h1 => ?_)
  rw [e1]
  exact szEnd h0
theorem toAddr (a : TAddr) (h : a.size ≤ 1048576) (k : List UInt8 → List UInt8 → Option β) : F63 β a.xHost a.xPath k = k a.xHost a.xPath := by
  unfold TAddr.size at h
  simp only [F63, P63]
theorem eqAddr_iff (a b : TAddr) : ((a.xHost == b.xHost) && ((a.xPath == b.xPath) && (true))) = decide (a = b) := by
  cases a; cases b
  rw [Bool.eq_iff_iff]
  simp only [TAddr.mk.injEq, Bool.and_true, Bool.and_eq_true, beq_iff_eq, decide_eq_true_eq]
theorem eqAddr (a b : TAddr) (h : a.ok) (k : Bool → Option β) : F69 β a.xHost a.xPath b.xHost b.xPath k = k (decide (a = b)) := by
  obtain ⟨q0, q1, _⟩ := h
  simp only [F69, P69]
  refine Eq.trans (b := k ((a.xHost == b.xHost) && ((a.xPath == b.xPath) && (true)))) ?_ (congrArg k (eqAddr_iff a b))
  refine eqCut ?_
  refine eqCut ?_
  rfl

/-! ### Entry -/
def TEntry.nul : TEntry := ⟨[], TAddr.nul, TResponse.nul, 0⟩
def TEntry.size (a : TEntry) : Nat := a.xTop.length + (TAddr.size a.xTo + (TResponse.size a.xResponse + (0)))
def TEntry.ok (a : TEntry) : Prop := okS a.xTop ∧ TAddr.ok a.xTo ∧ TResponse.ok a.xResponse ∧ okI a.xUntil ∧ True
theorem szEntry (a : TEntry) (l : Int) (h0 : 0 ≤ l) (h1 : l ≤ 1048576) (h : a.ok) (k : Int → Option β) : F59 β a.xTop a.xTo.xHost a.xTo.xPath a.xResponse.xStatus a.xResponse.xKind a.xResponse.xBody a.xResponse.xAge a.xResponse.xShares a.xResponse.xPolicy a.xUntil l k = k (szL l a.size) := by
  obtain ⟨q0, q1, q2, q3, _⟩ := h
  unfold TEntry.size
  simp only [F59, P59]
  refine szCut h0 h1 q0 (fun m0 e0 h0 h1 => ?_)
  rw [e0]
  refine (szAddr a.xTo _ h0 h1 q1 _).trans (szSub h0 h1 (fun m1 e1 h0 h1 => ?_))
  rw [e1]
  refine (szResponse a.xResponse _ h0 h1 q2 _).trans (szSub h0 h1 (fun m2 e2 h0 h1 => ?_))
  rw [e2]
  exact szEnd h0
theorem toEntry (a : TEntry) (h : a.size ≤ 1048576) (k : List UInt8 → List UInt8 → List UInt8 → Int → Int → List UInt8 → Int → Bool → List UInt8 → Int → Option β) : F62 β a.xTop a.xTo.xHost a.xTo.xPath a.xResponse.xStatus a.xResponse.xKind a.xResponse.xBody a.xResponse.xAge a.xResponse.xShares a.xResponse.xPolicy a.xUntil k = k a.xTop a.xTo.xHost a.xTo.xPath a.xResponse.xStatus a.xResponse.xKind a.xResponse.xBody a.xResponse.xAge a.xResponse.xShares a.xResponse.xPolicy a.xUntil := by
  unfold TEntry.size at h
  simp only [F62, P62]
  exact (toAddr a.xTo (by omega) _).trans ((toResponse a.xResponse (by omega) _).trans (rfl))
theorem eqEntry_iff (a b : TEntry) : ((a.xTop == b.xTop) && (decide (a.xTo = b.xTo) && (decide (a.xResponse = b.xResponse) && ((a.xUntil == b.xUntil) && (true))))) = decide (a = b) := by
  cases a; cases b
  rw [Bool.eq_iff_iff]
  simp only [TEntry.mk.injEq, Bool.and_true, Bool.and_eq_true, beq_iff_eq, decide_eq_true_eq]
theorem eqEntry (a b : TEntry) (h : a.ok) (k : Bool → Option β) : F68 β a.xTop a.xTo.xHost a.xTo.xPath a.xResponse.xStatus a.xResponse.xKind a.xResponse.xBody a.xResponse.xAge a.xResponse.xShares a.xResponse.xPolicy a.xUntil b.xTop b.xTo.xHost b.xTo.xPath b.xResponse.xStatus b.xResponse.xKind b.xResponse.xBody b.xResponse.xAge b.xResponse.xShares b.xResponse.xPolicy b.xUntil k = k (decide (a = b)) := by
  obtain ⟨q0, q1, q2, q3, _⟩ := h
  simp only [F68, P68]
  refine Eq.trans (b := k ((a.xTop == b.xTop) && (decide (a.xTo = b.xTo) && (decide (a.xResponse = b.xResponse) && ((a.xUntil == b.xUntil) && (true)))))) ?_ (congrArg k (eqEntry_iff a b))
  refine eqCut ?_
  refine (eqAddr a.xTo b.xTo q1 _).trans (eqCut ?_)
  refine (eqResponse a.xResponse b.xResponse q2 _).trans (eqCut ?_)
  refine eqCut ?_
  rfl
theorem szEntryS (a : List TEntry) (l : Int) (h0 : 0 ≤ l) (h1 : l ≤ 1048576) (h : okL TEntry.ok a) (k : Int → Option β) : F41 β (rows kEntry TEntry.row a) l k = k (szL l (a.length + sumL TEntry.size a)) := by
  simp only [F41, P41, rows_len]
  refine szCut h0 h1 h.1 (fun m e h0 h1 => ?_)
  rw [e]
  refine while_sz (fun (i : Nat) (m : Int) => ([.l (rows kEntry TEntry.row a), .i m, .i (i : Int)] : List Leaf)) a TEntry.size (fun m => (1, [.i m])) (fun i y m hi hm0 hm1 => ?_) (fun m => brN rirr rfl) (fun m => rfl) h0 h1 rfl
  have hlt : i < a.length := (List.getElem?_eq_some_iff.1 hi).1
  have hb := h.1
  unfold maxLen at hb
  rcases @szCase m y.size with ⟨c, e⟩ | ⟨c, e⟩
  · exact .inl ⟨_, c, brE (rlt hlt) (chkE (Int.natCast_nonneg _) (idxE (i := i) hi ((szEntry y m hm0 hm1 (h.2 y (List.mem_of_getElem? hi)) _).trans (brE (by rw [e]; decide) rfl)))), rfl⟩
  · exact .inr ⟨c, brE (rlt hlt) (chkE (Int.natCast_nonneg _) (idxE (i := i) hi ((szEntry y m hm0 hm1 (h.2 y (List.mem_of_getElem? hi)) _).trans (brN (by rw [e]; omega) (two (fun m j : Int => (some (Sum.inl ([.l (rows kEntry TEntry.row a), .i m, .i j] : List Leaf)) : Option (List Leaf ⊕ (Nat × List Leaf)))) e (wrapS (i := i) (by omega)))))))⟩
theorem toEntryS (a : List TEntry) (h : a.length + sumL TEntry.size a ≤ 1048576) (k : List V → Option β) : F45 β (rows kEntry TEntry.row a) k = k (rows kEntry TEntry.row a) := by
  simp only [F45, P45, rows_len, whileK, Int.toNat_natCast]
  refine chkE ⟨by omega, by omega, by omega, by omega⟩ ?_
  rw [while_each (fun i : Nat => ([.l (rows kEntry TEntry.row a), .l (rows kEntry TEntry.row (copyS a TEntry.nul i)), .i (i : Int)] : List Leaf)) a (0, [.l (rows kEntry TEntry.row a)]) ?h1 ?h2 _ ?hs]
  case hs => rw [← rows_copy0 rfl]; rfl
  case h1 =>
    intro i y hi
    have hlt : i < a.length := (List.getElem?_eq_some_iff.1 hi).1
    have hl := copyS_len (a := a) (n := TEntry.nul) (i := i) (by omega)
    have hm := sumL_mem (f := TEntry.size) (List.mem_of_getElem? hi)
    refine brE (rlt hlt) (chkE (Int.natCast_nonneg _) (idxE (i := i) hi ((toEntry y (by omega) _).trans (chkE ⟨Int.natCast_nonneg _, ?_⟩ (storeE (g := TEntry.row) (y := y) (i := i) rfl (Nat.lt_of_lt_of_eq hlt hl.symm) ?_)))))
    · show (Int.toNat (i : Int)) < (rows kEntry TEntry.row (copyS a TEntry.nul i)).length
      rw [rows_len]; exact Nat.lt_of_lt_of_eq hlt hl.symm
    · exact two (fun (c : List TEntry) (j : Int) => (some (Sum.inl ([.l (rows kEntry TEntry.row a), .l (rows kEntry TEntry.row c), .i j] : List Leaf)) : Option (List Leaf ⊕ (Nat × List Leaf)))) (copyS_set hi) (wrapS (i := i) (by omega))
  case h2 =>
    rw [copyS_end]
    exact brN rirr rfl
  · rfl
theorem eqEntryS (a b : List TEntry) (h : okL TEntry.ok a) (k : Bool → Option β) : F51 β (rows kEntry TEntry.row a) (rows kEntry TEntry.row b) k = k (decide (a = b)) := by
  simp only [F51, P51]
  refine eqLen (rows_len ..) (rows_len ..) (fun hl => ?_)
  refine while_eq (fun i : Nat => ([.l (rows kEntry TEntry.row a), .l (rows kEntry TEntry.row b), .i (i : Int)] : List Leaf)) a b hl (fun i x y hi hx hy => ?_) (brN rirr rfl) rfl rfl rfl
  have hb := h.1
  unfold maxLen at hb
  exact brE (rlt hi) (chkE (Int.natCast_nonneg _) (idxE (i := i) hx (chkE (Int.natCast_nonneg _) (idxE (i := i) hy ((eqEntry x y (h.2 x (List.mem_of_getElem? hx)) _).trans (brB rfl rfl (congrArg (fun j : Int => (some (Sum.inl ([.l (rows kEntry TEntry.row a), .l (rows kEntry TEntry.row b), .i j] : List Leaf)) : Option (List Leaf ⊕ (Nat × List Leaf)))) (wrapS (i := i) (by omega)))))))))

/-! ### Cache -/
def TCache.nul : TCache := ⟨[]⟩
def TCache.size (a : TCache) : Nat := (a.xEntries.length + sumL TEntry.size a.xEntries) + (0)
def TCache.ok (a : TCache) : Prop := okL TEntry.ok a.xEntries ∧ True
theorem szCache (a : TCache) (l : Int) (h0 : 0 ≤ l) (h1 : l ≤ 1048576) (h : a.ok) (k : Int → Option β) : F17 β (rows kEntry TEntry.row a.xEntries) l k = k (szL l a.size) := by
  obtain ⟨q0, _⟩ := h
  unfold TCache.size
  simp only [F17, P17]
  refine (szEntryS a.xEntries _ h0 h1 q0 _).trans (szSub h0 h1 (fun m0 e0 h0 h1 => ?_))
  rw [e0]
  exact szEnd h0
theorem toCache (a : TCache) (h : a.size ≤ 1048576) (k : List V → Option β) : F21 β (rows kEntry TEntry.row a.xEntries) k = k (rows kEntry TEntry.row a.xEntries) := by
  unfold TCache.size at h
  simp only [F21, P21]
  exact (toEntryS a.xEntries (by omega) _).trans (rfl)
theorem eqCache_iff (a b : TCache) : (decide (a.xEntries = b.xEntries) && (true)) = decide (a = b) := by
  cases a; cases b
  rw [Bool.eq_iff_iff]
  simp only [TCache.mk.injEq, Bool.and_true, Bool.and_eq_true, beq_iff_eq, decide_eq_true_eq]
theorem eqCache (a b : TCache) (h : a.ok) (k : Bool → Option β) : F27 β (rows kEntry TEntry.row a.xEntries) (rows kEntry TEntry.row b.xEntries) k = k (decide (a = b)) := by
  obtain ⟨q0, _⟩ := h
  simp only [F27, P27]
  refine Eq.trans (b := k (decide (a.xEntries = b.xEntries) && (true))) ?_ (congrArg k (eqCache_iff a b))
  refine (eqEntryS a.xEntries b.xEntries q0 _).trans (eqCut ?_)
  rfl

/-! ### Sent -/
def TSent.nul : TSent := ⟨[], TAddr.nul, false⟩
def TSent.size (a : TSent) : Nat := a.xTop.length + (TAddr.size a.xTo + (0))
def TSent.ok (a : TSent) : Prop := okS a.xTop ∧ TAddr.ok a.xTo ∧ True ∧ True
theorem szSent (a : TSent) (l : Int) (h0 : 0 ≤ l) (h1 : l ≤ 1048576) (h : a.ok) (k : Int → Option β) : F42 β a.xTop a.xTo.xHost a.xTo.xPath a.xGuess l k = k (szL l a.size) := by
  obtain ⟨q0, q1, q2, _⟩ := h
  unfold TSent.size
  simp only [F42, P42]
  refine szCut h0 h1 q0 (fun m0 e0 h0 h1 => ?_)
  rw [e0]
  refine (szAddr a.xTo _ h0 h1 q1 _).trans (szSub h0 h1 (fun m1 e1 h0 h1 => ?_))
  rw [e1]
  exact szEnd h0
theorem toSent (a : TSent) (h : a.size ≤ 1048576) (k : List UInt8 → List UInt8 → List UInt8 → Bool → Option β) : F46 β a.xTop a.xTo.xHost a.xTo.xPath a.xGuess k = k a.xTop a.xTo.xHost a.xTo.xPath a.xGuess := by
  unfold TSent.size at h
  simp only [F46, P46]
  exact (toAddr a.xTo (by omega) _).trans (rfl)
theorem eqSent_iff (a b : TSent) : ((a.xTop == b.xTop) && (decide (a.xTo = b.xTo) && ((a.xGuess == b.xGuess) && (true)))) = decide (a = b) := by
  cases a; cases b
  rw [Bool.eq_iff_iff]
  simp only [TSent.mk.injEq, Bool.and_true, Bool.and_eq_true, beq_iff_eq, decide_eq_true_eq]
theorem eqSent (a b : TSent) (h : a.ok) (k : Bool → Option β) : F52 β a.xTop a.xTo.xHost a.xTo.xPath a.xGuess b.xTop b.xTo.xHost b.xTo.xPath b.xGuess k = k (decide (a = b)) := by
  obtain ⟨q0, q1, q2, _⟩ := h
  simp only [F52, P52]
  refine Eq.trans (b := k ((a.xTop == b.xTop) && (decide (a.xTo = b.xTo) && ((a.xGuess == b.xGuess) && (true))))) ?_ (congrArg k (eqSent_iff a b))
  refine eqCut ?_
  refine (eqAddr a.xTo b.xTo q1 _).trans (eqCut ?_)
  refine eqCut ?_
  rfl
theorem szSentS (a : List TSent) (l : Int) (h0 : 0 ≤ l) (h1 : l ≤ 1048576) (h : okL TSent.ok a) (k : Int → Option β) : F18 β (rows kSent TSent.row a) l k = k (szL l (a.length + sumL TSent.size a)) := by
  simp only [F18, P18, rows_len]
  refine szCut h0 h1 h.1 (fun m e h0 h1 => ?_)
  rw [e]
  refine while_sz (fun (i : Nat) (m : Int) => ([.l (rows kSent TSent.row a), .i m, .i (i : Int)] : List Leaf)) a TSent.size (fun m => (1, [.i m])) (fun i y m hi hm0 hm1 => ?_) (fun m => brN rirr rfl) (fun m => rfl) h0 h1 rfl
  have hlt : i < a.length := (List.getElem?_eq_some_iff.1 hi).1
  have hb := h.1
  unfold maxLen at hb
  rcases @szCase m y.size with ⟨c, e⟩ | ⟨c, e⟩
  · exact .inl ⟨_, c, brE (rlt hlt) (chkE (Int.natCast_nonneg _) (idxE (i := i) hi ((szSent y m hm0 hm1 (h.2 y (List.mem_of_getElem? hi)) _).trans (brE (by rw [e]; decide) rfl)))), rfl⟩
  · exact .inr ⟨c, brE (rlt hlt) (chkE (Int.natCast_nonneg _) (idxE (i := i) hi ((szSent y m hm0 hm1 (h.2 y (List.mem_of_getElem? hi)) _).trans (brN (by rw [e]; omega) (two (fun m j : Int => (some (Sum.inl ([.l (rows kSent TSent.row a), .i m, .i j] : List Leaf)) : Option (List Leaf ⊕ (Nat × List Leaf)))) e (wrapS (i := i) (by omega)))))))⟩
theorem toSentS (a : List TSent) (h : a.length + sumL TSent.size a ≤ 1048576) (k : List V → Option β) : F22 β (rows kSent TSent.row a) k = k (rows kSent TSent.row a) := by
  simp only [F22, P22, rows_len, whileK, Int.toNat_natCast]
  refine chkE ⟨by omega, by omega, by omega, by omega⟩ ?_
  rw [while_each (fun i : Nat => ([.l (rows kSent TSent.row a), .l (rows kSent TSent.row (copyS a TSent.nul i)), .i (i : Int)] : List Leaf)) a (0, [.l (rows kSent TSent.row a)]) ?h1 ?h2 _ ?hs]
  case hs => rw [← rows_copy0 rfl]; rfl
  case h1 =>
    intro i y hi
    have hlt : i < a.length := (List.getElem?_eq_some_iff.1 hi).1
    have hl := copyS_len (a := a) (n := TSent.nul) (i := i) (by omega)
    have hm := sumL_mem (f := TSent.size) (List.mem_of_getElem? hi)
    refine brE (rlt hlt) (chkE (Int.natCast_nonneg _) (idxE (i := i) hi ((toSent y (by omega) _).trans (chkE ⟨Int.natCast_nonneg _, ?_⟩ (storeE (g := TSent.row) (y := y) (i := i) rfl (Nat.lt_of_lt_of_eq hlt hl.symm) ?_)))))
    · show (Int.toNat (i : Int)) < (rows kSent TSent.row (copyS a TSent.nul i)).length
      rw [rows_len]; exact Nat.lt_of_lt_of_eq hlt hl.symm
    · exact two (fun (c : List TSent) (j : Int) => (some (Sum.inl ([.l (rows kSent TSent.row a), .l (rows kSent TSent.row c), .i j] : List Leaf)) : Option (List Leaf ⊕ (Nat × List Leaf)))) (copyS_set hi) (wrapS (i := i) (by omega))
  case h2 =>
    rw [copyS_end]
    exact brN rirr rfl
  · rfl
theorem eqSentS (a b : List TSent) (h : okL TSent.ok a) (k : Bool → Option β) : F28 β (rows kSent TSent.row a) (rows kSent TSent.row b) k = k (decide (a = b)) := by
  simp only [F28, P28]
  refine eqLen (rows_len ..) (rows_len ..) (fun hl => ?_)
  refine while_eq (fun i : Nat => ([.l (rows kSent TSent.row a), .l (rows kSent TSent.row b), .i (i : Int)] : List Leaf)) a b hl (fun i x y hi hx hy => ?_) (brN rirr rfl) rfl rfl rfl
  have hb := h.1
  unfold maxLen at hb
  exact brE (rlt hi) (chkE (Int.natCast_nonneg _) (idxE (i := i) hx (chkE (Int.natCast_nonneg _) (idxE (i := i) hy ((eqSent x y (h.2 x (List.mem_of_getElem? hx)) _).trans (brB rfl rfl (congrArg (fun j : Int => (some (Sum.inl ([.l (rows kSent TSent.row a), .l (rows kSent TSent.row b), .i j] : List Leaf)) : Option (List Leaf ⊕ (Nat × List Leaf)))) (wrapS (i := i) (by omega)))))))))

/-! ### Net -/
def TNet.nul : TNet := ⟨[], TCache.nul, [], 0⟩
def TNet.size (a : TNet) : Nat := (a.xServers.length + sumL TServer.size a.xServers) + (TCache.size a.xCache + ((a.xLog.length + sumL TSent.size a.xLog) + (0)))
def TNet.ok (a : TNet) : Prop := okL TServer.ok a.xServers ∧ TCache.ok a.xCache ∧ okL TSent.ok a.xLog ∧ okI a.xNow ∧ True
theorem szNet (a : TNet) (l : Int) (h0 : 0 ≤ l) (h1 : l ≤ 1048576) (h : a.ok) (k : Int → Option β) : F5 β (rows kServer TServer.row a.xServers) (rows kEntry TEntry.row a.xCache.xEntries) (rows kSent TSent.row a.xLog) a.xNow l k = k (szL l a.size) := by
  obtain ⟨q0, q1, q2, q3, _⟩ := h
  unfold TNet.size
  simp only [F5, P5]
  refine (szServerS a.xServers _ h0 h1 q0 _).trans (szSub h0 h1 (fun m0 e0 h0 h1 => ?_))
  rw [e0]
  refine (szCache a.xCache _ h0 h1 q1 _).trans (szSub h0 h1 (fun m1 e1 h0 h1 => ?_))
  rw [e1]
  refine (szSentS a.xLog _ h0 h1 q2 _).trans (szSub h0 h1 (fun m2 e2 h0 h1 => ?_))
  rw [e2]
  exact szEnd h0
theorem toNet (a : TNet) (h : a.size ≤ 1048576) (k : List V → List V → List V → Int → Option β) : F7 β (rows kServer TServer.row a.xServers) (rows kEntry TEntry.row a.xCache.xEntries) (rows kSent TSent.row a.xLog) a.xNow k = k (rows kServer TServer.row a.xServers) (rows kEntry TEntry.row a.xCache.xEntries) (rows kSent TSent.row a.xLog) a.xNow := by
  unfold TNet.size at h
  simp only [F7, P7]
  exact (toServerS a.xServers (by omega) _).trans ((toCache a.xCache (by omega) _).trans ((toSentS a.xLog (by omega) _).trans (rfl)))
theorem eqNet_iff (a b : TNet) : (decide (a.xServers = b.xServers) && (decide (a.xCache = b.xCache) && (decide (a.xLog = b.xLog) && ((a.xNow == b.xNow) && (true))))) = decide (a = b) := by
  cases a; cases b
  rw [Bool.eq_iff_iff]
  simp only [TNet.mk.injEq, Bool.and_true, Bool.and_eq_true, beq_iff_eq, decide_eq_true_eq]
theorem eqNet (a b : TNet) (h : a.ok) (k : Bool → Option β) : F10 β (rows kServer TServer.row a.xServers) (rows kEntry TEntry.row a.xCache.xEntries) (rows kSent TSent.row a.xLog) a.xNow (rows kServer TServer.row b.xServers) (rows kEntry TEntry.row b.xCache.xEntries) (rows kSent TSent.row b.xLog) b.xNow k = k (decide (a = b)) := by
  obtain ⟨q0, q1, q2, q3, _⟩ := h
  simp only [F10, P10]
  refine Eq.trans (b := k (decide (a.xServers = b.xServers) && (decide (a.xCache = b.xCache) && (decide (a.xLog = b.xLog) && ((a.xNow == b.xNow) && (true)))))) ?_ (congrArg k (eqNet_iff a b))
  refine (eqServerS a.xServers b.xServers q0 _).trans (eqCut ?_)
  refine (eqCache a.xCache b.xCache q1 _).trans (eqCut ?_)
  refine (eqSentS a.xLog b.xLog q2 _).trans (eqCut ?_)
  refine eqCut ?_
  rfl
open Classical in noncomputable def lszNet (a : TNet) (l : Int) : Option Int := if 0 ≤ l ∧ l ≤ 1048576 ∧ TNet.ok a then some (szL l (TNet.size a)) else none
theorem ei_lszNet (a : TNet) (l : Int) (k : Int → Option β) : Imp (F5 β (rows kServer TServer.row a.xServers) (rows kEntry TEntry.row a.xCache.xEntries) (rows kSent TSent.row a.xLog) a.xNow l k) (lszNet a l) (fun r => k r) := by
  intro r h
  unfold lszNet at h
  split at h
  · rename_i c; cases h; exact szNet a l c.1 c.2.1 c.2.2 k
  · cases h
def ltoNet (a : TNet) : Option TNet := if TNet.size a ≤ 1048576 then some a else none
theorem ei_ltoNet (a : TNet) (k : List V → List V → List V → Int → Option β) : Imp (F7 β (rows kServer TServer.row a.xServers) (rows kEntry TEntry.row a.xCache.xEntries) (rows kSent TSent.row a.xLog) a.xNow k) (ltoNet a) (fun r => k (rows kServer TServer.row r.xServers) (rows kEntry TEntry.row r.xCache.xEntries) (rows kSent TSent.row r.xLog) r.xNow) := by
  intro r h
  unfold ltoNet at h
  split at h
  · rename_i c; cases h; exact toNet a c k
  · cases h
open Classical in noncomputable def leqNet (a b : TNet) : Option Bool := if TNet.ok a then some (decide (a = b)) else none
theorem ei_leqNet (a b : TNet) (k : Bool → Option β) : Imp (F10 β (rows kServer TServer.row a.xServers) (rows kEntry TEntry.row a.xCache.xEntries) (rows kSent TSent.row a.xLog) a.xNow (rows kServer TServer.row b.xServers) (rows kEntry TEntry.row b.xCache.xEntries) (rows kSent TSent.row b.xLog) b.xNow k) (leqNet a b) (fun r => k r) := by
  intro r h
  unfold leqNet at h
  split at h
  · rename_i c; cases h; refine (eqNet a b c k).trans ?_; congr
  · cases h

/-! ### arguments -/
def fl : Nat → Bool := fun t => t != 28 && t != 22 && t != 71 && t != 69 && t != 25 && t != 23 && t != 26
def L : List Nat := [28, 22, 71, 9, 69, 121, 98, 3, 4, 25, 23, 100, 74, 26, 76]
theorem kids : kidsOk Try.prog L = true := by kernel_rfl
theorem flArgs : flOk Try.prog L fl = true := by kernel_rfl
theorem cells28 : Try.prog.cellsOf 28 = 4 := by kernel_rfl
theorem cells22 : Try.prog.cellsOf 22 = 1 := by kernel_rfl
theorem cells71 : Try.prog.cellsOf 71 = 2 := by kernel_rfl
theorem cells9 : Try.prog.cellsOf 9 = 1 := by kernel_rfl
theorem cells69 : Try.prog.cellsOf 69 = 1 := by kernel_rfl
theorem cells121 : Try.prog.cellsOf 121 = 7 := by kernel_rfl
theorem cells98 : Try.prog.cellsOf 98 = 6 := by kernel_rfl
theorem cells3 : Try.prog.cellsOf 3 = 1 := by kernel_rfl
theorem cells4 : Try.prog.cellsOf 4 = 1 := by kernel_rfl
theorem cells25 : Try.prog.cellsOf 25 = 1 := by kernel_rfl
theorem cells23 : Try.prog.cellsOf 23 = 1 := by kernel_rfl
theorem cells100 : Try.prog.cellsOf 100 = 10 := by kernel_rfl
theorem cells74 : Try.prog.cellsOf 74 = 2 := by kernel_rfl
theorem cells26 : Try.prog.cellsOf 26 = 1 := by kernel_rfl
theorem cells76 : Try.prog.cellsOf 76 = 4 := by kernel_rfl
theorem Response_open {n : Nat} {us : List V} (h : Cn Try.prog fl n 98 us) : ∃ a : TResponse, a.ok ∧ us = [.int .i64 a.xStatus, .int .i64 a.xKind, .str a.xBody, .int .i64 a.xAge, .bool a.xShares, .str a.xPolicy] := by
  obtain ⟨m, hl, hf⟩ := cn_struct h Try.underlying98
  rw [cells98] at hl
  obtain ⟨u0, l0, rfl, hl0⟩ := list_next hl
  obtain ⟨u1, l1, rfl, hl1⟩ := list_next hl0
  obtain ⟨u2, l2, rfl, hl2⟩ := list_next hl1
  obtain ⟨u3, l3, rfl, hl3⟩ := list_next hl2
  obtain ⟨u4, l4, rfl, hl4⟩ := list_next hl3
  obtain ⟨u5, l5, rfl, hl5⟩ := list_next hl4
  obtain rfl := List.length_eq_zero_iff.1 hl5
  obtain ⟨g0, g1, g2, g3, g4, g5, _⟩ := hf
  rw [cells3] at g0
  obtain ⟨y0, z0, o0⟩ := cn_int g0 Try.underlying3
  have o0 := okI_of o0
  simp only [List.drop_succ_cons, List.drop_zero, List.take_succ_cons, List.take_zero, List.cons.injEq, and_true] at z0
  obtain rfl := z0
  rw [cells3] at g1
  obtain ⟨y1, z1, o1⟩ := cn_int g1 Try.underlying3
  have o1 := okI_of o1
  simp only [List.drop_succ_cons, List.drop_zero, List.take_succ_cons, List.take_zero, List.cons.injEq, and_true] at z1
  obtain rfl := z1
  rw [cells9] at g2
  obtain ⟨y2, z2, o2⟩ := cn_str g2 Try.underlying9
  simp only [List.drop_succ_cons, List.drop_zero, List.take_succ_cons, List.take_zero, List.cons.injEq, and_true] at z2
  obtain rfl := z2
  rw [cells3] at g3
  obtain ⟨y3, z3, o3⟩ := cn_int g3 Try.underlying3
  have o3 := okI_of o3
  simp only [List.drop_succ_cons, List.drop_zero, List.take_succ_cons, List.take_zero, List.cons.injEq, and_true] at z3
  obtain rfl := z3
  rw [cells4] at g4
  obtain ⟨y4, z4⟩ := cn_bool g4 Try.underlying4
  have o4 : True := trivial
  simp only [List.drop_succ_cons, List.drop_zero, List.take_succ_cons, List.take_zero, List.cons.injEq, and_true] at z4
  obtain rfl := z4
  rw [cells9] at g5
  obtain ⟨y5, z5, o5⟩ := cn_str g5 Try.underlying9
  simp only [List.drop_succ_cons, List.drop_zero, List.take_succ_cons, List.take_zero, List.cons.injEq, and_true] at z5
  obtain rfl := z5
  exact ⟨⟨y0, y1, y2, y3, y4, y5⟩, ⟨o0, o1, o2, o3, o4, o5, trivial⟩, rfl⟩
theorem File_open {n : Nat} {us : List V} (h : Cn Try.prog fl n 121 us) : ∃ a : TFile, a.ok ∧ us = [.str a.xPath, .int .i64 a.xResponse.xStatus, .int .i64 a.xResponse.xKind, .str a.xResponse.xBody, .int .i64 a.xResponse.xAge, .bool a.xResponse.xShares, .str a.xResponse.xPolicy] := by
  obtain ⟨m, hl, hf⟩ := cn_struct h Try.underlying121
  rw [cells121] at hl
  obtain ⟨u0, l0, rfl, hl0⟩ := list_next hl
  obtain ⟨u1, l1, rfl, hl1⟩ := list_next hl0
  obtain ⟨u2, l2, rfl, hl2⟩ := list_next hl1
  obtain ⟨u3, l3, rfl, hl3⟩ := list_next hl2
  obtain ⟨u4, l4, rfl, hl4⟩ := list_next hl3
  obtain ⟨u5, l5, rfl, hl5⟩ := list_next hl4
  obtain ⟨u6, l6, rfl, hl6⟩ := list_next hl5
  obtain rfl := List.length_eq_zero_iff.1 hl6
  obtain ⟨g0, g1, _⟩ := hf
  rw [cells9] at g0
  obtain ⟨y0, z0, o0⟩ := cn_str g0 Try.underlying9
  simp only [List.drop_succ_cons, List.drop_zero, List.take_succ_cons, List.take_zero, List.cons.injEq, and_true] at z0
  obtain rfl := z0
  rw [cells98] at g1
  obtain ⟨y1, o1, z1⟩ := Response_open g1
  simp only [List.drop_succ_cons, List.drop_zero, List.take_succ_cons, List.take_zero, List.cons.injEq, and_true] at z1
  obtain ⟨rfl, rfl, rfl, rfl, rfl, rfl⟩ := z1
  exact ⟨⟨y0, y1⟩, ⟨o0, o1, trivial⟩, rfl⟩
theorem Server_open {n : Nat} {us : List V} (h : Cn Try.prog fl n 71 us) : ∃ a : TServer, a.ok ∧ us = [.str a.xHost, .sl 7 true (rows kFile TFile.row a.xFiles)] := by
  obtain ⟨m, hl, hf⟩ := cn_struct h Try.underlying71
  rw [cells71] at hl
  obtain ⟨u0, l0, rfl, hl0⟩ := list_next hl
  obtain ⟨u1, l1, rfl, hl1⟩ := list_next hl0
  obtain rfl := List.length_eq_zero_iff.1 hl1
  obtain ⟨g0, g1, _⟩ := hf
  rw [cells9] at g0
  obtain ⟨y0, z0, o0⟩ := cn_str g0 Try.underlying9
  simp only [List.drop_succ_cons, List.drop_zero, List.take_succ_cons, List.take_zero, List.cons.injEq, and_true] at z0
  obtain rfl := z0
  rw [cells69] at g1
  obtain ⟨_, r1, z1, b1, w1⟩ := cn_rows g1 Try.underlying69 Try.underlying121
  obtain ⟨y1, rfl, v1⟩ := rows_of (ks := kFile) (g := TFile.row) (ok := TFile.ok) (fun r hr => by
    obtain ⟨us, h1, h2⟩ := w1 r hr
    obtain ⟨e, h3, h4⟩ := File_open h1
    exact ⟨e, h3, by rw [h2, h4]; rfl⟩)
  have o1 : okL TFile.ok y1 := ⟨by rw [rows_len] at b1; exact b1, v1⟩
  rw [cells121, show fl 121 = true from rfl] at z1
  simp only [List.drop_succ_cons, List.drop_zero, List.take_succ_cons, List.take_zero, List.cons.injEq, and_true] at z1
  obtain rfl := z1
  exact ⟨⟨y0, y1⟩, ⟨o0, o1, trivial⟩, rfl⟩
theorem Addr_open {n : Nat} {us : List V} (h : Cn Try.prog fl n 74 us) : ∃ a : TAddr, a.ok ∧ us = [.str a.xHost, .str a.xPath] := by
  obtain ⟨m, hl, hf⟩ := cn_struct h Try.underlying74
  rw [cells74] at hl
  obtain ⟨u0, l0, rfl, hl0⟩ := list_next hl
  obtain ⟨u1, l1, rfl, hl1⟩ := list_next hl0
  obtain rfl := List.length_eq_zero_iff.1 hl1
  obtain ⟨g0, g1, _⟩ := hf
  rw [cells9] at g0
  obtain ⟨y0, z0, o0⟩ := cn_str g0 Try.underlying9
  simp only [List.drop_succ_cons, List.drop_zero, List.take_succ_cons, List.take_zero, List.cons.injEq, and_true] at z0
  obtain rfl := z0
  rw [cells9] at g1
  obtain ⟨y1, z1, o1⟩ := cn_str g1 Try.underlying9
  simp only [List.drop_succ_cons, List.drop_zero, List.take_succ_cons, List.take_zero, List.cons.injEq, and_true] at z1
  obtain rfl := z1
  exact ⟨⟨y0, y1⟩, ⟨o0, o1, trivial⟩, rfl⟩
theorem Entry_open {n : Nat} {us : List V} (h : Cn Try.prog fl n 100 us) : ∃ a : TEntry, a.ok ∧ us = [.str a.xTop, .str a.xTo.xHost, .str a.xTo.xPath, .int .i64 a.xResponse.xStatus, .int .i64 a.xResponse.xKind, .str a.xResponse.xBody, .int .i64 a.xResponse.xAge, .bool a.xResponse.xShares, .str a.xResponse.xPolicy, .int .i64 a.xUntil] := by
  obtain ⟨m, hl, hf⟩ := cn_struct h Try.underlying100
  rw [cells100] at hl
  obtain ⟨u0, l0, rfl, hl0⟩ := list_next hl
  obtain ⟨u1, l1, rfl, hl1⟩ := list_next hl0
  obtain ⟨u2, l2, rfl, hl2⟩ := list_next hl1
  obtain ⟨u3, l3, rfl, hl3⟩ := list_next hl2
  obtain ⟨u4, l4, rfl, hl4⟩ := list_next hl3
  obtain ⟨u5, l5, rfl, hl5⟩ := list_next hl4
  obtain ⟨u6, l6, rfl, hl6⟩ := list_next hl5
  obtain ⟨u7, l7, rfl, hl7⟩ := list_next hl6
  obtain ⟨u8, l8, rfl, hl8⟩ := list_next hl7
  obtain ⟨u9, l9, rfl, hl9⟩ := list_next hl8
  obtain rfl := List.length_eq_zero_iff.1 hl9
  obtain ⟨g0, g1, g2, g3, _⟩ := hf
  rw [cells9] at g0
  obtain ⟨y0, z0, o0⟩ := cn_str g0 Try.underlying9
  simp only [List.drop_succ_cons, List.drop_zero, List.take_succ_cons, List.take_zero, List.cons.injEq, and_true] at z0
  obtain rfl := z0
  rw [cells74] at g1
  obtain ⟨y1, o1, z1⟩ := Addr_open g1
  simp only [List.drop_succ_cons, List.drop_zero, List.take_succ_cons, List.take_zero, List.cons.injEq, and_true] at z1
  obtain ⟨rfl, rfl⟩ := z1
  rw [cells98] at g2
  obtain ⟨y2, o2, z2⟩ := Response_open g2
  simp only [List.drop_succ_cons, List.drop_zero, List.take_succ_cons, List.take_zero, List.cons.injEq, and_true] at z2
  obtain ⟨rfl, rfl, rfl, rfl, rfl, rfl⟩ := z2
  rw [cells3] at g3
  obtain ⟨y3, z3, o3⟩ := cn_int g3 Try.underlying3
  have o3 := okI_of o3
  simp only [List.drop_succ_cons, List.drop_zero, List.take_succ_cons, List.take_zero, List.cons.injEq, and_true] at z3
  obtain rfl := z3
  exact ⟨⟨y0, y1, y2, y3⟩, ⟨o0, o1, o2, o3, trivial⟩, rfl⟩
theorem Cache_open {n : Nat} {us : List V} (h : Cn Try.prog fl n 25 us) : ∃ a : TCache, a.ok ∧ us = [.sl 10 true (rows kEntry TEntry.row a.xEntries)] := by
  obtain ⟨m, hl, hf⟩ := cn_struct h Try.underlying25
  rw [cells25] at hl
  obtain ⟨u0, l0, rfl, hl0⟩ := list_next hl
  obtain rfl := List.length_eq_zero_iff.1 hl0
  obtain ⟨g0, _⟩ := hf
  rw [cells23] at g0
  obtain ⟨_, r0, z0, b0, w0⟩ := cn_rows g0 Try.underlying23 Try.underlying100
  obtain ⟨y0, rfl, v0⟩ := rows_of (ks := kEntry) (g := TEntry.row) (ok := TEntry.ok) (fun r hr => by
    obtain ⟨us, h1, h2⟩ := w0 r hr
    obtain ⟨e, h3, h4⟩ := Entry_open h1
    exact ⟨e, h3, by rw [h2, h4]; rfl⟩)
  have o0 : okL TEntry.ok y0 := ⟨by rw [rows_len] at b0; exact b0, v0⟩
  rw [cells100, show fl 100 = true from rfl] at z0
  simp only [List.drop_succ_cons, List.drop_zero, List.take_succ_cons, List.take_zero, List.cons.injEq, and_true] at z0
  obtain rfl := z0
  exact ⟨⟨y0⟩, ⟨o0, trivial⟩, rfl⟩
theorem Sent_open {n : Nat} {us : List V} (h : Cn Try.prog fl n 76 us) : ∃ a : TSent, a.ok ∧ us = [.str a.xTop, .str a.xTo.xHost, .str a.xTo.xPath, .bool a.xGuess] := by
  obtain ⟨m, hl, hf⟩ := cn_struct h Try.underlying76
  rw [cells76] at hl
  obtain ⟨u0, l0, rfl, hl0⟩ := list_next hl
  obtain ⟨u1, l1, rfl, hl1⟩ := list_next hl0
  obtain ⟨u2, l2, rfl, hl2⟩ := list_next hl1
  obtain ⟨u3, l3, rfl, hl3⟩ := list_next hl2
  obtain rfl := List.length_eq_zero_iff.1 hl3
  obtain ⟨g0, g1, g2, _⟩ := hf
  rw [cells9] at g0
  obtain ⟨y0, z0, o0⟩ := cn_str g0 Try.underlying9
  simp only [List.drop_succ_cons, List.drop_zero, List.take_succ_cons, List.take_zero, List.cons.injEq, and_true] at z0
  obtain rfl := z0
  rw [cells74] at g1
  obtain ⟨y1, o1, z1⟩ := Addr_open g1
  simp only [List.drop_succ_cons, List.drop_zero, List.take_succ_cons, List.take_zero, List.cons.injEq, and_true] at z1
  obtain ⟨rfl, rfl⟩ := z1
  rw [cells4] at g2
  obtain ⟨y2, z2⟩ := cn_bool g2 Try.underlying4
  have o2 : True := trivial
  simp only [List.drop_succ_cons, List.drop_zero, List.take_succ_cons, List.take_zero, List.cons.injEq, and_true] at z2
  obtain rfl := z2
  exact ⟨⟨y0, y1, y2⟩, ⟨o0, o1, o2, trivial⟩, rfl⟩
theorem Net_open {n : Nat} {us : List V} (h : Cn Try.prog fl n 28 us) : ∃ a : TNet, a.ok ∧ us = [.sl 2 false (rows kServer TServer.row a.xServers), .sl 10 true (rows kEntry TEntry.row a.xCache.xEntries), .sl 4 true (rows kSent TSent.row a.xLog), .int .i64 a.xNow] := by
  obtain ⟨m, hl, hf⟩ := cn_struct h Try.underlying28
  rw [cells28] at hl
  obtain ⟨u0, l0, rfl, hl0⟩ := list_next hl
  obtain ⟨u1, l1, rfl, hl1⟩ := list_next hl0
  obtain ⟨u2, l2, rfl, hl2⟩ := list_next hl1
  obtain ⟨u3, l3, rfl, hl3⟩ := list_next hl2
  obtain rfl := List.length_eq_zero_iff.1 hl3
  obtain ⟨g0, g1, g2, g3, _⟩ := hf
  rw [cells22] at g0
  obtain ⟨_, r0, z0, b0, w0⟩ := cn_rows g0 Try.underlying22 Try.underlying71
  obtain ⟨y0, rfl, v0⟩ := rows_of (ks := kServer) (g := TServer.row) (ok := TServer.ok) (fun r hr => by
    obtain ⟨us, h1, h2⟩ := w0 r hr
    obtain ⟨e, h3, h4⟩ := Server_open h1
    exact ⟨e, h3, by rw [h2, h4]; rfl⟩)
  have o0 : okL TServer.ok y0 := ⟨by rw [rows_len] at b0; exact b0, v0⟩
  rw [cells71, show fl 71 = false from rfl] at z0
  simp only [List.drop_succ_cons, List.drop_zero, List.take_succ_cons, List.take_zero, List.cons.injEq, and_true] at z0
  obtain rfl := z0
  rw [cells25] at g1
  obtain ⟨y1, o1, z1⟩ := Cache_open g1
  simp only [List.drop_succ_cons, List.drop_zero, List.take_succ_cons, List.take_zero, List.cons.injEq, and_true] at z1
  obtain rfl := z1
  rw [cells26] at g2
  obtain ⟨_, r2, z2, b2, w2⟩ := cn_rows g2 Try.underlying26 Try.underlying76
  obtain ⟨y2, rfl, v2⟩ := rows_of (ks := kSent) (g := TSent.row) (ok := TSent.ok) (fun r hr => by
    obtain ⟨us, h1, h2⟩ := w2 r hr
    obtain ⟨e, h3, h4⟩ := Sent_open h1
    exact ⟨e, h3, by rw [h2, h4]; rfl⟩)
  have o2 : okL TSent.ok y2 := ⟨by rw [rows_len] at b2; exact b2, v2⟩
  rw [cells76, show fl 76 = true from rfl] at z2
  simp only [List.drop_succ_cons, List.drop_zero, List.take_succ_cons, List.take_zero, List.cons.injEq, and_true] at z2
  obtain rfl := z2
  rw [cells3] at g3
  obtain ⟨y3, z3, o3⟩ := cn_int g3 Try.underlying3
  have o3 := okI_of o3
  simp only [List.drop_succ_cons, List.drop_zero, List.take_succ_cons, List.take_zero, List.cons.injEq, and_true] at z3
  obtain rfl := z3
  exact ⟨⟨y0, y1, y2, y3⟩, ⟨o0, o1, o2, o3, trivial⟩, rfl⟩
theorem answers : Answers Try.prog D := sound_den agree (fun den hD => drawOk agree (by kernel_rfl) hD) extAns
end Go.Am

/-
  The data of the laws: structures, their rows, their sizes; and what laws.sz.., laws.to.., laws.eq.. compute on them. Written by program (typed.py).
-/
import Derived.Test.YtgfiinkdogbelaaGreatDoorwAmSeq
import Derived.Test.YtgfiinkdogbelaaGreatDoorwFv
import Derived.Test.YtgfiinkdogbelaaGreatDoorwAmWrite
namespace Go.Am
open Go Go.Proofs
set_option linter.unusedVariables false
set_option linter.unusedSimpArgs false
variable {M : Type}
theorem szStringS (a : List (List UInt8)) (l : Int) (h0 : 0 <= l) (h1 : l <= 1048576) (h : okL okS a) (k : Int -> Option M) : F101 M (rStr a) l k = k (szL l (a.length + sumL List.length a)) := by
 simp only [F101, P101, rStr_len]
 refine szCut h0 h1 h.1 (fun m e h0 h1 => ?_)
 rw [e]
 refine while_sz (fun (i : Nat) (m : Int) => ([.l (rStr a), .i m, .i (i : Int)] : List Leaf)) a List.length (fun m => (1, [.i m])) (fun i y m hi hm0 hm1 => ?_) (fun m => brN rirr1 rfl) (fun m => rfl) h0 h1 rfl
 have hlt : i < a.length := (gs_ hi).1
 have hb := h.1
 unfold maxLen at hb
 have hw := wrap_sub hm0 hm1 (h.2 y (List.mem_of_getElem? hi))
 by_cases c : m < (y.length : Int)
 ·exact .inl ⟨_, c, brE (rlt1 hlt) (chkE (Int.natCast_nonneg _) (idxE1 (i := i) hi (brE (show IntKind.wrap .i64 (m - (y.length : Int)) < 0 by rw [hw]; omega) rfl))), rfl⟩
 ·have c := Int.not_lt.1 c
  exact .inr ⟨c, brE (rlt1 hlt) (chkE (Int.natCast_nonneg _) (idxE1 (i := i) hi (brN (fun h => by have h : IntKind.wrap .i64 (m - (y.length : Int)) < 0 := h; rw [hw] at h; omega) (two (fun m j : Int => (some (Sum.inl ([.l (rStr a), .i m, .i j] : List Leaf)) : Option (List Leaf ⊕ (Nat × List Leaf)))) hw (wrapS (i := i) (by omega))))))⟩
theorem toStringS (a : List (List UInt8)) (h : a.length + sumL List.length a <= 1048576) (k : List V -> Option M) : F113 M (rStr a) k = k (rStr a) := by
 simp only [F113, P113, rStr_len, whileK, Int.toNat_natCast]
 refine chkE ⟨by omega, by omega, by omega, by omega⟩ ?_
 rw [while_each (fun i : Nat => ([.l (rStr a), .l (rStr (copyS a ([] : List UInt8) i)), .i (i : Int)] : List Leaf)) a (0, [.l (rStr a)]) ?h1 ?h2 _ ?hs]
 case hs => rw [<- rStr_copy0]; rfl
 case h1 =>
  intro i y hi
  have hlt : i < a.length := (gs_ hi).1
  have hl := copyS_len (a := a) (n := ([] : List UInt8)) (i := i) (by omega)
  refine brE (rlt1 hlt) (chkE (Int.natCast_nonneg _) (idxE1 (i := i) hi (chkE ⟨Int.natCast_nonneg _, ?_⟩ (storeE1 (kd := .str) (g1 := fun e => e) (y := y) (i := i) rfl (Nat.lt_of_lt_of_eq hlt hl.symm) ?_))))
  ·show (Int.toNat (i : Int)) < (rStr (copyS a ([] : List UInt8) i)).length
   rw [rStr_len]; exact Nat.lt_of_lt_of_eq hlt hl.symm
  ·exact two (fun (c : List (List UInt8)) (j : Int) => (some (Sum.inl ([.l (rStr a), .l (rStr c), .i j] : List Leaf)) : Option (List Leaf ⊕ (Nat × List Leaf)))) (copyS_set hi) (wrapS (i := i) (by omega))
 case h2 =>
  rw [copyS_end]
  exact brN rirr1 rfl
 ·rfl
theorem eqStringS (a b : List (List UInt8)) (h : okL okS a) (k : Bool -> Option M) : F126 M (rStr a) (rStr b) k = k (decide (a = b)) := by
 simp only [F126, P126]
 refine eqLen (rStr_len ..) (rStr_len ..) (fun hl => ?_)
 refine while_eq (fun i : Nat => ([.l (rStr a), .l (rStr b), .i (i : Int)] : List Leaf)) a b hl (fun i x y hi hx hy => ?_) (brN rirr1 rfl) rfl rfl rfl
 have hb := h.1
 unfold maxLen at hb
 exact brE (rlt1 hi) (chkE (Int.natCast_nonneg _) (idxE1 (i := i) hx (chkE (Int.natCast_nonneg _) (idxE1 (i := i) hy (brB (c := !decide (x = y)) (by rw [Bool.eq_iff_iff]; simp) rfl (congrArg (fun j : Int => (some (Sum.inl ([.l (rStr a), .l (rStr b), .i j] : List Leaf)) : Option (List Leaf ⊕ (Nat × List Leaf)))) (wrapS (i := i) (by omega))))))))
theorem szIntS (a : List Int) (l : Int) (h0 : 0 <= l) (h1 : l <= 1048576) (h : okL okI a) (k : Int -> Option M) : F150 M (rInt a) l k = k (szL l a.length) := by
 simp only [F150, P150, rInt_len]
 refine szCut (t := 0) h0 h1 h.1 (fun m e h0 h1 => ?_)
 rw [e]
 exact szEnd h0
theorem toIntS (a : List Int) (h : a.length <= 1048576) (k : List V -> Option M) : F158 M (rInt a) k = k (rInt a) := by
 simp only [F158, P158, rInt_len, whileK, Int.toNat_natCast]
 refine chkE ⟨by omega, by omega, by omega, by omega⟩ ?_
 rw [while_each (fun i : Nat => ([.l (rInt a), .l (rInt (copyS a (0 : Int) i)), .i (i : Int)] : List Leaf)) a (0, [.l (rInt a)]) ?h1 ?h2 _ ?hs]
 case hs => rw [<- rInt_copy0]; rfl
 case h1 =>
  intro i y hi
  have hlt : i < a.length := (gs_ hi).1
  have hl := copyS_len (a := a) (n := (0 : Int)) (i := i) (by omega)
  refine brE (rlt1 hlt) (chkE (Int.natCast_nonneg _) (idxE1 (i := i) hi (chkE ⟨Int.natCast_nonneg _, ?_⟩ (storeE1 (kd := .int .i64) (g1 := fun e => e) (y := y) (i := i) rfl (Nat.lt_of_lt_of_eq hlt hl.symm) ?_))))
  ·show (Int.toNat (i : Int)) < (rInt (copyS a (0 : Int) i)).length
   rw [rInt_len]; exact Nat.lt_of_lt_of_eq hlt hl.symm
  ·exact two (fun (c : List Int) (j : Int) => (some (Sum.inl ([.l (rInt a), .l (rInt c), .i j] : List Leaf)) : Option (List Leaf ⊕ (Nat × List Leaf)))) (copyS_set hi) (wrapS (i := i) (by omega))
 case h2 =>
  rw [copyS_end]
  exact brN rirr1 rfl
 ·rfl
theorem eqIntS (a b : List Int) (h : okL okI a) (k : Bool -> Option M) : F167 M (rInt a) (rInt b) k = k (decide (a = b)) := by
 simp only [F167, P167]
 refine eqLen (rInt_len ..) (rInt_len ..) (fun hl => ?_)
 refine while_eq (fun i : Nat => ([.l (rInt a), .l (rInt b), .i (i : Int)] : List Leaf)) a b hl (fun i x y hi hx hy => ?_) (brN rirr1 rfl) rfl rfl rfl
 have hb := h.1
 unfold maxLen at hb
 exact brE (rlt1 hi) (chkE (Int.natCast_nonneg _) (idxE1 (i := i) hx (chkE (Int.natCast_nonneg _) (idxE1 (i := i) hy (brB (c := !decide (x = y)) (by rw [Bool.eq_iff_iff]; simp) rfl (congrArg (fun j : Int => (some (Sum.inl ([.l (rInt a), .l (rInt b), .i j] : List Leaf)) : Option (List Leaf ⊕ (Nat × List Leaf)))) (wrapS (i := i) (by omega))))))))
def TResponse.nul : TResponse := ⟨0, 0, [], 0, false, []⟩
def TResponse.size (a : TResponse) : Nat := a.xBody.length + (a.xPolicy.length + (0))
def TResponse.ok (a : TResponse) : Prop := okI a.xStatus /\ okI a.xKind /\ okS a.xBody /\ okI a.xAge /\ True /\ okS a.xPolicy /\ True
theorem szResponse (a : TResponse) (l : Int) (h0 : 0 <= l) (h1 : l <= 1048576) (h : a.ok) (k : Int -> Option M) : F153 M a.xStatus a.xKind a.xBody a.xAge a.xShares a.xPolicy l k = k (szL l a.size) := by
 obtain ⟨q0, q1, q2, q3, q4, q5, _⟩ := h
 unfold TResponse.size
 simp only [F153, P153]
 refine szCut h0 h1 q2 (fun m2 e2 h0 h1 => ?_)
 rw [e2]
 refine szCut h0 h1 q5 (fun m5 e5 h0 h1 => ?_)
 rw [e5]
 exact szEnd h0
theorem toResponse (a : TResponse) (h : a.size <= 1048576) (k : Int -> Int -> List UInt8 -> Int -> Bool -> List UInt8 -> Option M) : F161 M a.xStatus a.xKind a.xBody a.xAge a.xShares a.xPolicy k = k a.xStatus a.xKind a.xBody a.xAge a.xShares a.xPolicy := by
 unfold TResponse.size at h
 simp only [F161, P161]
theorem eqResponse_iff (a b : TResponse) : ((a.xStatus == b.xStatus) && ((a.xKind == b.xKind) && ((a.xBody == b.xBody) && ((a.xAge == b.xAge) && ((a.xShares == b.xShares) && ((a.xPolicy == b.xPolicy) && (true))))))) = decide (a = b) := by
 cases a; cases b
 rw [Bool.eq_iff_iff]
 simp only [TResponse.mk.injEq, Bool.and_true, Bool.and_eq_true, beq_iff_eq, decide_eq_true_eq]
theorem eqResponse (a b : TResponse) (h : a.ok) (k : Bool -> Option M) : F170 M a.xStatus a.xKind a.xBody a.xAge a.xShares a.xPolicy b.xStatus b.xKind b.xBody b.xAge b.xShares b.xPolicy k = k (decide (a = b)) := by
 obtain ⟨q0, q1, q2, q3, q4, q5, _⟩ := h
 simp only [F170, P170]
 refine Eq.trans ?_ (congrArg k (eqResponse_iff a b))
 refine eqCut ?_
 refine eqCut ?_
 refine eqCut ?_
 refine eqCut ?_
 refine eqCut ?_
 refine eqCut ?_
 rfl
def TFile.nul : TFile := ⟨[], TResponse.nul⟩
def TFile.size (a : TFile) : Nat := a.xPath.length + (TResponse.size a.xResponse + (0))
def TFile.ok (a : TFile) : Prop := okS a.xPath /\ TResponse.ok a.xResponse /\ True
theorem szFile (a : TFile) (l : Int) (h0 : 0 <= l) (h1 : l <= 1048576) (h : a.ok) (k : Int -> Option M) : F189 M a.xPath a.xResponse.xStatus a.xResponse.xKind a.xResponse.xBody a.xResponse.xAge a.xResponse.xShares a.xResponse.xPolicy l k = k (szL l a.size) := by
 obtain ⟨q0, q1, _⟩ := h
 unfold TFile.size
 simp only [F189, P189]
 refine szCut h0 h1 q0 (fun m0 e0 h0 h1 => ?_)
 rw [e0]
 refine (szResponse a.xResponse _ h0 h1 q1 _).trans (szSub h0 h1 (fun m1 e1 h0 h1 => ?_))
 rw [e1]
 exact szEnd h0
theorem toFile (a : TFile) (h : a.size <= 1048576) (k : List UInt8 -> Int -> Int -> List UInt8 -> Int -> Bool -> List UInt8 -> Option M) : F192 M a.xPath a.xResponse.xStatus a.xResponse.xKind a.xResponse.xBody a.xResponse.xAge a.xResponse.xShares a.xResponse.xPolicy k = k a.xPath a.xResponse.xStatus a.xResponse.xKind a.xResponse.xBody a.xResponse.xAge a.xResponse.xShares a.xResponse.xPolicy := by
 unfold TFile.size at h
 simp only [F192, P192]
 exact (toResponse a.xResponse (by omega) _).trans (rfl)
theorem eqFile_iff (a b : TFile) : ((a.xPath == b.xPath) && (decide (a.xResponse = b.xResponse) && (true))) = decide (a = b) := by
 cases a; cases b
 rw [Bool.eq_iff_iff]
 simp only [TFile.mk.injEq, Bool.and_true, Bool.and_eq_true, beq_iff_eq, decide_eq_true_eq]
theorem eqFile (a b : TFile) (h : a.ok) (k : Bool -> Option M) : F195 M a.xPath a.xResponse.xStatus a.xResponse.xKind a.xResponse.xBody a.xResponse.xAge a.xResponse.xShares a.xResponse.xPolicy b.xPath b.xResponse.xStatus b.xResponse.xKind b.xResponse.xBody b.xResponse.xAge b.xResponse.xShares b.xResponse.xPolicy k = k (decide (a = b)) := by
 obtain ⟨q0, q1, _⟩ := h
 simp only [F195, P195]
 refine Eq.trans ?_ (congrArg k (eqFile_iff a b))
 refine eqCut ?_
 refine (eqResponse a.xResponse b.xResponse q1 _).trans (eqCut ?_)
 rfl
theorem szFileS (a : List TFile) (l : Int) (h0 : 0 <= l) (h1 : l <= 1048576) (h : okL TFile.ok a) (k : Int -> Option M) : F146 M (rows kFile TFile.row a) l k = k (szL l (a.length + sumL TFile.size a)) :=
 szS_g (g := TFile.row) (fun e m k => F189 _ e.1 e.2.1 e.2.2.1 e.2.2.2.1 e.2.2.2.2.1 e.2.2.2.2.2.1 e.2.2.2.2.2.2.1 m k) (fun y m h0 h1 h k => szFile y m h0 h1 h k) a l h0 h1 h k
theorem toFileS (a : List TFile) (h : a.length + sumL TFile.size a <= 1048576) (k : List V -> Option M) : F154 M (rows kFile TFile.row a) k = k (rows kFile TFile.row a) :=
 toS_g (g := TFile.row) (z := TFile.nul) (fun e k => F192 _ e.1 e.2.1 e.2.2.1 e.2.2.2.1 e.2.2.2.2.1 e.2.2.2.2.2.1 e.2.2.2.2.2.2.1 fun v0 v1 v2 v3 v4 v5 v6 => k [.str v0, .int .i64 v1, .int .i64 v2, .str v3, .int .i64 v4, .bool v5, .str v6]) (fun y h k => toFile y h _) (by decide) rfl a h k
theorem eqFileS (a b : List TFile) (h : okL TFile.ok a) (k : Bool -> Option M) : F163 M (rows kFile TFile.row a) (rows kFile TFile.row b) k = k (decide (a = b)) :=
 eqS_g (g := TFile.row) (fun e e2 k => F195 _ e.1 e.2.1 e.2.2.1 e.2.2.2.1 e.2.2.2.2.1 e.2.2.2.2.2.1 e.2.2.2.2.2.2.1 e2.1 e2.2.1 e2.2.2.1 e2.2.2.2.1 e2.2.2.2.2.1 e2.2.2.2.2.2.1 e2.2.2.2.2.2.2.1 k) (fun x y h k => eqFile x y h k) a b h k
def TServer.nul : TServer := ⟨[], []⟩
def TServer.size (a : TServer) : Nat := a.xHost.length + ((a.xFiles.length + sumL TFile.size a.xFiles) + (0))
def TServer.ok (a : TServer) : Prop := okS a.xHost /\ okL TFile.ok a.xFiles /\ True
theorem szServer (a : TServer) (l : Int) (h0 : 0 <= l) (h1 : l <= 1048576) (h : a.ok) (k : Int -> Option M) : F91 M a.xHost (rows kFile TFile.row a.xFiles) l k = k (szL l a.size) := by
 obtain ⟨q0, q1, _⟩ := h
 unfold TServer.size
 simp only [F91, P91]
 refine szCut h0 h1 q0 (fun m0 e0 h0 h1 => ?_)
 rw [e0]
 refine (szFileS a.xFiles _ h0 h1 q1 _).trans (szSub h0 h1 (fun m1 e1 h0 h1 => ?_))
 rw [e1]
 exact szEnd h0
theorem toServer (a : TServer) (h : a.size <= 1048576) (k : List UInt8 -> List V -> Option M) : F103 M a.xHost (rows kFile TFile.row a.xFiles) k = k a.xHost (rows kFile TFile.row a.xFiles) := by
 unfold TServer.size at h
 simp only [F103, P103]
 exact (toFileS a.xFiles (by omega) _).trans (rfl)
theorem eqServer_iff (a b : TServer) : ((a.xHost == b.xHost) && (decide (a.xFiles = b.xFiles) && (true))) = decide (a = b) := by
 cases a; cases b
 rw [Bool.eq_iff_iff]
 simp only [TServer.mk.injEq, Bool.and_true, Bool.and_eq_true, beq_iff_eq, decide_eq_true_eq]
theorem eqServer (a b : TServer) (h : a.ok) (k : Bool -> Option M) : F116 M a.xHost (rows kFile TFile.row a.xFiles) b.xHost (rows kFile TFile.row b.xFiles) k = k (decide (a = b)) := by
 obtain ⟨q0, q1, _⟩ := h
 simp only [F116, P116]
 refine Eq.trans ?_ (congrArg k (eqServer_iff a b))
 refine eqCut ?_
 refine (eqFileS a.xFiles b.xFiles q1 _).trans (eqCut ?_)
 rfl
theorem szServerS (a : List TServer) (l : Int) (h0 : 0 <= l) (h1 : l <= 1048576) (h : okL TServer.ok a) (k : Int -> Option M) : F51 M (rows kServer TServer.row a) l k = k (szL l (a.length + sumL TServer.size a)) :=
 szS_g (g := TServer.row) (fun e m k => F91 _ e.1 e.2.1 m k) (fun y m h0 h1 h k => szServer y m h0 h1 h k) a l h0 h1 h k
theorem toServerS (a : List TServer) (h : a.length + sumL TServer.size a <= 1048576) (k : List V -> Option M) : F57 M (rows kServer TServer.row a) k = k (rows kServer TServer.row a) :=
 toS_g (g := TServer.row) (z := TServer.nul) (fun e k => F103 _ e.1 e.2.1 fun v0 v1 => k [.str v0, .sl 7 true v1]) (fun y h k => toServer y h _) (by decide) rfl a h k
theorem eqServerS (a b : List TServer) (h : okL TServer.ok a) (k : Bool -> Option M) : F66 M (rows kServer TServer.row a) (rows kServer TServer.row b) k = k (decide (a = b)) :=
 eqS_g (g := TServer.row) (fun e e2 k => F116 _ e.1 e.2.1 e2.1 e2.2.1 k) (fun x y h k => eqServer x y h k) a b h k
def TAddr.nul : TAddr := ⟨[], []⟩
def TAddr.size (a : TAddr) : Nat := a.xHost.length + (a.xPath.length + (0))
def TAddr.ok (a : TAddr) : Prop := okS a.xHost /\ okS a.xPath /\ True
theorem szAddr (a : TAddr) (l : Int) (h0 : 0 <= l) (h1 : l <= 1048576) (h : a.ok) (k : Int -> Option M) : F71 M a.xHost a.xPath l k = k (szL l a.size) := by
 obtain ⟨q0, q1, _⟩ := h
 unfold TAddr.size
 simp only [F71, P71]
 refine szCut h0 h1 q0 (fun m0 e0 h0 h1 => ?_)
 rw [e0]
 refine szCut h0 h1 q1 (fun m1 e1 h0 h1 => ?_)
 rw [e1]
 exact szEnd h0
theorem toAddr (a : TAddr) (h : a.size <= 1048576) (k : List UInt8 -> List UInt8 -> Option M) : F79 M a.xHost a.xPath k = k a.xHost a.xPath := by
 unfold TAddr.size at h
 simp only [F79, P79]
theorem eqAddr_iff (a b : TAddr) : ((a.xHost == b.xHost) && ((a.xPath == b.xPath) && (true))) = decide (a = b) := by
 cases a; cases b
 rw [Bool.eq_iff_iff]
 simp only [TAddr.mk.injEq, Bool.and_true, Bool.and_eq_true, beq_iff_eq, decide_eq_true_eq]
theorem eqAddr (a b : TAddr) (h : a.ok) (k : Bool -> Option M) : F90 M a.xHost a.xPath b.xHost b.xPath k = k (decide (a = b)) := by
 obtain ⟨q0, q1, _⟩ := h
 simp only [F90, P90]
 refine Eq.trans ?_ (congrArg k (eqAddr_iff a b))
 refine eqCut ?_
 refine eqCut ?_
 rfl
theorem szAddrS (a : List TAddr) (l : Int) (h0 : 0 <= l) (h1 : l <= 1048576) (h : okL TAddr.ok a) (k : Int -> Option M) : F100 M (rows kAddr TAddr.row a) l k = k (szL l (a.length + sumL TAddr.size a)) :=
 szS_g (g := TAddr.row) (fun e m k => F71 _ e.1 e.2.1 m k) (fun y m h0 h1 h k => szAddr y m h0 h1 h k) a l h0 h1 h k
theorem toAddrS (a : List TAddr) (h : a.length + sumL TAddr.size a <= 1048576) (k : List V -> Option M) : F112 M (rows kAddr TAddr.row a) k = k (rows kAddr TAddr.row a) :=
 toS_g (g := TAddr.row) (z := TAddr.nul) (fun e k => F79 _ e.1 e.2.1 fun v0 v1 => k [.str v0, .str v1]) (fun y h k => toAddr y h _) (by decide) rfl a h k
theorem eqAddrS (a b : List TAddr) (h : okL TAddr.ok a) (k : Bool -> Option M) : F125 M (rows kAddr TAddr.row a) (rows kAddr TAddr.row b) k = k (decide (a = b)) :=
 eqS_g (g := TAddr.row) (fun e e2 k => F90 _ e.1 e.2.1 e2.1 e2.2.1 k) (fun x y h k => eqAddr x y h k) a b h k
def TEntry.nul : TEntry := ⟨[], TAddr.nul, TResponse.nul, 0⟩
def TEntry.size (a : TEntry) : Nat := a.xTop.length + (TAddr.size a.xTo + (TResponse.size a.xResponse + (0)))
def TEntry.ok (a : TEntry) : Prop := okS a.xTop /\ TAddr.ok a.xTo /\ TResponse.ok a.xResponse /\ okI a.xUntil /\ True
theorem szEntry (a : TEntry) (l : Int) (h0 : 0 <= l) (h1 : l <= 1048576) (h : a.ok) (k : Int -> Option M) : F147 M a.xTop a.xTo.xHost a.xTo.xPath a.xResponse.xStatus a.xResponse.xKind a.xResponse.xBody a.xResponse.xAge a.xResponse.xShares a.xResponse.xPolicy a.xUntil l k = k (szL l a.size) := by
 obtain ⟨q0, q1, q2, q3, _⟩ := h
 unfold TEntry.size
 simp only [F147, P147]
 refine szCut h0 h1 q0 (fun m0 e0 h0 h1 => ?_)
 rw [e0]
 refine (szAddr a.xTo _ h0 h1 q1 _).trans (szSub h0 h1 (fun m1 e1 h0 h1 => ?_))
 rw [e1]
 refine (szResponse a.xResponse _ h0 h1 q2 _).trans (szSub h0 h1 (fun m2 e2 h0 h1 => ?_))
 rw [e2]
 exact szEnd h0
theorem toEntry (a : TEntry) (h : a.size <= 1048576) (k : List UInt8 -> List UInt8 -> List UInt8 -> Int -> Int -> List UInt8 -> Int -> Bool -> List UInt8 -> Int -> Option M) : F155 M a.xTop a.xTo.xHost a.xTo.xPath a.xResponse.xStatus a.xResponse.xKind a.xResponse.xBody a.xResponse.xAge a.xResponse.xShares a.xResponse.xPolicy a.xUntil k = k a.xTop a.xTo.xHost a.xTo.xPath a.xResponse.xStatus a.xResponse.xKind a.xResponse.xBody a.xResponse.xAge a.xResponse.xShares a.xResponse.xPolicy a.xUntil := by
 unfold TEntry.size at h
 simp only [F155, P155]
 exact (toAddr a.xTo (by omega) _).trans ((toResponse a.xResponse (by omega) _).trans (rfl))
theorem eqEntry_iff (a b : TEntry) : ((a.xTop == b.xTop) && (decide (a.xTo = b.xTo) && (decide (a.xResponse = b.xResponse) && ((a.xUntil == b.xUntil) && (true))))) = decide (a = b) := by
 cases a; cases b
 rw [Bool.eq_iff_iff]
 simp only [TEntry.mk.injEq, Bool.and_true, Bool.and_eq_true, beq_iff_eq, decide_eq_true_eq]
theorem eqEntry (a b : TEntry) (h : a.ok) (k : Bool -> Option M) : F164 M a.xTop a.xTo.xHost a.xTo.xPath a.xResponse.xStatus a.xResponse.xKind a.xResponse.xBody a.xResponse.xAge a.xResponse.xShares a.xResponse.xPolicy a.xUntil b.xTop b.xTo.xHost b.xTo.xPath b.xResponse.xStatus b.xResponse.xKind b.xResponse.xBody b.xResponse.xAge b.xResponse.xShares b.xResponse.xPolicy b.xUntil k = k (decide (a = b)) := by
 obtain ⟨q0, q1, q2, q3, _⟩ := h
 simp only [F164, P164]
 refine Eq.trans ?_ (congrArg k (eqEntry_iff a b))
 refine eqCut ?_
 refine (eqAddr a.xTo b.xTo q1 _).trans (eqCut ?_)
 refine (eqResponse a.xResponse b.xResponse q2 _).trans (eqCut ?_)
 refine eqCut ?_
 rfl
theorem szEntryS (a : List TEntry) (l : Int) (h0 : 0 <= l) (h1 : l <= 1048576) (h : okL TEntry.ok a) (k : Int -> Option M) : F92 M (rows kEntry TEntry.row a) l k = k (szL l (a.length + sumL TEntry.size a)) :=
 szS_g (g := TEntry.row) (fun e m k => F147 _ e.1 e.2.1 e.2.2.1 e.2.2.2.1 e.2.2.2.2.1 e.2.2.2.2.2.1 e.2.2.2.2.2.2.1 e.2.2.2.2.2.2.2.1 e.2.2.2.2.2.2.2.2.1 e.2.2.2.2.2.2.2.2.2.1 m k) (fun y m h0 h1 h k => szEntry y m h0 h1 h k) a l h0 h1 h k
theorem toEntryS (a : List TEntry) (h : a.length + sumL TEntry.size a <= 1048576) (k : List V -> Option M) : F104 M (rows kEntry TEntry.row a) k = k (rows kEntry TEntry.row a) :=
 toS_g (g := TEntry.row) (z := TEntry.nul) (fun e k => F155 _ e.1 e.2.1 e.2.2.1 e.2.2.2.1 e.2.2.2.2.1 e.2.2.2.2.2.1 e.2.2.2.2.2.2.1 e.2.2.2.2.2.2.2.1 e.2.2.2.2.2.2.2.2.1 e.2.2.2.2.2.2.2.2.2.1 fun v0 v1 v2 v3 v4 v5 v6 v7 v8 v9 => k [.str v0, .str v1, .str v2, .int .i64 v3, .int .i64 v4, .str v5, .int .i64 v6, .bool v7, .str v8, .int .i64 v9]) (fun y h k => toEntry y h _) (by decide) rfl a h k
theorem eqEntryS (a b : List TEntry) (h : okL TEntry.ok a) (k : Bool -> Option M) : F117 M (rows kEntry TEntry.row a) (rows kEntry TEntry.row b) k = k (decide (a = b)) :=
 eqS_g (g := TEntry.row) (fun e e2 k => F164 _ e.1 e.2.1 e.2.2.1 e.2.2.2.1 e.2.2.2.2.1 e.2.2.2.2.2.1 e.2.2.2.2.2.2.1 e.2.2.2.2.2.2.2.1 e.2.2.2.2.2.2.2.2.1 e.2.2.2.2.2.2.2.2.2.1 e2.1 e2.2.1 e2.2.2.1 e2.2.2.2.1 e2.2.2.2.2.1 e2.2.2.2.2.2.1 e2.2.2.2.2.2.2.1 e2.2.2.2.2.2.2.2.1 e2.2.2.2.2.2.2.2.2.1 e2.2.2.2.2.2.2.2.2.2.1 k) (fun x y h k => eqEntry x y h k) a b h k
def TCache.nul : TCache := ⟨[]⟩
def TCache.size (a : TCache) : Nat := (a.xEntries.length + sumL TEntry.size a.xEntries) + (0)
def TCache.ok (a : TCache) : Prop := okL TEntry.ok a.xEntries /\ True
theorem szCache (a : TCache) (l : Int) (h0 : 0 <= l) (h1 : l <= 1048576) (h : a.ok) (k : Int -> Option M) : F52 M (rows kEntry TEntry.row a.xEntries) l k = k (szL l a.size) := by
 obtain ⟨q0, _⟩ := h
 unfold TCache.size
 simp only [F52, P52]
 refine (szEntryS a.xEntries _ h0 h1 q0 _).trans (szSub h0 h1 (fun m0 e0 h0 h1 => ?_))
 rw [e0]
 exact szEnd h0
theorem toCache (a : TCache) (h : a.size <= 1048576) (k : List V -> Option M) : F58 M (rows kEntry TEntry.row a.xEntries) k = k (rows kEntry TEntry.row a.xEntries) := by
 unfold TCache.size at h
 simp only [F58, P58]
 exact (toEntryS a.xEntries (by omega) _).trans (rfl)
theorem eqCache_iff (a b : TCache) : (decide (a.xEntries = b.xEntries) && (true)) = decide (a = b) := by
 cases a; cases b
 rw [Bool.eq_iff_iff]
 simp only [TCache.mk.injEq, Bool.and_true, Bool.and_eq_true, beq_iff_eq, decide_eq_true_eq]
theorem eqCache (a b : TCache) (h : a.ok) (k : Bool -> Option M) : F67 M (rows kEntry TEntry.row a.xEntries) (rows kEntry TEntry.row b.xEntries) k = k (decide (a = b)) := by
 obtain ⟨q0, _⟩ := h
 simp only [F67, P67]
 refine Eq.trans ?_ (congrArg k (eqCache_iff a b))
 refine (eqEntryS a.xEntries b.xEntries q0 _).trans (eqCut ?_)
 rfl
def TSent.nul : TSent := ⟨[], TAddr.nul, false⟩
def TSent.size (a : TSent) : Nat := a.xTop.length + (TAddr.size a.xTo + (0))
def TSent.ok (a : TSent) : Prop := okS a.xTop /\ TAddr.ok a.xTo /\ True /\ True
theorem szSent (a : TSent) (l : Int) (h0 : 0 <= l) (h1 : l <= 1048576) (h : a.ok) (k : Int -> Option M) : F93 M a.xTop a.xTo.xHost a.xTo.xPath a.xGuess l k = k (szL l a.size) := by
 obtain ⟨q0, q1, q2, _⟩ := h
 unfold TSent.size
 simp only [F93, P93]
 refine szCut h0 h1 q0 (fun m0 e0 h0 h1 => ?_)
 rw [e0]
 refine (szAddr a.xTo _ h0 h1 q1 _).trans (szSub h0 h1 (fun m1 e1 h0 h1 => ?_))
 rw [e1]
 exact szEnd h0
theorem toSent (a : TSent) (h : a.size <= 1048576) (k : List UInt8 -> List UInt8 -> List UInt8 -> Bool -> Option M) : F105 M a.xTop a.xTo.xHost a.xTo.xPath a.xGuess k = k a.xTop a.xTo.xHost a.xTo.xPath a.xGuess := by
 unfold TSent.size at h
 simp only [F105, P105]
 exact (toAddr a.xTo (by omega) _).trans (rfl)
theorem eqSent_iff (a b : TSent) : ((a.xTop == b.xTop) && (decide (a.xTo = b.xTo) && ((a.xGuess == b.xGuess) && (true)))) = decide (a = b) := by
 cases a; cases b
 rw [Bool.eq_iff_iff]
 simp only [TSent.mk.injEq, Bool.and_true, Bool.and_eq_true, beq_iff_eq, decide_eq_true_eq]
theorem eqSent (a b : TSent) (h : a.ok) (k : Bool -> Option M) : F118 M a.xTop a.xTo.xHost a.xTo.xPath a.xGuess b.xTop b.xTo.xHost b.xTo.xPath b.xGuess k = k (decide (a = b)) := by
 obtain ⟨q0, q1, q2, _⟩ := h
 simp only [F118, P118]
 refine Eq.trans ?_ (congrArg k (eqSent_iff a b))
 refine eqCut ?_
 refine (eqAddr a.xTo b.xTo q1 _).trans (eqCut ?_)
 refine eqCut ?_
 rfl
theorem szSentS (a : List TSent) (l : Int) (h0 : 0 <= l) (h1 : l <= 1048576) (h : okL TSent.ok a) (k : Int -> Option M) : F53 M (rows kSent TSent.row a) l k = k (szL l (a.length + sumL TSent.size a)) :=
 szS_g (g := TSent.row) (fun e m k => F93 _ e.1 e.2.1 e.2.2.1 e.2.2.2.1 m k) (fun y m h0 h1 h k => szSent y m h0 h1 h k) a l h0 h1 h k
theorem toSentS (a : List TSent) (h : a.length + sumL TSent.size a <= 1048576) (k : List V -> Option M) : F59 M (rows kSent TSent.row a) k = k (rows kSent TSent.row a) :=
 toS_g (g := TSent.row) (z := TSent.nul) (fun e k => F105 _ e.1 e.2.1 e.2.2.1 e.2.2.2.1 fun v0 v1 v2 v3 => k [.str v0, .str v1, .str v2, .bool v3]) (fun y h k => toSent y h _) (by decide) rfl a h k
theorem eqSentS (a b : List TSent) (h : okL TSent.ok a) (k : Bool -> Option M) : F68 M (rows kSent TSent.row a) (rows kSent TSent.row b) k = k (decide (a = b)) :=
 eqS_g (g := TSent.row) (fun e e2 k => F118 _ e.1 e.2.1 e.2.2.1 e.2.2.2.1 e2.1 e2.2.1 e2.2.2.1 e2.2.2.2.1 k) (fun x y h k => eqSent x y h k) a b h k
def TNet.nul : TNet := ⟨[], TCache.nul, [], 0⟩
def TNet.size (a : TNet) : Nat := (a.xServers.length + sumL TServer.size a.xServers) + (TCache.size a.xCache + ((a.xLog.length + sumL TSent.size a.xLog) + (0)))
def TNet.ok (a : TNet) : Prop := okL TServer.ok a.xServers /\ TCache.ok a.xCache /\ okL TSent.ok a.xLog /\ okI a.xNow /\ True
theorem szNet (a : TNet) (l : Int) (h0 : 0 <= l) (h1 : l <= 1048576) (h : a.ok) (k : Int -> Option M) : F24 M (rows kServer TServer.row a.xServers) (rows kEntry TEntry.row a.xCache.xEntries) (rows kSent TSent.row a.xLog) a.xNow l k = k (szL l a.size) := by
 obtain ⟨q0, q1, q2, q3, _⟩ := h
 unfold TNet.size
 simp only [F24, P24]
 refine (szServerS a.xServers _ h0 h1 q0 _).trans (szSub h0 h1 (fun m0 e0 h0 h1 => ?_))
 rw [e0]
 refine (szCache a.xCache _ h0 h1 q1 _).trans (szSub h0 h1 (fun m1 e1 h0 h1 => ?_))
 rw [e1]
 refine (szSentS a.xLog _ h0 h1 q2 _).trans (szSub h0 h1 (fun m2 e2 h0 h1 => ?_))
 rw [e2]
 exact szEnd h0
theorem toNet (a : TNet) (h : a.size <= 1048576) (k : List V -> List V -> List V -> Int -> Option M) : F28 M (rows kServer TServer.row a.xServers) (rows kEntry TEntry.row a.xCache.xEntries) (rows kSent TSent.row a.xLog) a.xNow k = k (rows kServer TServer.row a.xServers) (rows kEntry TEntry.row a.xCache.xEntries) (rows kSent TSent.row a.xLog) a.xNow := by
 unfold TNet.size at h
 simp only [F28, P28]
 exact (toServerS a.xServers (by omega) _).trans ((toCache a.xCache (by omega) _).trans ((toSentS a.xLog (by omega) _).trans (rfl)))
theorem eqNet_iff (a b : TNet) : (decide (a.xServers = b.xServers) && (decide (a.xCache = b.xCache) && (decide (a.xLog = b.xLog) && ((a.xNow == b.xNow) && (true))))) = decide (a = b) := by
 cases a; cases b
 rw [Bool.eq_iff_iff]
 simp only [TNet.mk.injEq, Bool.and_true, Bool.and_eq_true, beq_iff_eq, decide_eq_true_eq]
theorem eqNet (a b : TNet) (h : a.ok) (k : Bool -> Option M) : F32 M (rows kServer TServer.row a.xServers) (rows kEntry TEntry.row a.xCache.xEntries) (rows kSent TSent.row a.xLog) a.xNow (rows kServer TServer.row b.xServers) (rows kEntry TEntry.row b.xCache.xEntries) (rows kSent TSent.row b.xLog) b.xNow k = k (decide (a = b)) := by
 obtain ⟨q0, q1, q2, q3, _⟩ := h
 simp only [F32, P32]
 refine Eq.trans ?_ (congrArg k (eqNet_iff a b))
 refine (eqServerS a.xServers b.xServers q0 _).trans (eqCut ?_)
 refine (eqCache a.xCache b.xCache q1 _).trans (eqCut ?_)
 refine (eqSentS a.xLog b.xLog q2 _).trans (eqCut ?_)
 refine eqCut ?_
 rfl
def TPolicy.nul : TPolicy := ⟨false, [], [], [], []⟩
def TPolicy.size (a : TPolicy) : Nat := (a.xScripts.length + sumL List.length a.xScripts) + ((a.xStyles.length + sumL List.length a.xStyles) + ((a.xImages.length + sumL List.length a.xImages) + (a.xNonce.length + (0))))
def TPolicy.ok (a : TPolicy) : Prop := True /\ okL okS a.xScripts /\ okL okS a.xStyles /\ okL okS a.xImages /\ okS a.xNonce /\ True
theorem szPolicy (a : TPolicy) (l : Int) (h0 : 0 <= l) (h1 : l <= 1048576) (h : a.ok) (k : Int -> Option M) : F94 M a.xSet (rStr a.xScripts) (rStr a.xStyles) (rStr a.xImages) a.xNonce l k = k (szL l a.size) := by
 obtain ⟨q0, q1, q2, q3, q4, _⟩ := h
 unfold TPolicy.size
 simp only [F94, P94]
 refine (szStringS a.xScripts _ h0 h1 q1 _).trans (szSub h0 h1 (fun m1 e1 h0 h1 => ?_))
 rw [e1]
 refine (szStringS a.xStyles _ h0 h1 q2 _).trans (szSub h0 h1 (fun m2 e2 h0 h1 => ?_))
 rw [e2]
 refine (szStringS a.xImages _ h0 h1 q3 _).trans (szSub h0 h1 (fun m3 e3 h0 h1 => ?_))
 rw [e3]
 refine szCut h0 h1 q4 (fun m4 e4 h0 h1 => ?_)
 rw [e4]
 exact szEnd h0
theorem toPolicy (a : TPolicy) (h : a.size <= 1048576) (k : Bool -> List V -> List V -> List V -> List UInt8 -> Option M) : F106 M a.xSet (rStr a.xScripts) (rStr a.xStyles) (rStr a.xImages) a.xNonce k = k a.xSet (rStr a.xScripts) (rStr a.xStyles) (rStr a.xImages) a.xNonce := by
 unfold TPolicy.size at h
 simp only [F106, P106]
 exact (toStringS a.xScripts (by omega) _).trans ((toStringS a.xStyles (by omega) _).trans ((toStringS a.xImages (by omega) _).trans (rfl)))
theorem eqPolicy_iff (a b : TPolicy) : ((a.xSet == b.xSet) && (decide (a.xScripts = b.xScripts) && (decide (a.xStyles = b.xStyles) && (decide (a.xImages = b.xImages) && ((a.xNonce == b.xNonce) && (true)))))) = decide (a = b) := by
 cases a; cases b
 rw [Bool.eq_iff_iff]
 simp only [TPolicy.mk.injEq, Bool.and_true, Bool.and_eq_true, beq_iff_eq, decide_eq_true_eq]
theorem eqPolicy (a b : TPolicy) (h : a.ok) (k : Bool -> Option M) : F119 M a.xSet (rStr a.xScripts) (rStr a.xStyles) (rStr a.xImages) a.xNonce b.xSet (rStr b.xScripts) (rStr b.xStyles) (rStr b.xImages) b.xNonce k = k (decide (a = b)) := by
 obtain ⟨q0, q1, q2, q3, q4, _⟩ := h
 simp only [F119, P119]
 refine Eq.trans ?_ (congrArg k (eqPolicy_iff a b))
 refine eqCut ?_
 refine (eqStringS a.xScripts b.xScripts q1 _).trans (eqCut ?_)
 refine (eqStringS a.xStyles b.xStyles q2 _).trans (eqCut ?_)
 refine (eqStringS a.xImages b.xImages q3 _).trans (eqCut ?_)
 refine eqCut ?_
 rfl
def TTokenizer.nul : TTokenizer := ⟨[]⟩
def TTokenizer.size (a : TTokenizer) : Nat := a.xRest.length + (0)
def TTokenizer.ok (a : TTokenizer) : Prop := okS a.xRest /\ True
theorem szTokenizer (a : TTokenizer) (l : Int) (h0 : 0 <= l) (h1 : l <= 1048576) (h : a.ok) (k : Int -> Option M) : F95 M a.xRest l k = k (szL l a.size) := by
 obtain ⟨q0, _⟩ := h
 unfold TTokenizer.size
 simp only [F95, P95]
 refine szCut h0 h1 q0 (fun m0 e0 h0 h1 => ?_)
 rw [e0]
 exact szEnd h0
theorem toTokenizer (a : TTokenizer) (h : a.size <= 1048576) (k : List UInt8 -> Option M) : F107 M a.xRest k = k a.xRest := by
 unfold TTokenizer.size at h
 simp only [F107, P107]
theorem eqTokenizer_iff (a b : TTokenizer) : ((a.xRest == b.xRest) && (true)) = decide (a = b) := by
 cases a; cases b
 rw [Bool.eq_iff_iff]
 simp only [TTokenizer.mk.injEq, Bool.and_true, Bool.and_eq_true, beq_iff_eq, decide_eq_true_eq]
theorem eqTokenizer (a b : TTokenizer) (h : a.ok) (k : Bool -> Option M) : F120 M a.xRest b.xRest k = k (decide (a = b)) := by
 obtain ⟨q0, _⟩ := h
 simp only [F120, P120]
 refine Eq.trans ?_ (congrArg k (eqTokenizer_iff a b))
 refine eqCut ?_
 rfl
def TAttr.nul : TAttr := ⟨[], []⟩
def TAttr.size (a : TAttr) : Nat := a.xName.length + (a.xValue.length + (0))
def TAttr.ok (a : TAttr) : Prop := okS a.xName /\ okS a.xValue /\ True
theorem szAttr (a : TAttr) (l : Int) (h0 : 0 <= l) (h1 : l <= 1048576) (h : a.ok) (k : Int -> Option M) : F211 M a.xName a.xValue l k = k (szL l a.size) := by
 obtain ⟨q0, q1, _⟩ := h
 unfold TAttr.size
 simp only [F211, P211]
 refine szCut h0 h1 q0 (fun m0 e0 h0 h1 => ?_)
 rw [e0]
 refine szCut h0 h1 q1 (fun m1 e1 h0 h1 => ?_)
 rw [e1]
 exact szEnd h0
theorem toAttr (a : TAttr) (h : a.size <= 1048576) (k : List UInt8 -> List UInt8 -> Option M) : F212 M a.xName a.xValue k = k a.xName a.xValue := by
 unfold TAttr.size at h
 simp only [F212, P212]
theorem eqAttr_iff (a b : TAttr) : ((a.xName == b.xName) && ((a.xValue == b.xValue) && (true))) = decide (a = b) := by
 cases a; cases b
 rw [Bool.eq_iff_iff]
 simp only [TAttr.mk.injEq, Bool.and_true, Bool.and_eq_true, beq_iff_eq, decide_eq_true_eq]
theorem eqAttr (a b : TAttr) (h : a.ok) (k : Bool -> Option M) : F213 M a.xName a.xValue b.xName b.xValue k = k (decide (a = b)) := by
 obtain ⟨q0, q1, _⟩ := h
 simp only [F213, P213]
 refine Eq.trans ?_ (congrArg k (eqAttr_iff a b))
 refine eqCut ?_
 refine eqCut ?_
 rfl
theorem szAttrS (a : List TAttr) (l : Int) (h0 : 0 <= l) (h1 : l <= 1048576) (h : okL TAttr.ok a) (k : Int -> Option M) : F190 M (rows kAttr TAttr.row a) l k = k (szL l (a.length + sumL TAttr.size a)) :=
 szS_g (g := TAttr.row) (fun e m k => F211 _ e.1 e.2.1 m k) (fun y m h0 h1 h k => szAttr y m h0 h1 h k) a l h0 h1 h k
theorem toAttrS (a : List TAttr) (h : a.length + sumL TAttr.size a <= 1048576) (k : List V -> Option M) : F193 M (rows kAttr TAttr.row a) k = k (rows kAttr TAttr.row a) :=
 toS_g (g := TAttr.row) (z := TAttr.nul) (fun e k => F212 _ e.1 e.2.1 fun v0 v1 => k [.str v0, .str v1]) (fun y h k => toAttr y h _) (by decide) rfl a h k
theorem eqAttrS (a b : List TAttr) (h : okL TAttr.ok a) (k : Bool -> Option M) : F196 M (rows kAttr TAttr.row a) (rows kAttr TAttr.row b) k = k (decide (a = b)) :=
 eqS_g (g := TAttr.row) (fun e e2 k => F213 _ e.1 e.2.1 e2.1 e2.2.1 k) (fun x y h k => eqAttr x y h k) a b h k
def TToken.nul : TToken := ⟨0, [], [], []⟩
def TToken.size (a : TToken) : Nat := a.xName.length + ((a.xAttrs.length + sumL TAttr.size a.xAttrs) + (a.xText.length + (0)))
def TToken.ok (a : TToken) : Prop := okI a.xKind /\ okS a.xName /\ okL TAttr.ok a.xAttrs /\ okS a.xText /\ True
theorem szToken (a : TToken) (l : Int) (h0 : 0 <= l) (h1 : l <= 1048576) (h : a.ok) (k : Int -> Option M) : F148 M a.xKind a.xName (rows kAttr TAttr.row a.xAttrs) a.xText l k = k (szL l a.size) := by
 obtain ⟨q0, q1, q2, q3, _⟩ := h
 unfold TToken.size
 simp only [F148, P148]
 refine szCut h0 h1 q1 (fun m1 e1 h0 h1 => ?_)
 rw [e1]
 refine (szAttrS a.xAttrs _ h0 h1 q2 _).trans (szSub h0 h1 (fun m2 e2 h0 h1 => ?_))
 rw [e2]
 refine szCut h0 h1 q3 (fun m3 e3 h0 h1 => ?_)
 rw [e3]
 exact szEnd h0
theorem toToken (a : TToken) (h : a.size <= 1048576) (k : Int -> List UInt8 -> List V -> List UInt8 -> Option M) : F156 M a.xKind a.xName (rows kAttr TAttr.row a.xAttrs) a.xText k = k a.xKind a.xName (rows kAttr TAttr.row a.xAttrs) a.xText := by
 unfold TToken.size at h
 simp only [F156, P156]
 exact (toAttrS a.xAttrs (by omega) _).trans (rfl)
theorem eqToken_iff (a b : TToken) : ((a.xKind == b.xKind) && ((a.xName == b.xName) && (decide (a.xAttrs = b.xAttrs) && ((a.xText == b.xText) && (true))))) = decide (a = b) := by
 cases a; cases b
 rw [Bool.eq_iff_iff]
 simp only [TToken.mk.injEq, Bool.and_true, Bool.and_eq_true, beq_iff_eq, decide_eq_true_eq]
theorem eqToken (a b : TToken) (h : a.ok) (k : Bool -> Option M) : F165 M a.xKind a.xName (rows kAttr TAttr.row a.xAttrs) a.xText b.xKind b.xName (rows kAttr TAttr.row b.xAttrs) b.xText k = k (decide (a = b)) := by
 obtain ⟨q0, q1, q2, q3, _⟩ := h
 simp only [F165, P165]
 refine Eq.trans ?_ (congrArg k (eqToken_iff a b))
 refine eqCut ?_
 refine eqCut ?_
 refine (eqAttrS a.xAttrs b.xAttrs q2 _).trans (eqCut ?_)
 refine eqCut ?_
 rfl
theorem szTokenS (a : List TToken) (l : Int) (h0 : 0 <= l) (h1 : l <= 1048576) (h : okL TToken.ok a) (k : Int -> Option M) : F96 M (rows kToken TToken.row a) l k = k (szL l (a.length + sumL TToken.size a)) :=
 szS_g (g := TToken.row) (fun e m k => F148 _ e.1 e.2.1 e.2.2.1 e.2.2.2.1 m k) (fun y m h0 h1 h k => szToken y m h0 h1 h k) a l h0 h1 h k
theorem toTokenS (a : List TToken) (h : a.length + sumL TToken.size a <= 1048576) (k : List V -> Option M) : F108 M (rows kToken TToken.row a) k = k (rows kToken TToken.row a) :=
 toS_g (g := TToken.row) (z := TToken.nul) (fun e k => F156 _ e.1 e.2.1 e.2.2.1 e.2.2.2.1 fun v0 v1 v2 v3 => k [.int .i64 v0, .str v1, .sl 2 true v2, .str v3]) (fun y h k => toToken y h _) (by decide) rfl a h k
theorem eqTokenS (a b : List TToken) (h : okL TToken.ok a) (k : Bool -> Option M) : F121 M (rows kToken TToken.row a) (rows kToken TToken.row b) k = k (decide (a = b)) :=
 eqS_g (g := TToken.row) (fun e e2 k => F165 _ e.1 e.2.1 e.2.2.1 e.2.2.2.1 e2.1 e2.2.1 e2.2.2.1 e2.2.2.2.1 k) (fun x y h k => eqToken x y h k) a b h k
def TNode.nul : TNode := ⟨[], [], 0, []⟩
def TNode.size (a : TNode) : Nat := a.xName.length + (a.xText.length + ((a.xAttrs.length + sumL TAttr.size a.xAttrs) + (0)))
def TNode.ok (a : TNode) : Prop := okS a.xName /\ okS a.xText /\ okI a.xParent /\ okL TAttr.ok a.xAttrs /\ True
theorem szNode (a : TNode) (l : Int) (h0 : 0 <= l) (h1 : l <= 1048576) (h : a.ok) (k : Int -> Option M) : F191 M a.xName a.xText a.xParent (rows kAttr TAttr.row a.xAttrs) l k = k (szL l a.size) := by
 obtain ⟨q0, q1, q2, q3, _⟩ := h
 unfold TNode.size
 simp only [F191, P191]
 refine szCut h0 h1 q0 (fun m0 e0 h0 h1 => ?_)
 rw [e0]
 refine szCut h0 h1 q1 (fun m1 e1 h0 h1 => ?_)
 rw [e1]
 refine (szAttrS a.xAttrs _ h0 h1 q3 _).trans (szSub h0 h1 (fun m3 e3 h0 h1 => ?_))
 rw [e3]
 exact szEnd h0
theorem toNode (a : TNode) (h : a.size <= 1048576) (k : List UInt8 -> List UInt8 -> Int -> List V -> Option M) : F194 M a.xName a.xText a.xParent (rows kAttr TAttr.row a.xAttrs) k = k a.xName a.xText a.xParent (rows kAttr TAttr.row a.xAttrs) := by
 unfold TNode.size at h
 simp only [F194, P194]
 exact (toAttrS a.xAttrs (by omega) _).trans (rfl)
theorem eqNode_iff (a b : TNode) : ((a.xName == b.xName) && ((a.xText == b.xText) && ((a.xParent == b.xParent) && (decide (a.xAttrs = b.xAttrs) && (true))))) = decide (a = b) := by
 cases a; cases b
 rw [Bool.eq_iff_iff]
 simp only [TNode.mk.injEq, Bool.and_true, Bool.and_eq_true, beq_iff_eq, decide_eq_true_eq]
theorem eqNode (a b : TNode) (h : a.ok) (k : Bool -> Option M) : F197 M a.xName a.xText a.xParent (rows kAttr TAttr.row a.xAttrs) b.xName b.xText b.xParent (rows kAttr TAttr.row b.xAttrs) k = k (decide (a = b)) := by
 obtain ⟨q0, q1, q2, q3, _⟩ := h
 simp only [F197, P197]
 refine Eq.trans ?_ (congrArg k (eqNode_iff a b))
 refine eqCut ?_
 refine eqCut ?_
 refine eqCut ?_
 refine (eqAttrS a.xAttrs b.xAttrs q3 _).trans (eqCut ?_)
 rfl
theorem szNodeS (a : List TNode) (l : Int) (h0 : 0 <= l) (h1 : l <= 1048576) (h : okL TNode.ok a) (k : Int -> Option M) : F149 M (rows kNode TNode.row a) l k = k (szL l (a.length + sumL TNode.size a)) :=
 szS_g (g := TNode.row) (fun e m k => F191 _ e.1 e.2.1 e.2.2.1 e.2.2.2.1 m k) (fun y m h0 h1 h k => szNode y m h0 h1 h k) a l h0 h1 h k
theorem toNodeS (a : List TNode) (h : a.length + sumL TNode.size a <= 1048576) (k : List V -> Option M) : F157 M (rows kNode TNode.row a) k = k (rows kNode TNode.row a) :=
 toS_g (g := TNode.row) (z := TNode.nul) (fun e k => F194 _ e.1 e.2.1 e.2.2.1 e.2.2.2.1 fun v0 v1 v2 v3 => k [.str v0, .str v1, .int .i64 v2, .sl 2 true v3]) (fun y h k => toNode y h _) (by decide) rfl a h k
theorem eqNodeS (a b : List TNode) (h : okL TNode.ok a) (k : Bool -> Option M) : F166 M (rows kNode TNode.row a) (rows kNode TNode.row b) k = k (decide (a = b)) :=
 eqS_g (g := TNode.row) (fun e e2 k => F197 _ e.1 e.2.1 e.2.2.1 e.2.2.2.1 e2.1 e2.2.1 e2.2.2.1 e2.2.2.2.1 k) (fun x y h k => eqNode x y h k) a b h k
def TBuilder.nul : TBuilder := ⟨[], []⟩
def TBuilder.size (a : TBuilder) : Nat := (a.xNodes.length + sumL TNode.size a.xNodes) + (a.xOpen.length + (0))
def TBuilder.ok (a : TBuilder) : Prop := okL TNode.ok a.xNodes /\ okL okI a.xOpen /\ True
theorem szBuilder (a : TBuilder) (l : Int) (h0 : 0 <= l) (h1 : l <= 1048576) (h : a.ok) (k : Int -> Option M) : F97 M (rows kNode TNode.row a.xNodes) (rInt a.xOpen) l k = k (szL l a.size) := by
 obtain ⟨q0, q1, _⟩ := h
 unfold TBuilder.size
 simp only [F97, P97]
 refine (szNodeS a.xNodes _ h0 h1 q0 _).trans (szSub h0 h1 (fun m0 e0 h0 h1 => ?_))
 rw [e0]
 refine (szIntS a.xOpen _ h0 h1 q1 _).trans (szSub h0 h1 (fun m1 e1 h0 h1 => ?_))
 rw [e1]
 exact szEnd h0
theorem toBuilder (a : TBuilder) (h : a.size <= 1048576) (k : List V -> List V -> Option M) : F109 M (rows kNode TNode.row a.xNodes) (rInt a.xOpen) k = k (rows kNode TNode.row a.xNodes) (rInt a.xOpen) := by
 unfold TBuilder.size at h
 simp only [F109, P109]
 exact (toNodeS a.xNodes (by omega) _).trans ((toIntS a.xOpen (by omega) _).trans (rfl))
theorem eqBuilder_iff (a b : TBuilder) : (decide (a.xNodes = b.xNodes) && (decide (a.xOpen = b.xOpen) && (true))) = decide (a = b) := by
 cases a; cases b
 rw [Bool.eq_iff_iff]
 simp only [TBuilder.mk.injEq, Bool.and_true, Bool.and_eq_true, beq_iff_eq, decide_eq_true_eq]
theorem eqBuilder (a b : TBuilder) (h : a.ok) (k : Bool -> Option M) : F122 M (rows kNode TNode.row a.xNodes) (rInt a.xOpen) (rows kNode TNode.row b.xNodes) (rInt b.xOpen) k = k (decide (a = b)) := by
 obtain ⟨q0, q1, _⟩ := h
 simp only [F122, P122]
 refine Eq.trans ?_ (congrArg k (eqBuilder_iff a b))
 refine (eqNodeS a.xNodes b.xNodes q0 _).trans (eqCut ?_)
 refine (eqIntS a.xOpen b.xOpen q1 _).trans (eqCut ?_)
 rfl
def TSlot.nul : TSlot := ⟨0, TAddr.nul, [], 0, false, 0, []⟩
def TSlot.size (a : TSlot) : Nat := TAddr.size a.xTo + (a.xDigest.length + (a.xBody.length + (0)))
def TSlot.ok (a : TSlot) : Prop := okI a.xMode /\ TAddr.ok a.xTo /\ okS a.xDigest /\ okI a.xNode /\ True /\ okI a.xCode /\ okS a.xBody /\ True
theorem szSlot (a : TSlot) (l : Int) (h0 : 0 <= l) (h1 : l <= 1048576) (h : a.ok) (k : Int -> Option M) : F151 M a.xMode a.xTo.xHost a.xTo.xPath a.xDigest a.xNode a.xDone a.xCode a.xBody l k = k (szL l a.size) := by
 obtain ⟨q0, q1, q2, q3, q4, q5, q6, _⟩ := h
 unfold TSlot.size
 simp only [F151, P151]
 refine (szAddr a.xTo _ h0 h1 q1 _).trans (szSub h0 h1 (fun m1 e1 h0 h1 => ?_))
 rw [e1]
 refine szCut h0 h1 q2 (fun m2 e2 h0 h1 => ?_)
 rw [e2]
 refine szCut h0 h1 q6 (fun m6 e6 h0 h1 => ?_)
 rw [e6]
 exact szEnd h0
theorem toSlot (a : TSlot) (h : a.size <= 1048576) (k : Int -> List UInt8 -> List UInt8 -> List UInt8 -> Int -> Bool -> Int -> List UInt8 -> Option M) : F159 M a.xMode a.xTo.xHost a.xTo.xPath a.xDigest a.xNode a.xDone a.xCode a.xBody k = k a.xMode a.xTo.xHost a.xTo.xPath a.xDigest a.xNode a.xDone a.xCode a.xBody := by
 unfold TSlot.size at h
 simp only [F159, P159]
 exact (toAddr a.xTo (by omega) _).trans (rfl)
theorem eqSlot_iff (a b : TSlot) : ((a.xMode == b.xMode) && (decide (a.xTo = b.xTo) && ((a.xDigest == b.xDigest) && ((a.xNode == b.xNode) && ((a.xDone == b.xDone) && ((a.xCode == b.xCode) && ((a.xBody == b.xBody) && (true)))))))) = decide (a = b) := by
 cases a; cases b
 rw [Bool.eq_iff_iff]
 simp only [TSlot.mk.injEq, Bool.and_true, Bool.and_eq_true, beq_iff_eq, decide_eq_true_eq]
theorem eqSlot (a b : TSlot) (h : a.ok) (k : Bool -> Option M) : F168 M a.xMode a.xTo.xHost a.xTo.xPath a.xDigest a.xNode a.xDone a.xCode a.xBody b.xMode b.xTo.xHost b.xTo.xPath b.xDigest b.xNode b.xDone b.xCode b.xBody k = k (decide (a = b)) := by
 obtain ⟨q0, q1, q2, q3, q4, q5, q6, _⟩ := h
 simp only [F168, P168]
 refine Eq.trans ?_ (congrArg k (eqSlot_iff a b))
 refine eqCut ?_
 refine (eqAddr a.xTo b.xTo q1 _).trans (eqCut ?_)
 refine eqCut ?_
 refine eqCut ?_
 refine eqCut ?_
 refine eqCut ?_
 refine eqCut ?_
 rfl
theorem szSlotS (a : List TSlot) (l : Int) (h0 : 0 <= l) (h1 : l <= 1048576) (h : okL TSlot.ok a) (k : Int -> Option M) : F98 M (rows kSlot TSlot.row a) l k = k (szL l (a.length + sumL TSlot.size a)) :=
 szS_g (g := TSlot.row) (fun e m k => F151 _ e.1 e.2.1 e.2.2.1 e.2.2.2.1 e.2.2.2.2.1 e.2.2.2.2.2.1 e.2.2.2.2.2.2.1 e.2.2.2.2.2.2.2.1 m k) (fun y m h0 h1 h k => szSlot y m h0 h1 h k) a l h0 h1 h k
theorem toSlotS (a : List TSlot) (h : a.length + sumL TSlot.size a <= 1048576) (k : List V -> Option M) : F110 M (rows kSlot TSlot.row a) k = k (rows kSlot TSlot.row a) :=
 toS_g (g := TSlot.row) (z := TSlot.nul) (fun e k => F159 _ e.1 e.2.1 e.2.2.1 e.2.2.2.1 e.2.2.2.2.1 e.2.2.2.2.2.1 e.2.2.2.2.2.2.1 e.2.2.2.2.2.2.2.1 fun v0 v1 v2 v3 v4 v5 v6 v7 => k [.int .i64 v0, .str v1, .str v2, .str v3, .int .i64 v4, .bool v5, .int .i64 v6, .str v7]) (fun y h k => toSlot y h _) (by decide) rfl a h k
theorem eqSlotS (a b : List TSlot) (h : okL TSlot.ok a) (k : Bool -> Option M) : F123 M (rows kSlot TSlot.row a) (rows kSlot TSlot.row b) k = k (decide (a = b)) :=
 eqS_g (g := TSlot.row) (fun e e2 k => F168 _ e.1 e.2.1 e.2.2.1 e.2.2.2.1 e.2.2.2.2.1 e.2.2.2.2.2.1 e.2.2.2.2.2.2.1 e.2.2.2.2.2.2.2.1 e2.1 e2.2.1 e2.2.2.1 e2.2.2.2.1 e2.2.2.2.2.1 e2.2.2.2.2.2.1 e2.2.2.2.2.2.2.1 e2.2.2.2.2.2.2.2.1 k) (fun x y h k => eqSlot x y h k) a b h k
def TModule.nul : TModule := ⟨TAddr.nul, false, 0, []⟩
def TModule.size (a : TModule) : Nat := TAddr.size a.xTo + (a.xBody.length + (0))
def TModule.ok (a : TModule) : Prop := TAddr.ok a.xTo /\ True /\ okI a.xCode /\ okS a.xBody /\ True
theorem szModule (a : TModule) (l : Int) (h0 : 0 <= l) (h1 : l <= 1048576) (h : a.ok) (k : Int -> Option M) : F152 M a.xTo.xHost a.xTo.xPath a.xDone a.xCode a.xBody l k = k (szL l a.size) := by
 obtain ⟨q0, q1, q2, q3, _⟩ := h
 unfold TModule.size
 simp only [F152, P152]
 refine (szAddr a.xTo _ h0 h1 q0 _).trans (szSub h0 h1 (fun m0 e0 h0 h1 => ?_))
 rw [e0]
 refine szCut h0 h1 q3 (fun m3 e3 h0 h1 => ?_)
 rw [e3]
 exact szEnd h0
theorem toModule (a : TModule) (h : a.size <= 1048576) (k : List UInt8 -> List UInt8 -> Bool -> Int -> List UInt8 -> Option M) : F160 M a.xTo.xHost a.xTo.xPath a.xDone a.xCode a.xBody k = k a.xTo.xHost a.xTo.xPath a.xDone a.xCode a.xBody := by
 unfold TModule.size at h
 simp only [F160, P160]
 exact (toAddr a.xTo (by omega) _).trans (rfl)
theorem eqModule_iff (a b : TModule) : (decide (a.xTo = b.xTo) && ((a.xDone == b.xDone) && ((a.xCode == b.xCode) && ((a.xBody == b.xBody) && (true))))) = decide (a = b) := by
 cases a; cases b
 rw [Bool.eq_iff_iff]
 simp only [TModule.mk.injEq, Bool.and_true, Bool.and_eq_true, beq_iff_eq, decide_eq_true_eq]
theorem eqModule (a b : TModule) (h : a.ok) (k : Bool -> Option M) : F169 M a.xTo.xHost a.xTo.xPath a.xDone a.xCode a.xBody b.xTo.xHost b.xTo.xPath b.xDone b.xCode b.xBody k = k (decide (a = b)) := by
 obtain ⟨q0, q1, q2, q3, _⟩ := h
 simp only [F169, P169]
 refine Eq.trans ?_ (congrArg k (eqModule_iff a b))
 refine (eqAddr a.xTo b.xTo q0 _).trans (eqCut ?_)
 refine eqCut ?_
 refine eqCut ?_
 refine eqCut ?_
 rfl
theorem szModuleS (a : List TModule) (l : Int) (h0 : 0 <= l) (h1 : l <= 1048576) (h : okL TModule.ok a) (k : Int -> Option M) : F99 M (rows kModule TModule.row a) l k = k (szL l (a.length + sumL TModule.size a)) :=
 szS_g (g := TModule.row) (fun e m k => F152 _ e.1 e.2.1 e.2.2.1 e.2.2.2.1 e.2.2.2.2.1 m k) (fun y m h0 h1 h k => szModule y m h0 h1 h k) a l h0 h1 h k
theorem toModuleS (a : List TModule) (h : a.length + sumL TModule.size a <= 1048576) (k : List V -> Option M) : F111 M (rows kModule TModule.row a) k = k (rows kModule TModule.row a) :=
 toS_g (g := TModule.row) (z := TModule.nul) (fun e k => F160 _ e.1 e.2.1 e.2.2.1 e.2.2.2.1 e.2.2.2.2.1 fun v0 v1 v2 v3 v4 => k [.str v0, .str v1, .bool v2, .int .i64 v3, .str v4]) (fun y h k => toModule y h _) (by decide) rfl a h k
theorem eqModuleS (a b : List TModule) (h : okL TModule.ok a) (k : Bool -> Option M) : F124 M (rows kModule TModule.row a) (rows kModule TModule.row b) k = k (decide (a = b)) :=
 eqS_g (g := TModule.row) (fun e e2 k => F169 _ e.1 e.2.1 e.2.2.1 e.2.2.2.1 e.2.2.2.2.1 e2.1 e2.2.1 e2.2.2.1 e2.2.2.2.1 e2.2.2.2.2.1 k) (fun x y h k => eqModule x y h k) a b h k
def TPage.nul : TPage := ⟨TAddr.nul, TPolicy.nul, TTokenizer.nul, [], false, TBuilder.nul, [], [], [], 0, 0, 0, 0, [], [], false⟩
def TPage.size (a : TPage) : Nat := TAddr.size a.xAddr + (TPolicy.size a.xPolicy + (TTokenizer.size a.xTok + ((a.xQueue.length + sumL TToken.size a.xQueue) + (TBuilder.size a.xBuilder + ((a.xSlots.length + sumL TSlot.size a.xSlots) + ((a.xMods.length + sumL TModule.size a.xMods) + ((a.xEntries.length + sumL TAddr.size a.xEntries) + ((a.xRan.length + sumL TAddr.size a.xRan) + ((a.xLog.length + sumL List.length a.xLog) + (0))))))))))
def TPage.ok (a : TPage) : Prop := TAddr.ok a.xAddr /\ TPolicy.ok a.xPolicy /\ TTokenizer.ok a.xTok /\ okL TToken.ok a.xQueue /\ True /\ TBuilder.ok a.xBuilder /\ okL TSlot.ok a.xSlots /\ okL TModule.ok a.xMods /\ okL TAddr.ok a.xEntries /\ okI a.xBlock /\ okI a.xInline /\ okI a.xDeferred /\ okI a.xEntered /\ okL TAddr.ok a.xRan /\ okL okS a.xLog /\ True /\ True
theorem szPage (a : TPage) (l : Int) (h0 : 0 <= l) (h1 : l <= 1048576) (h : a.ok) (k : Int -> Option M) : F54 M a.xAddr.xHost a.xAddr.xPath a.xPolicy.xSet (rStr a.xPolicy.xScripts) (rStr a.xPolicy.xStyles) (rStr a.xPolicy.xImages) a.xPolicy.xNonce a.xTok.xRest (rows kToken TToken.row a.xQueue) a.xEnded (rows kNode TNode.row a.xBuilder.xNodes) (rInt a.xBuilder.xOpen) (rows kSlot TSlot.row a.xSlots) (rows kModule TModule.row a.xMods) (rows kAddr TAddr.row a.xEntries) a.xBlock a.xInline a.xDeferred a.xEntered (rows kAddr TAddr.row a.xRan) (rStr a.xLog) a.xLoaded l k = k (szL l a.size) := by
 obtain ⟨q0, q1, q2, q3, q4, q5, q6, q7, q8, q9, q10, q11, q12, q13, q14, q15, _⟩ := h
 unfold TPage.size
 simp only [F54, P54]
 refine (szAddr a.xAddr _ h0 h1 q0 _).trans (szSub h0 h1 (fun m0 e0 h0 h1 => ?_))
 rw [e0]
 refine (szPolicy a.xPolicy _ h0 h1 q1 _).trans (szSub h0 h1 (fun m1 e1 h0 h1 => ?_))
 rw [e1]
 refine (szTokenizer a.xTok _ h0 h1 q2 _).trans (szSub h0 h1 (fun m2 e2 h0 h1 => ?_))
 rw [e2]
 refine (szTokenS a.xQueue _ h0 h1 q3 _).trans (szSub h0 h1 (fun m3 e3 h0 h1 => ?_))
 rw [e3]
 refine (szBuilder a.xBuilder _ h0 h1 q5 _).trans (szSub h0 h1 (fun m5 e5 h0 h1 => ?_))
 rw [e5]
 refine (szSlotS a.xSlots _ h0 h1 q6 _).trans (szSub h0 h1 (fun m6 e6 h0 h1 => ?_))
 rw [e6]
 refine (szModuleS a.xMods _ h0 h1 q7 _).trans (szSub h0 h1 (fun m7 e7 h0 h1 => ?_))
 rw [e7]
 refine (szAddrS a.xEntries _ h0 h1 q8 _).trans (szSub h0 h1 (fun m8 e8 h0 h1 => ?_))
 rw [e8]
 refine (szAddrS a.xRan _ h0 h1 q13 _).trans (szSub h0 h1 (fun m13 e13 h0 h1 => ?_))
 rw [e13]
 refine (szStringS a.xLog _ h0 h1 q14 _).trans (szSub h0 h1 (fun m14 e14 h0 h1 => ?_))
 rw [e14]
 exact szEnd h0
theorem toPage (a : TPage) (h : a.size <= 1048576) (k : List UInt8 -> List UInt8 -> Bool -> List V -> List V -> List V -> List UInt8 -> List UInt8 -> List V -> Bool -> List V -> List V -> List V -> List V -> List V -> Int -> Int -> Int -> Int -> List V -> List V -> Bool -> Option M) : F60 M a.xAddr.xHost a.xAddr.xPath a.xPolicy.xSet (rStr a.xPolicy.xScripts) (rStr a.xPolicy.xStyles) (rStr a.xPolicy.xImages) a.xPolicy.xNonce a.xTok.xRest (rows kToken TToken.row a.xQueue) a.xEnded (rows kNode TNode.row a.xBuilder.xNodes) (rInt a.xBuilder.xOpen) (rows kSlot TSlot.row a.xSlots) (rows kModule TModule.row a.xMods) (rows kAddr TAddr.row a.xEntries) a.xBlock a.xInline a.xDeferred a.xEntered (rows kAddr TAddr.row a.xRan) (rStr a.xLog) a.xLoaded k = k a.xAddr.xHost a.xAddr.xPath a.xPolicy.xSet (rStr a.xPolicy.xScripts) (rStr a.xPolicy.xStyles) (rStr a.xPolicy.xImages) a.xPolicy.xNonce a.xTok.xRest (rows kToken TToken.row a.xQueue) a.xEnded (rows kNode TNode.row a.xBuilder.xNodes) (rInt a.xBuilder.xOpen) (rows kSlot TSlot.row a.xSlots) (rows kModule TModule.row a.xMods) (rows kAddr TAddr.row a.xEntries) a.xBlock a.xInline a.xDeferred a.xEntered (rows kAddr TAddr.row a.xRan) (rStr a.xLog) a.xLoaded := by
 unfold TPage.size at h
 simp only [F60, P60]
 exact (toAddr a.xAddr (by omega) _).trans ((toPolicy a.xPolicy (by omega) _).trans ((toTokenizer a.xTok (by omega) _).trans ((toTokenS a.xQueue (by omega) _).trans ((toBuilder a.xBuilder (by omega) _).trans ((toSlotS a.xSlots (by omega) _).trans ((toModuleS a.xMods (by omega) _).trans ((toAddrS a.xEntries (by omega) _).trans ((toAddrS a.xRan (by omega) _).trans ((toStringS a.xLog (by omega) _).trans (rfl))))))))))
theorem eqPage_iff (a b : TPage) : (decide (a.xAddr = b.xAddr) && (decide (a.xPolicy = b.xPolicy) && (decide (a.xTok = b.xTok) && (decide (a.xQueue = b.xQueue) && ((a.xEnded == b.xEnded) && (decide (a.xBuilder = b.xBuilder) && (decide (a.xSlots = b.xSlots) && (decide (a.xMods = b.xMods) && (decide (a.xEntries = b.xEntries) && ((a.xBlock == b.xBlock) && ((a.xInline == b.xInline) && ((a.xDeferred == b.xDeferred) && ((a.xEntered == b.xEntered) && (decide (a.xRan = b.xRan) && (decide (a.xLog = b.xLog) && ((a.xLoaded == b.xLoaded) && (true))))))))))))))))) = decide (a = b) := by
 cases a; cases b
 rw [Bool.eq_iff_iff]
 simp only [TPage.mk.injEq, Bool.and_true, Bool.and_eq_true, beq_iff_eq, decide_eq_true_eq]
theorem eqPage (a b : TPage) (h : a.ok) (k : Bool -> Option M) : F69 M a.xAddr.xHost a.xAddr.xPath a.xPolicy.xSet (rStr a.xPolicy.xScripts) (rStr a.xPolicy.xStyles) (rStr a.xPolicy.xImages) a.xPolicy.xNonce a.xTok.xRest (rows kToken TToken.row a.xQueue) a.xEnded (rows kNode TNode.row a.xBuilder.xNodes) (rInt a.xBuilder.xOpen) (rows kSlot TSlot.row a.xSlots) (rows kModule TModule.row a.xMods) (rows kAddr TAddr.row a.xEntries) a.xBlock a.xInline a.xDeferred a.xEntered (rows kAddr TAddr.row a.xRan) (rStr a.xLog) a.xLoaded b.xAddr.xHost b.xAddr.xPath b.xPolicy.xSet (rStr b.xPolicy.xScripts) (rStr b.xPolicy.xStyles) (rStr b.xPolicy.xImages) b.xPolicy.xNonce b.xTok.xRest (rows kToken TToken.row b.xQueue) b.xEnded (rows kNode TNode.row b.xBuilder.xNodes) (rInt b.xBuilder.xOpen) (rows kSlot TSlot.row b.xSlots) (rows kModule TModule.row b.xMods) (rows kAddr TAddr.row b.xEntries) b.xBlock b.xInline b.xDeferred b.xEntered (rows kAddr TAddr.row b.xRan) (rStr b.xLog) b.xLoaded k = k (decide (a = b)) := by
 obtain ⟨q0, q1, q2, q3, q4, q5, q6, q7, q8, q9, q10, q11, q12, q13, q14, q15, _⟩ := h
 simp only [F69, P69]
 refine Eq.trans ?_ (congrArg k (eqPage_iff a b))
 refine (eqAddr a.xAddr b.xAddr q0 _).trans (eqCut ?_)
 refine (eqPolicy a.xPolicy b.xPolicy q1 _).trans (eqCut ?_)
 refine (eqTokenizer a.xTok b.xTok q2 _).trans (eqCut ?_)
 refine (eqTokenS a.xQueue b.xQueue q3 _).trans (eqCut ?_)
 refine eqCut ?_
 refine (eqBuilder a.xBuilder b.xBuilder q5 _).trans (eqCut ?_)
 refine (eqSlotS a.xSlots b.xSlots q6 _).trans (eqCut ?_)
 refine (eqModuleS a.xMods b.xMods q7 _).trans (eqCut ?_)
 refine (eqAddrS a.xEntries b.xEntries q8 _).trans (eqCut ?_)
 refine eqCut ?_
 refine eqCut ?_
 refine eqCut ?_
 refine eqCut ?_
 refine (eqAddrS a.xRan b.xRan q13 _).trans (eqCut ?_)
 refine (eqStringS a.xLog b.xLog q14 _).trans (eqCut ?_)
 refine eqCut ?_
 rfl
def TVisit.nul : TVisit := ⟨TAddr.nul, TPage.nul, false⟩
def TVisit.size (a : TVisit) : Nat := TAddr.size a.xAddr + (TPage.size a.xPage + (0))
def TVisit.ok (a : TVisit) : Prop := TAddr.ok a.xAddr /\ TPage.ok a.xPage /\ True /\ True
theorem szVisit (a : TVisit) (l : Int) (h0 : 0 <= l) (h1 : l <= 1048576) (h : a.ok) (k : Int -> Option M) : F34 M a.xAddr.xHost a.xAddr.xPath a.xPage.xAddr.xHost a.xPage.xAddr.xPath a.xPage.xPolicy.xSet (rStr a.xPage.xPolicy.xScripts) (rStr a.xPage.xPolicy.xStyles) (rStr a.xPage.xPolicy.xImages) a.xPage.xPolicy.xNonce a.xPage.xTok.xRest (rows kToken TToken.row a.xPage.xQueue) a.xPage.xEnded (rows kNode TNode.row a.xPage.xBuilder.xNodes) (rInt a.xPage.xBuilder.xOpen) (rows kSlot TSlot.row a.xPage.xSlots) (rows kModule TModule.row a.xPage.xMods) (rows kAddr TAddr.row a.xPage.xEntries) a.xPage.xBlock a.xPage.xInline a.xPage.xDeferred a.xPage.xEntered (rows kAddr TAddr.row a.xPage.xRan) (rStr a.xPage.xLog) a.xPage.xLoaded a.xKept l k = k (szL l a.size) := by
 obtain ⟨q0, q1, q2, _⟩ := h
 unfold TVisit.size
 simp only [F34, P34]
 refine (szAddr a.xAddr _ h0 h1 q0 _).trans (szSub h0 h1 (fun m0 e0 h0 h1 => ?_))
 rw [e0]
 refine (szPage a.xPage _ h0 h1 q1 _).trans (szSub h0 h1 (fun m1 e1 h0 h1 => ?_))
 rw [e1]
 exact szEnd h0
theorem toVisit (a : TVisit) (h : a.size <= 1048576) (k : List UInt8 -> List UInt8 -> List UInt8 -> List UInt8 -> Bool -> List V -> List V -> List V -> List UInt8 -> List UInt8 -> List V -> Bool -> List V -> List V -> List V -> List V -> List V -> Int -> Int -> Int -> Int -> List V -> List V -> Bool -> Bool -> Option M) : F42 M a.xAddr.xHost a.xAddr.xPath a.xPage.xAddr.xHost a.xPage.xAddr.xPath a.xPage.xPolicy.xSet (rStr a.xPage.xPolicy.xScripts) (rStr a.xPage.xPolicy.xStyles) (rStr a.xPage.xPolicy.xImages) a.xPage.xPolicy.xNonce a.xPage.xTok.xRest (rows kToken TToken.row a.xPage.xQueue) a.xPage.xEnded (rows kNode TNode.row a.xPage.xBuilder.xNodes) (rInt a.xPage.xBuilder.xOpen) (rows kSlot TSlot.row a.xPage.xSlots) (rows kModule TModule.row a.xPage.xMods) (rows kAddr TAddr.row a.xPage.xEntries) a.xPage.xBlock a.xPage.xInline a.xPage.xDeferred a.xPage.xEntered (rows kAddr TAddr.row a.xPage.xRan) (rStr a.xPage.xLog) a.xPage.xLoaded a.xKept k = k a.xAddr.xHost a.xAddr.xPath a.xPage.xAddr.xHost a.xPage.xAddr.xPath a.xPage.xPolicy.xSet (rStr a.xPage.xPolicy.xScripts) (rStr a.xPage.xPolicy.xStyles) (rStr a.xPage.xPolicy.xImages) a.xPage.xPolicy.xNonce a.xPage.xTok.xRest (rows kToken TToken.row a.xPage.xQueue) a.xPage.xEnded (rows kNode TNode.row a.xPage.xBuilder.xNodes) (rInt a.xPage.xBuilder.xOpen) (rows kSlot TSlot.row a.xPage.xSlots) (rows kModule TModule.row a.xPage.xMods) (rows kAddr TAddr.row a.xPage.xEntries) a.xPage.xBlock a.xPage.xInline a.xPage.xDeferred a.xPage.xEntered (rows kAddr TAddr.row a.xPage.xRan) (rStr a.xPage.xLog) a.xPage.xLoaded a.xKept := by
 unfold TVisit.size at h
 simp only [F42, P42]
 exact (toAddr a.xAddr (by omega) _).trans ((toPage a.xPage (by omega) _).trans (rfl))
theorem eqVisit_iff (a b : TVisit) : (decide (a.xAddr = b.xAddr) && (decide (a.xPage = b.xPage) && ((a.xKept == b.xKept) && (true)))) = decide (a = b) := by
 cases a; cases b
 rw [Bool.eq_iff_iff]
 simp only [TVisit.mk.injEq, Bool.and_true, Bool.and_eq_true, beq_iff_eq, decide_eq_true_eq]
theorem eqVisit (a b : TVisit) (h : a.ok) (k : Bool -> Option M) : F50 M a.xAddr.xHost a.xAddr.xPath a.xPage.xAddr.xHost a.xPage.xAddr.xPath a.xPage.xPolicy.xSet (rStr a.xPage.xPolicy.xScripts) (rStr a.xPage.xPolicy.xStyles) (rStr a.xPage.xPolicy.xImages) a.xPage.xPolicy.xNonce a.xPage.xTok.xRest (rows kToken TToken.row a.xPage.xQueue) a.xPage.xEnded (rows kNode TNode.row a.xPage.xBuilder.xNodes) (rInt a.xPage.xBuilder.xOpen) (rows kSlot TSlot.row a.xPage.xSlots) (rows kModule TModule.row a.xPage.xMods) (rows kAddr TAddr.row a.xPage.xEntries) a.xPage.xBlock a.xPage.xInline a.xPage.xDeferred a.xPage.xEntered (rows kAddr TAddr.row a.xPage.xRan) (rStr a.xPage.xLog) a.xPage.xLoaded a.xKept b.xAddr.xHost b.xAddr.xPath b.xPage.xAddr.xHost b.xPage.xAddr.xPath b.xPage.xPolicy.xSet (rStr b.xPage.xPolicy.xScripts) (rStr b.xPage.xPolicy.xStyles) (rStr b.xPage.xPolicy.xImages) b.xPage.xPolicy.xNonce b.xPage.xTok.xRest (rows kToken TToken.row b.xPage.xQueue) b.xPage.xEnded (rows kNode TNode.row b.xPage.xBuilder.xNodes) (rInt b.xPage.xBuilder.xOpen) (rows kSlot TSlot.row b.xPage.xSlots) (rows kModule TModule.row b.xPage.xMods) (rows kAddr TAddr.row b.xPage.xEntries) b.xPage.xBlock b.xPage.xInline b.xPage.xDeferred b.xPage.xEntered (rows kAddr TAddr.row b.xPage.xRan) (rStr b.xPage.xLog) b.xPage.xLoaded b.xKept k = k (decide (a = b)) := by
 obtain ⟨q0, q1, q2, _⟩ := h
 simp only [F50, P50]
 refine Eq.trans ?_ (congrArg k (eqVisit_iff a b))
 refine (eqAddr a.xAddr b.xAddr q0 _).trans (eqCut ?_)
 refine (eqPage a.xPage b.xPage q1 _).trans (eqCut ?_)
 refine eqCut ?_
 rfl
theorem szVisitS (a : List TVisit) (l : Int) (h0 : 0 <= l) (h1 : l <= 1048576) (h : okL TVisit.ok a) (k : Int -> Option M) : F15 M (rows kVisit TVisit.row a) l k = k (szL l (a.length + sumL TVisit.size a)) :=
 szS_g (g := TVisit.row) (fun e m k => F34 _ e.1 e.2.1 e.2.2.1 e.2.2.2.1 e.2.2.2.2.1 e.2.2.2.2.2.1 e.2.2.2.2.2.2.1 e.2.2.2.2.2.2.2.1 e.2.2.2.2.2.2.2.2.1 e.2.2.2.2.2.2.2.2.2.1 e.2.2.2.2.2.2.2.2.2.2.1 e.2.2.2.2.2.2.2.2.2.2.2.1 e.2.2.2.2.2.2.2.2.2.2.2.2.1 e.2.2.2.2.2.2.2.2.2.2.2.2.2.1 e.2.2.2.2.2.2.2.2.2.2.2.2.2.2.1 e.2.2.2.2.2.2.2.2.2.2.2.2.2.2.2.1 e.2.2.2.2.2.2.2.2.2.2.2.2.2.2.2.2.1 e.2.2.2.2.2.2.2.2.2.2.2.2.2.2.2.2.2.1 e.2.2.2.2.2.2.2.2.2.2.2.2.2.2.2.2.2.2.1 e.2.2.2.2.2.2.2.2.2.2.2.2.2.2.2.2.2.2.2.1 e.2.2.2.2.2.2.2.2.2.2.2.2.2.2.2.2.2.2.2.2.1 e.2.2.2.2.2.2.2.2.2.2.2.2.2.2.2.2.2.2.2.2.2.1 e.2.2.2.2.2.2.2.2.2.2.2.2.2.2.2.2.2.2.2.2.2.2.1 e.2.2.2.2.2.2.2.2.2.2.2.2.2.2.2.2.2.2.2.2.2.2.2.1 e.2.2.2.2.2.2.2.2.2.2.2.2.2.2.2.2.2.2.2.2.2.2.2.2.1 m k) (fun y m h0 h1 h k => szVisit y m h0 h1 h k) a l h0 h1 h k
theorem toVisitS (a : List TVisit) (h : a.length + sumL TVisit.size a <= 1048576) (k : List V -> Option M) : F18 M (rows kVisit TVisit.row a) k = k (rows kVisit TVisit.row a) :=
 toS_g (g := TVisit.row) (z := TVisit.nul) (fun e k => F42 _ e.1 e.2.1 e.2.2.1 e.2.2.2.1 e.2.2.2.2.1 e.2.2.2.2.2.1 e.2.2.2.2.2.2.1 e.2.2.2.2.2.2.2.1 e.2.2.2.2.2.2.2.2.1 e.2.2.2.2.2.2.2.2.2.1 e.2.2.2.2.2.2.2.2.2.2.1 e.2.2.2.2.2.2.2.2.2.2.2.1 e.2.2.2.2.2.2.2.2.2.2.2.2.1 e.2.2.2.2.2.2.2.2.2.2.2.2.2.1 e.2.2.2.2.2.2.2.2.2.2.2.2.2.2.1 e.2.2.2.2.2.2.2.2.2.2.2.2.2.2.2.1 e.2.2.2.2.2.2.2.2.2.2.2.2.2.2.2.2.1 e.2.2.2.2.2.2.2.2.2.2.2.2.2.2.2.2.2.1 e.2.2.2.2.2.2.2.2.2.2.2.2.2.2.2.2.2.2.1 e.2.2.2.2.2.2.2.2.2.2.2.2.2.2.2.2.2.2.2.1 e.2.2.2.2.2.2.2.2.2.2.2.2.2.2.2.2.2.2.2.2.1 e.2.2.2.2.2.2.2.2.2.2.2.2.2.2.2.2.2.2.2.2.2.1 e.2.2.2.2.2.2.2.2.2.2.2.2.2.2.2.2.2.2.2.2.2.2.1 e.2.2.2.2.2.2.2.2.2.2.2.2.2.2.2.2.2.2.2.2.2.2.2.1 e.2.2.2.2.2.2.2.2.2.2.2.2.2.2.2.2.2.2.2.2.2.2.2.2.1 fun v0 v1 v2 v3 v4 v5 v6 v7 v8 v9 v10 v11 v12 v13 v14 v15 v16 v17 v18 v19 v20 v21 v22 v23 v24 => k [.str v0, .str v1, .str v2, .str v3, .bool v4, .sl 1 true v5, .sl 1 true v6, .sl 1 true v7, .str v8, .str v9, .sl 4 false v10, .bool v11, .sl 4 false v12, .sl 1 true v13, .sl 8 true v14, .sl 5 true v15, .sl 2 true v16, .int .i64 v17, .int .i64 v18, .int .i64 v19, .int .i64 v20, .sl 2 true v21, .sl 1 true v22, .bool v23, .bool v24]) (fun y h k => toVisit y h _) (by decide) rfl a h k
theorem eqVisitS (a b : List TVisit) (h : okL TVisit.ok a) (k : Bool -> Option M) : F23 M (rows kVisit TVisit.row a) (rows kVisit TVisit.row b) k = k (decide (a = b)) :=
 eqS_g (g := TVisit.row) (fun e e2 k => F50 _ e.1 e.2.1 e.2.2.1 e.2.2.2.1 e.2.2.2.2.1 e.2.2.2.2.2.1 e.2.2.2.2.2.2.1 e.2.2.2.2.2.2.2.1 e.2.2.2.2.2.2.2.2.1 e.2.2.2.2.2.2.2.2.2.1 e.2.2.2.2.2.2.2.2.2.2.1 e.2.2.2.2.2.2.2.2.2.2.2.1 e.2.2.2.2.2.2.2.2.2.2.2.2.1 e.2.2.2.2.2.2.2.2.2.2.2.2.2.1 e.2.2.2.2.2.2.2.2.2.2.2.2.2.2.1 e.2.2.2.2.2.2.2.2.2.2.2.2.2.2.2.1 e.2.2.2.2.2.2.2.2.2.2.2.2.2.2.2.2.1 e.2.2.2.2.2.2.2.2.2.2.2.2.2.2.2.2.2.1 e.2.2.2.2.2.2.2.2.2.2.2.2.2.2.2.2.2.2.1 e.2.2.2.2.2.2.2.2.2.2.2.2.2.2.2.2.2.2.2.1 e.2.2.2.2.2.2.2.2.2.2.2.2.2.2.2.2.2.2.2.2.1 e.2.2.2.2.2.2.2.2.2.2.2.2.2.2.2.2.2.2.2.2.2.1 e.2.2.2.2.2.2.2.2.2.2.2.2.2.2.2.2.2.2.2.2.2.2.1 e.2.2.2.2.2.2.2.2.2.2.2.2.2.2.2.2.2.2.2.2.2.2.2.1 e.2.2.2.2.2.2.2.2.2.2.2.2.2.2.2.2.2.2.2.2.2.2.2.2.1 e2.1 e2.2.1 e2.2.2.1 e2.2.2.2.1 e2.2.2.2.2.1 e2.2.2.2.2.2.1 e2.2.2.2.2.2.2.1 e2.2.2.2.2.2.2.2.1 e2.2.2.2.2.2.2.2.2.1 e2.2.2.2.2.2.2.2.2.2.1 e2.2.2.2.2.2.2.2.2.2.2.1 e2.2.2.2.2.2.2.2.2.2.2.2.1 e2.2.2.2.2.2.2.2.2.2.2.2.2.1 e2.2.2.2.2.2.2.2.2.2.2.2.2.2.1 e2.2.2.2.2.2.2.2.2.2.2.2.2.2.2.1 e2.2.2.2.2.2.2.2.2.2.2.2.2.2.2.2.1 e2.2.2.2.2.2.2.2.2.2.2.2.2.2.2.2.2.1 e2.2.2.2.2.2.2.2.2.2.2.2.2.2.2.2.2.2.1 e2.2.2.2.2.2.2.2.2.2.2.2.2.2.2.2.2.2.2.1 e2.2.2.2.2.2.2.2.2.2.2.2.2.2.2.2.2.2.2.2.1 e2.2.2.2.2.2.2.2.2.2.2.2.2.2.2.2.2.2.2.2.2.1 e2.2.2.2.2.2.2.2.2.2.2.2.2.2.2.2.2.2.2.2.2.2.1 e2.2.2.2.2.2.2.2.2.2.2.2.2.2.2.2.2.2.2.2.2.2.2.1 e2.2.2.2.2.2.2.2.2.2.2.2.2.2.2.2.2.2.2.2.2.2.2.2.1 e2.2.2.2.2.2.2.2.2.2.2.2.2.2.2.2.2.2.2.2.2.2.2.2.2.1 k) (fun x y h k => eqVisit x y h k) a b h k
def TTab.nul : TTab := ⟨[], 0⟩
def TTab.size (a : TTab) : Nat := (a.xVisits.length + sumL TVisit.size a.xVisits) + (0)
def TTab.ok (a : TTab) : Prop := okL TVisit.ok a.xVisits /\ okI a.xAt /\ True
theorem szTab (a : TTab) (l : Int) (h0 : 0 <= l) (h1 : l <= 1048576) (h : a.ok) (k : Int -> Option M) : F5 M (rows kVisit TVisit.row a.xVisits) a.xAt l k = k (szL l a.size) := by
 obtain ⟨q0, q1, _⟩ := h
 unfold TTab.size
 simp only [F5, P5]
 refine (szVisitS a.xVisits _ h0 h1 q0 _).trans (szSub h0 h1 (fun m0 e0 h0 h1 => ?_))
 rw [e0]
 exact szEnd h0
theorem toTab (a : TTab) (h : a.size <= 1048576) (k : List V -> Int -> Option M) : F7 M (rows kVisit TVisit.row a.xVisits) a.xAt k = k (rows kVisit TVisit.row a.xVisits) a.xAt := by
 unfold TTab.size at h
 simp only [F7, P7]
 exact (toVisitS a.xVisits (by omega) _).trans (rfl)
theorem eqTab_iff (a b : TTab) : (decide (a.xVisits = b.xVisits) && ((a.xAt == b.xAt) && (true))) = decide (a = b) := by
 cases a; cases b
 rw [Bool.eq_iff_iff]
 simp only [TTab.mk.injEq, Bool.and_true, Bool.and_eq_true, beq_iff_eq, decide_eq_true_eq]
theorem eqTab (a b : TTab) (h : a.ok) (k : Bool -> Option M) : F9 M (rows kVisit TVisit.row a.xVisits) a.xAt (rows kVisit TVisit.row b.xVisits) b.xAt k = k (decide (a = b)) := by
 obtain ⟨q0, q1, _⟩ := h
 simp only [F9, P9]
 refine Eq.trans ?_ (congrArg k (eqTab_iff a b))
 refine (eqVisitS a.xVisits b.xVisits q0 _).trans (eqCut ?_)
 refine eqCut ?_
 rfl
open Classical in noncomputable def lszTab (a : TTab) (l : Int) : Option Int := if 0 <= l /\ l <= 1048576 /\ TTab.ok a then some (szL l (TTab.size a)) else none
open Classical in noncomputable def leqTab (a b : TTab) : Option Bool := if TTab.ok a then some (decide (a = b)) else none
def TKept.nul : TKept := ⟨TAddr.nul, TResponse.nul⟩
def TKept.size (a : TKept) : Nat := TAddr.size a.xTo + (TResponse.size a.xResponse + (0))
def TKept.ok (a : TKept) : Prop := TAddr.ok a.xTo /\ TResponse.ok a.xResponse /\ True
theorem szKept (a : TKept) (l : Int) (h0 : 0 <= l) (h1 : l <= 1048576) (h : a.ok) (k : Int -> Option M) : F102 M a.xTo.xHost a.xTo.xPath a.xResponse.xStatus a.xResponse.xKind a.xResponse.xBody a.xResponse.xAge a.xResponse.xShares a.xResponse.xPolicy l k = k (szL l a.size) := by
 obtain ⟨q0, q1, _⟩ := h
 unfold TKept.size
 simp only [F102, P102]
 refine (szAddr a.xTo _ h0 h1 q0 _).trans (szSub h0 h1 (fun m0 e0 h0 h1 => ?_))
 rw [e0]
 refine (szResponse a.xResponse _ h0 h1 q1 _).trans (szSub h0 h1 (fun m1 e1 h0 h1 => ?_))
 rw [e1]
 exact szEnd h0
theorem toKept (a : TKept) (h : a.size <= 1048576) (k : List UInt8 -> List UInt8 -> Int -> Int -> List UInt8 -> Int -> Bool -> List UInt8 -> Option M) : F114 M a.xTo.xHost a.xTo.xPath a.xResponse.xStatus a.xResponse.xKind a.xResponse.xBody a.xResponse.xAge a.xResponse.xShares a.xResponse.xPolicy k = k a.xTo.xHost a.xTo.xPath a.xResponse.xStatus a.xResponse.xKind a.xResponse.xBody a.xResponse.xAge a.xResponse.xShares a.xResponse.xPolicy := by
 unfold TKept.size at h
 simp only [F114, P114]
 exact (toAddr a.xTo (by omega) _).trans ((toResponse a.xResponse (by omega) _).trans (rfl))
theorem eqKept_iff (a b : TKept) : (decide (a.xTo = b.xTo) && (decide (a.xResponse = b.xResponse) && (true))) = decide (a = b) := by
 cases a; cases b
 rw [Bool.eq_iff_iff]
 simp only [TKept.mk.injEq, Bool.and_true, Bool.and_eq_true, beq_iff_eq, decide_eq_true_eq]
theorem eqKept (a b : TKept) (h : a.ok) (k : Bool -> Option M) : F127 M a.xTo.xHost a.xTo.xPath a.xResponse.xStatus a.xResponse.xKind a.xResponse.xBody a.xResponse.xAge a.xResponse.xShares a.xResponse.xPolicy b.xTo.xHost b.xTo.xPath b.xResponse.xStatus b.xResponse.xKind b.xResponse.xBody b.xResponse.xAge b.xResponse.xShares b.xResponse.xPolicy k = k (decide (a = b)) := by
 obtain ⟨q0, q1, _⟩ := h
 simp only [F127, P127]
 refine Eq.trans ?_ (congrArg k (eqKept_iff a b))
 refine (eqAddr a.xTo b.xTo q0 _).trans (eqCut ?_)
 refine (eqResponse a.xResponse b.xResponse q1 _).trans (eqCut ?_)
 rfl
theorem szKeptS (a : List TKept) (l : Int) (h0 : 0 <= l) (h1 : l <= 1048576) (h : okL TKept.ok a) (k : Int -> Option M) : F55 M (rows kKept TKept.row a) l k = k (szL l (a.length + sumL TKept.size a)) :=
 szS_g (g := TKept.row) (fun e m k => F102 _ e.1 e.2.1 e.2.2.1 e.2.2.2.1 e.2.2.2.2.1 e.2.2.2.2.2.1 e.2.2.2.2.2.2.1 e.2.2.2.2.2.2.2.1 m k) (fun y m h0 h1 h k => szKept y m h0 h1 h k) a l h0 h1 h k
theorem toKeptS (a : List TKept) (h : a.length + sumL TKept.size a <= 1048576) (k : List V -> Option M) : F61 M (rows kKept TKept.row a) k = k (rows kKept TKept.row a) :=
 toS_g (g := TKept.row) (z := TKept.nul) (fun e k => F114 _ e.1 e.2.1 e.2.2.1 e.2.2.2.1 e.2.2.2.2.1 e.2.2.2.2.2.1 e.2.2.2.2.2.2.1 e.2.2.2.2.2.2.2.1 fun v0 v1 v2 v3 v4 v5 v6 v7 => k [.str v0, .str v1, .int .i64 v2, .int .i64 v3, .str v4, .int .i64 v5, .bool v6, .str v7]) (fun y h k => toKept y h _) (by decide) rfl a h k
theorem eqKeptS (a b : List TKept) (h : okL TKept.ok a) (k : Bool -> Option M) : F70 M (rows kKept TKept.row a) (rows kKept TKept.row b) k = k (decide (a = b)) :=
 eqS_g (g := TKept.row) (fun e e2 k => F127 _ e.1 e.2.1 e.2.2.1 e.2.2.2.1 e.2.2.2.2.1 e.2.2.2.2.2.1 e.2.2.2.2.2.2.1 e.2.2.2.2.2.2.2.1 e2.1 e2.2.1 e2.2.2.1 e2.2.2.2.1 e2.2.2.2.2.1 e2.2.2.2.2.2.1 e2.2.2.2.2.2.2.1 e2.2.2.2.2.2.2.2.1 k) (fun x y h k => eqKept x y h k) a b h k
def THidden.nul : THidden := ⟨false, TPage.nul, [], [], 0⟩
def THidden.size (a : THidden) : Nat := TPage.size a.xPage + ((a.xTaken.length + sumL TKept.size a.xTaken) + ((a.xServers.length + sumL TServer.size a.xServers) + (0)))
def THidden.ok (a : THidden) : Prop := True /\ TPage.ok a.xPage /\ okL TKept.ok a.xTaken /\ okL TServer.ok a.xServers /\ okI a.xNow /\ True
theorem szHidden (a : THidden) (l : Int) (h0 : 0 <= l) (h1 : l <= 1048576) (h : a.ok) (k : Int -> Option M) : F25 M a.xReady a.xPage.xAddr.xHost a.xPage.xAddr.xPath a.xPage.xPolicy.xSet (rStr a.xPage.xPolicy.xScripts) (rStr a.xPage.xPolicy.xStyles) (rStr a.xPage.xPolicy.xImages) a.xPage.xPolicy.xNonce a.xPage.xTok.xRest (rows kToken TToken.row a.xPage.xQueue) a.xPage.xEnded (rows kNode TNode.row a.xPage.xBuilder.xNodes) (rInt a.xPage.xBuilder.xOpen) (rows kSlot TSlot.row a.xPage.xSlots) (rows kModule TModule.row a.xPage.xMods) (rows kAddr TAddr.row a.xPage.xEntries) a.xPage.xBlock a.xPage.xInline a.xPage.xDeferred a.xPage.xEntered (rows kAddr TAddr.row a.xPage.xRan) (rStr a.xPage.xLog) a.xPage.xLoaded (rows kKept TKept.row a.xTaken) (rows kServer TServer.row a.xServers) a.xNow l k = k (szL l a.size) := by
 obtain ⟨q0, q1, q2, q3, q4, _⟩ := h
 unfold THidden.size
 simp only [F25, P25]
 refine (szPage a.xPage _ h0 h1 q1 _).trans (szSub h0 h1 (fun m1 e1 h0 h1 => ?_))
 rw [e1]
 refine (szKeptS a.xTaken _ h0 h1 q2 _).trans (szSub h0 h1 (fun m2 e2 h0 h1 => ?_))
 rw [e2]
 refine (szServerS a.xServers _ h0 h1 q3 _).trans (szSub h0 h1 (fun m3 e3 h0 h1 => ?_))
 rw [e3]
 exact szEnd h0
theorem toHidden (a : THidden) (h : a.size <= 1048576) (k : Bool -> List UInt8 -> List UInt8 -> Bool -> List V -> List V -> List V -> List UInt8 -> List UInt8 -> List V -> Bool -> List V -> List V -> List V -> List V -> List V -> Int -> Int -> Int -> Int -> List V -> List V -> Bool -> List V -> List V -> Int -> Option M) : F29 M a.xReady a.xPage.xAddr.xHost a.xPage.xAddr.xPath a.xPage.xPolicy.xSet (rStr a.xPage.xPolicy.xScripts) (rStr a.xPage.xPolicy.xStyles) (rStr a.xPage.xPolicy.xImages) a.xPage.xPolicy.xNonce a.xPage.xTok.xRest (rows kToken TToken.row a.xPage.xQueue) a.xPage.xEnded (rows kNode TNode.row a.xPage.xBuilder.xNodes) (rInt a.xPage.xBuilder.xOpen) (rows kSlot TSlot.row a.xPage.xSlots) (rows kModule TModule.row a.xPage.xMods) (rows kAddr TAddr.row a.xPage.xEntries) a.xPage.xBlock a.xPage.xInline a.xPage.xDeferred a.xPage.xEntered (rows kAddr TAddr.row a.xPage.xRan) (rStr a.xPage.xLog) a.xPage.xLoaded (rows kKept TKept.row a.xTaken) (rows kServer TServer.row a.xServers) a.xNow k = k a.xReady a.xPage.xAddr.xHost a.xPage.xAddr.xPath a.xPage.xPolicy.xSet (rStr a.xPage.xPolicy.xScripts) (rStr a.xPage.xPolicy.xStyles) (rStr a.xPage.xPolicy.xImages) a.xPage.xPolicy.xNonce a.xPage.xTok.xRest (rows kToken TToken.row a.xPage.xQueue) a.xPage.xEnded (rows kNode TNode.row a.xPage.xBuilder.xNodes) (rInt a.xPage.xBuilder.xOpen) (rows kSlot TSlot.row a.xPage.xSlots) (rows kModule TModule.row a.xPage.xMods) (rows kAddr TAddr.row a.xPage.xEntries) a.xPage.xBlock a.xPage.xInline a.xPage.xDeferred a.xPage.xEntered (rows kAddr TAddr.row a.xPage.xRan) (rStr a.xPage.xLog) a.xPage.xLoaded (rows kKept TKept.row a.xTaken) (rows kServer TServer.row a.xServers) a.xNow := by
 unfold THidden.size at h
 simp only [F29, P29]
 exact (toPage a.xPage (by omega) _).trans ((toKeptS a.xTaken (by omega) _).trans ((toServerS a.xServers (by omega) _).trans (rfl)))
theorem eqHidden_iff (a b : THidden) : ((a.xReady == b.xReady) && (decide (a.xPage = b.xPage) && (decide (a.xTaken = b.xTaken) && (decide (a.xServers = b.xServers) && ((a.xNow == b.xNow) && (true)))))) = decide (a = b) := by
 cases a; cases b
 rw [Bool.eq_iff_iff]
 simp only [THidden.mk.injEq, Bool.and_true, Bool.and_eq_true, beq_iff_eq, decide_eq_true_eq]
theorem eqHidden (a b : THidden) (h : a.ok) (k : Bool -> Option M) : F33 M a.xReady a.xPage.xAddr.xHost a.xPage.xAddr.xPath a.xPage.xPolicy.xSet (rStr a.xPage.xPolicy.xScripts) (rStr a.xPage.xPolicy.xStyles) (rStr a.xPage.xPolicy.xImages) a.xPage.xPolicy.xNonce a.xPage.xTok.xRest (rows kToken TToken.row a.xPage.xQueue) a.xPage.xEnded (rows kNode TNode.row a.xPage.xBuilder.xNodes) (rInt a.xPage.xBuilder.xOpen) (rows kSlot TSlot.row a.xPage.xSlots) (rows kModule TModule.row a.xPage.xMods) (rows kAddr TAddr.row a.xPage.xEntries) a.xPage.xBlock a.xPage.xInline a.xPage.xDeferred a.xPage.xEntered (rows kAddr TAddr.row a.xPage.xRan) (rStr a.xPage.xLog) a.xPage.xLoaded (rows kKept TKept.row a.xTaken) (rows kServer TServer.row a.xServers) a.xNow b.xReady b.xPage.xAddr.xHost b.xPage.xAddr.xPath b.xPage.xPolicy.xSet (rStr b.xPage.xPolicy.xScripts) (rStr b.xPage.xPolicy.xStyles) (rStr b.xPage.xPolicy.xImages) b.xPage.xPolicy.xNonce b.xPage.xTok.xRest (rows kToken TToken.row b.xPage.xQueue) b.xPage.xEnded (rows kNode TNode.row b.xPage.xBuilder.xNodes) (rInt b.xPage.xBuilder.xOpen) (rows kSlot TSlot.row b.xPage.xSlots) (rows kModule TModule.row b.xPage.xMods) (rows kAddr TAddr.row b.xPage.xEntries) b.xPage.xBlock b.xPage.xInline b.xPage.xDeferred b.xPage.xEntered (rows kAddr TAddr.row b.xPage.xRan) (rStr b.xPage.xLog) b.xPage.xLoaded (rows kKept TKept.row b.xTaken) (rows kServer TServer.row b.xServers) b.xNow k = k (decide (a = b)) := by
 obtain ⟨q0, q1, q2, q3, q4, _⟩ := h
 simp only [F33, P33]
 refine Eq.trans ?_ (congrArg k (eqHidden_iff a b))
 refine eqCut ?_
 refine (eqPage a.xPage b.xPage q1 _).trans (eqCut ?_)
 refine (eqKeptS a.xTaken b.xTaken q2 _).trans (eqCut ?_)
 refine (eqServerS a.xServers b.xServers q3 _).trans (eqCut ?_)
 refine eqCut ?_
 rfl
def TWorld.nul : TWorld := ⟨TNet.nul, TTab.nul, THidden.nul, false⟩
def TWorld.size (a : TWorld) : Nat := TNet.size a.xNet + (TTab.size a.xTab + (THidden.size a.xHidden + (0)))
def TWorld.ok (a : TWorld) : Prop := TNet.ok a.xNet /\ TTab.ok a.xTab /\ THidden.ok a.xHidden /\ True /\ True
theorem szWorld (a : TWorld) (l : Int) (h0 : 0 <= l) (h1 : l <= 1048576) (h : a.ok) (k : Int -> Option M) : F10 M (rows kServer TServer.row a.xNet.xServers) (rows kEntry TEntry.row a.xNet.xCache.xEntries) (rows kSent TSent.row a.xNet.xLog) a.xNet.xNow (rows kVisit TVisit.row a.xTab.xVisits) a.xTab.xAt a.xHidden.xReady a.xHidden.xPage.xAddr.xHost a.xHidden.xPage.xAddr.xPath a.xHidden.xPage.xPolicy.xSet (rStr a.xHidden.xPage.xPolicy.xScripts) (rStr a.xHidden.xPage.xPolicy.xStyles) (rStr a.xHidden.xPage.xPolicy.xImages) a.xHidden.xPage.xPolicy.xNonce a.xHidden.xPage.xTok.xRest (rows kToken TToken.row a.xHidden.xPage.xQueue) a.xHidden.xPage.xEnded (rows kNode TNode.row a.xHidden.xPage.xBuilder.xNodes) (rInt a.xHidden.xPage.xBuilder.xOpen) (rows kSlot TSlot.row a.xHidden.xPage.xSlots) (rows kModule TModule.row a.xHidden.xPage.xMods) (rows kAddr TAddr.row a.xHidden.xPage.xEntries) a.xHidden.xPage.xBlock a.xHidden.xPage.xInline a.xHidden.xPage.xDeferred a.xHidden.xPage.xEntered (rows kAddr TAddr.row a.xHidden.xPage.xRan) (rStr a.xHidden.xPage.xLog) a.xHidden.xPage.xLoaded (rows kKept TKept.row a.xHidden.xTaken) (rows kServer TServer.row a.xHidden.xServers) a.xHidden.xNow a.xFast l k = k (szL l a.size) := by
 obtain ⟨q0, q1, q2, q3, _⟩ := h
 unfold TWorld.size
 simp only [F10, P10]
 refine (szNet a.xNet _ h0 h1 q0 _).trans (szSub h0 h1 (fun m0 e0 h0 h1 => ?_))
 rw [e0]
 refine (szTab a.xTab _ h0 h1 q1 _).trans (szSub h0 h1 (fun m1 e1 h0 h1 => ?_))
 rw [e1]
 refine (szHidden a.xHidden _ h0 h1 q2 _).trans (szSub h0 h1 (fun m2 e2 h0 h1 => ?_))
 rw [e2]
 exact szEnd h0
theorem toWorld (a : TWorld) (h : a.size <= 1048576) (k : List V -> List V -> List V -> Int -> List V -> Int -> Bool -> List UInt8 -> List UInt8 -> Bool -> List V -> List V -> List V -> List UInt8 -> List UInt8 -> List V -> Bool -> List V -> List V -> List V -> List V -> List V -> Int -> Int -> Int -> Int -> List V -> List V -> Bool -> List V -> List V -> Int -> Bool -> Option M) : F12 M (rows kServer TServer.row a.xNet.xServers) (rows kEntry TEntry.row a.xNet.xCache.xEntries) (rows kSent TSent.row a.xNet.xLog) a.xNet.xNow (rows kVisit TVisit.row a.xTab.xVisits) a.xTab.xAt a.xHidden.xReady a.xHidden.xPage.xAddr.xHost a.xHidden.xPage.xAddr.xPath a.xHidden.xPage.xPolicy.xSet (rStr a.xHidden.xPage.xPolicy.xScripts) (rStr a.xHidden.xPage.xPolicy.xStyles) (rStr a.xHidden.xPage.xPolicy.xImages) a.xHidden.xPage.xPolicy.xNonce a.xHidden.xPage.xTok.xRest (rows kToken TToken.row a.xHidden.xPage.xQueue) a.xHidden.xPage.xEnded (rows kNode TNode.row a.xHidden.xPage.xBuilder.xNodes) (rInt a.xHidden.xPage.xBuilder.xOpen) (rows kSlot TSlot.row a.xHidden.xPage.xSlots) (rows kModule TModule.row a.xHidden.xPage.xMods) (rows kAddr TAddr.row a.xHidden.xPage.xEntries) a.xHidden.xPage.xBlock a.xHidden.xPage.xInline a.xHidden.xPage.xDeferred a.xHidden.xPage.xEntered (rows kAddr TAddr.row a.xHidden.xPage.xRan) (rStr a.xHidden.xPage.xLog) a.xHidden.xPage.xLoaded (rows kKept TKept.row a.xHidden.xTaken) (rows kServer TServer.row a.xHidden.xServers) a.xHidden.xNow a.xFast k = k (rows kServer TServer.row a.xNet.xServers) (rows kEntry TEntry.row a.xNet.xCache.xEntries) (rows kSent TSent.row a.xNet.xLog) a.xNet.xNow (rows kVisit TVisit.row a.xTab.xVisits) a.xTab.xAt a.xHidden.xReady a.xHidden.xPage.xAddr.xHost a.xHidden.xPage.xAddr.xPath a.xHidden.xPage.xPolicy.xSet (rStr a.xHidden.xPage.xPolicy.xScripts) (rStr a.xHidden.xPage.xPolicy.xStyles) (rStr a.xHidden.xPage.xPolicy.xImages) a.xHidden.xPage.xPolicy.xNonce a.xHidden.xPage.xTok.xRest (rows kToken TToken.row a.xHidden.xPage.xQueue) a.xHidden.xPage.xEnded (rows kNode TNode.row a.xHidden.xPage.xBuilder.xNodes) (rInt a.xHidden.xPage.xBuilder.xOpen) (rows kSlot TSlot.row a.xHidden.xPage.xSlots) (rows kModule TModule.row a.xHidden.xPage.xMods) (rows kAddr TAddr.row a.xHidden.xPage.xEntries) a.xHidden.xPage.xBlock a.xHidden.xPage.xInline a.xHidden.xPage.xDeferred a.xHidden.xPage.xEntered (rows kAddr TAddr.row a.xHidden.xPage.xRan) (rStr a.xHidden.xPage.xLog) a.xHidden.xPage.xLoaded (rows kKept TKept.row a.xHidden.xTaken) (rows kServer TServer.row a.xHidden.xServers) a.xHidden.xNow a.xFast := by
 unfold TWorld.size at h
 simp only [F12, P12]
 exact (toNet a.xNet (by omega) _).trans ((toTab a.xTab (by omega) _).trans ((toHidden a.xHidden (by omega) _).trans (rfl)))
theorem eqWorld_iff (a b : TWorld) : (decide (a.xNet = b.xNet) && (decide (a.xTab = b.xTab) && (decide (a.xHidden = b.xHidden) && ((a.xFast == b.xFast) && (true))))) = decide (a = b) := by
 cases a; cases b
 rw [Bool.eq_iff_iff]
 simp only [TWorld.mk.injEq, Bool.and_true, Bool.and_eq_true, beq_iff_eq, decide_eq_true_eq]
theorem eqWorld (a b : TWorld) (h : a.ok) (k : Bool -> Option M) : F14 M (rows kServer TServer.row a.xNet.xServers) (rows kEntry TEntry.row a.xNet.xCache.xEntries) (rows kSent TSent.row a.xNet.xLog) a.xNet.xNow (rows kVisit TVisit.row a.xTab.xVisits) a.xTab.xAt a.xHidden.xReady a.xHidden.xPage.xAddr.xHost a.xHidden.xPage.xAddr.xPath a.xHidden.xPage.xPolicy.xSet (rStr a.xHidden.xPage.xPolicy.xScripts) (rStr a.xHidden.xPage.xPolicy.xStyles) (rStr a.xHidden.xPage.xPolicy.xImages) a.xHidden.xPage.xPolicy.xNonce a.xHidden.xPage.xTok.xRest (rows kToken TToken.row a.xHidden.xPage.xQueue) a.xHidden.xPage.xEnded (rows kNode TNode.row a.xHidden.xPage.xBuilder.xNodes) (rInt a.xHidden.xPage.xBuilder.xOpen) (rows kSlot TSlot.row a.xHidden.xPage.xSlots) (rows kModule TModule.row a.xHidden.xPage.xMods) (rows kAddr TAddr.row a.xHidden.xPage.xEntries) a.xHidden.xPage.xBlock a.xHidden.xPage.xInline a.xHidden.xPage.xDeferred a.xHidden.xPage.xEntered (rows kAddr TAddr.row a.xHidden.xPage.xRan) (rStr a.xHidden.xPage.xLog) a.xHidden.xPage.xLoaded (rows kKept TKept.row a.xHidden.xTaken) (rows kServer TServer.row a.xHidden.xServers) a.xHidden.xNow a.xFast (rows kServer TServer.row b.xNet.xServers) (rows kEntry TEntry.row b.xNet.xCache.xEntries) (rows kSent TSent.row b.xNet.xLog) b.xNet.xNow (rows kVisit TVisit.row b.xTab.xVisits) b.xTab.xAt b.xHidden.xReady b.xHidden.xPage.xAddr.xHost b.xHidden.xPage.xAddr.xPath b.xHidden.xPage.xPolicy.xSet (rStr b.xHidden.xPage.xPolicy.xScripts) (rStr b.xHidden.xPage.xPolicy.xStyles) (rStr b.xHidden.xPage.xPolicy.xImages) b.xHidden.xPage.xPolicy.xNonce b.xHidden.xPage.xTok.xRest (rows kToken TToken.row b.xHidden.xPage.xQueue) b.xHidden.xPage.xEnded (rows kNode TNode.row b.xHidden.xPage.xBuilder.xNodes) (rInt b.xHidden.xPage.xBuilder.xOpen) (rows kSlot TSlot.row b.xHidden.xPage.xSlots) (rows kModule TModule.row b.xHidden.xPage.xMods) (rows kAddr TAddr.row b.xHidden.xPage.xEntries) b.xHidden.xPage.xBlock b.xHidden.xPage.xInline b.xHidden.xPage.xDeferred b.xHidden.xPage.xEntered (rows kAddr TAddr.row b.xHidden.xPage.xRan) (rStr b.xHidden.xPage.xLog) b.xHidden.xPage.xLoaded (rows kKept TKept.row b.xHidden.xTaken) (rows kServer TServer.row b.xHidden.xServers) b.xHidden.xNow b.xFast k = k (decide (a = b)) := by
 obtain ⟨q0, q1, q2, q3, _⟩ := h
 simp only [F14, P14]
 refine Eq.trans ?_ (congrArg k (eqWorld_iff a b))
 refine (eqNet a.xNet b.xNet q0 _).trans (eqCut ?_)
 refine (eqTab a.xTab b.xTab q1 _).trans (eqCut ?_)
 refine (eqHidden a.xHidden b.xHidden q2 _).trans (eqCut ?_)
 refine eqCut ?_
 rfl
open Classical in noncomputable def lszWorld (a : TWorld) (l : Int) : Option Int := if 0 <= l /\ l <= 1048576 /\ TWorld.ok a then some (szL l (TWorld.size a)) else none
theorem ei_lszWorld (a : TWorld) (l : Int) (k : Int -> Option M) : Imp (F10 M (rows kServer TServer.row a.xNet.xServers) (rows kEntry TEntry.row a.xNet.xCache.xEntries) (rows kSent TSent.row a.xNet.xLog) a.xNet.xNow (rows kVisit TVisit.row a.xTab.xVisits) a.xTab.xAt a.xHidden.xReady a.xHidden.xPage.xAddr.xHost a.xHidden.xPage.xAddr.xPath a.xHidden.xPage.xPolicy.xSet (rStr a.xHidden.xPage.xPolicy.xScripts) (rStr a.xHidden.xPage.xPolicy.xStyles) (rStr a.xHidden.xPage.xPolicy.xImages) a.xHidden.xPage.xPolicy.xNonce a.xHidden.xPage.xTok.xRest (rows kToken TToken.row a.xHidden.xPage.xQueue) a.xHidden.xPage.xEnded (rows kNode TNode.row a.xHidden.xPage.xBuilder.xNodes) (rInt a.xHidden.xPage.xBuilder.xOpen) (rows kSlot TSlot.row a.xHidden.xPage.xSlots) (rows kModule TModule.row a.xHidden.xPage.xMods) (rows kAddr TAddr.row a.xHidden.xPage.xEntries) a.xHidden.xPage.xBlock a.xHidden.xPage.xInline a.xHidden.xPage.xDeferred a.xHidden.xPage.xEntered (rows kAddr TAddr.row a.xHidden.xPage.xRan) (rStr a.xHidden.xPage.xLog) a.xHidden.xPage.xLoaded (rows kKept TKept.row a.xHidden.xTaken) (rows kServer TServer.row a.xHidden.xServers) a.xHidden.xNow a.xFast l k) (lszWorld a l) (fun r => k r) := by
 intro r h
 unfold lszWorld at h
 split at h
 ·rename_i c; cases h; exact szWorld a l c.1 c.2.1 c.2.2 k
 ·cases h
def ltoWorld (a : TWorld) : Option TWorld := if TWorld.size a <= 1048576 then some a else none
theorem ei_ltoWorld (a : TWorld) (k : List V -> List V -> List V -> Int -> List V -> Int -> Bool -> List UInt8 -> List UInt8 -> Bool -> List V -> List V -> List V -> List UInt8 -> List UInt8 -> List V -> Bool -> List V -> List V -> List V -> List V -> List V -> Int -> Int -> Int -> Int -> List V -> List V -> Bool -> List V -> List V -> Int -> Bool -> Option M) : Imp (F12 M (rows kServer TServer.row a.xNet.xServers) (rows kEntry TEntry.row a.xNet.xCache.xEntries) (rows kSent TSent.row a.xNet.xLog) a.xNet.xNow (rows kVisit TVisit.row a.xTab.xVisits) a.xTab.xAt a.xHidden.xReady a.xHidden.xPage.xAddr.xHost a.xHidden.xPage.xAddr.xPath a.xHidden.xPage.xPolicy.xSet (rStr a.xHidden.xPage.xPolicy.xScripts) (rStr a.xHidden.xPage.xPolicy.xStyles) (rStr a.xHidden.xPage.xPolicy.xImages) a.xHidden.xPage.xPolicy.xNonce a.xHidden.xPage.xTok.xRest (rows kToken TToken.row a.xHidden.xPage.xQueue) a.xHidden.xPage.xEnded (rows kNode TNode.row a.xHidden.xPage.xBuilder.xNodes) (rInt a.xHidden.xPage.xBuilder.xOpen) (rows kSlot TSlot.row a.xHidden.xPage.xSlots) (rows kModule TModule.row a.xHidden.xPage.xMods) (rows kAddr TAddr.row a.xHidden.xPage.xEntries) a.xHidden.xPage.xBlock a.xHidden.xPage.xInline a.xHidden.xPage.xDeferred a.xHidden.xPage.xEntered (rows kAddr TAddr.row a.xHidden.xPage.xRan) (rStr a.xHidden.xPage.xLog) a.xHidden.xPage.xLoaded (rows kKept TKept.row a.xHidden.xTaken) (rows kServer TServer.row a.xHidden.xServers) a.xHidden.xNow a.xFast k) (ltoWorld a) (fun r => k (rows kServer TServer.row r.xNet.xServers) (rows kEntry TEntry.row r.xNet.xCache.xEntries) (rows kSent TSent.row r.xNet.xLog) r.xNet.xNow (rows kVisit TVisit.row r.xTab.xVisits) r.xTab.xAt r.xHidden.xReady r.xHidden.xPage.xAddr.xHost r.xHidden.xPage.xAddr.xPath r.xHidden.xPage.xPolicy.xSet (rStr r.xHidden.xPage.xPolicy.xScripts) (rStr r.xHidden.xPage.xPolicy.xStyles) (rStr r.xHidden.xPage.xPolicy.xImages) r.xHidden.xPage.xPolicy.xNonce r.xHidden.xPage.xTok.xRest (rows kToken TToken.row r.xHidden.xPage.xQueue) r.xHidden.xPage.xEnded (rows kNode TNode.row r.xHidden.xPage.xBuilder.xNodes) (rInt r.xHidden.xPage.xBuilder.xOpen) (rows kSlot TSlot.row r.xHidden.xPage.xSlots) (rows kModule TModule.row r.xHidden.xPage.xMods) (rows kAddr TAddr.row r.xHidden.xPage.xEntries) r.xHidden.xPage.xBlock r.xHidden.xPage.xInline r.xHidden.xPage.xDeferred r.xHidden.xPage.xEntered (rows kAddr TAddr.row r.xHidden.xPage.xRan) (rStr r.xHidden.xPage.xLog) r.xHidden.xPage.xLoaded (rows kKept TKept.row r.xHidden.xTaken) (rows kServer TServer.row r.xHidden.xServers) r.xHidden.xNow r.xFast) := by
 intro r h
 unfold ltoWorld at h
 split at h
 ·rename_i c; cases h; exact toWorld a c k
 ·cases h
open Classical in noncomputable def leqWorld (a b : TWorld) : Option Bool := if TWorld.ok a then some (decide (a = b)) else none
theorem ei_leqWorld (a b : TWorld) (k : Bool -> Option M) : Imp (F14 M (rows kServer TServer.row a.xNet.xServers) (rows kEntry TEntry.row a.xNet.xCache.xEntries) (rows kSent TSent.row a.xNet.xLog) a.xNet.xNow (rows kVisit TVisit.row a.xTab.xVisits) a.xTab.xAt a.xHidden.xReady a.xHidden.xPage.xAddr.xHost a.xHidden.xPage.xAddr.xPath a.xHidden.xPage.xPolicy.xSet (rStr a.xHidden.xPage.xPolicy.xScripts) (rStr a.xHidden.xPage.xPolicy.xStyles) (rStr a.xHidden.xPage.xPolicy.xImages) a.xHidden.xPage.xPolicy.xNonce a.xHidden.xPage.xTok.xRest (rows kToken TToken.row a.xHidden.xPage.xQueue) a.xHidden.xPage.xEnded (rows kNode TNode.row a.xHidden.xPage.xBuilder.xNodes) (rInt a.xHidden.xPage.xBuilder.xOpen) (rows kSlot TSlot.row a.xHidden.xPage.xSlots) (rows kModule TModule.row a.xHidden.xPage.xMods) (rows kAddr TAddr.row a.xHidden.xPage.xEntries) a.xHidden.xPage.xBlock a.xHidden.xPage.xInline a.xHidden.xPage.xDeferred a.xHidden.xPage.xEntered (rows kAddr TAddr.row a.xHidden.xPage.xRan) (rStr a.xHidden.xPage.xLog) a.xHidden.xPage.xLoaded (rows kKept TKept.row a.xHidden.xTaken) (rows kServer TServer.row a.xHidden.xServers) a.xHidden.xNow a.xFast (rows kServer TServer.row b.xNet.xServers) (rows kEntry TEntry.row b.xNet.xCache.xEntries) (rows kSent TSent.row b.xNet.xLog) b.xNet.xNow (rows kVisit TVisit.row b.xTab.xVisits) b.xTab.xAt b.xHidden.xReady b.xHidden.xPage.xAddr.xHost b.xHidden.xPage.xAddr.xPath b.xHidden.xPage.xPolicy.xSet (rStr b.xHidden.xPage.xPolicy.xScripts) (rStr b.xHidden.xPage.xPolicy.xStyles) (rStr b.xHidden.xPage.xPolicy.xImages) b.xHidden.xPage.xPolicy.xNonce b.xHidden.xPage.xTok.xRest (rows kToken TToken.row b.xHidden.xPage.xQueue) b.xHidden.xPage.xEnded (rows kNode TNode.row b.xHidden.xPage.xBuilder.xNodes) (rInt b.xHidden.xPage.xBuilder.xOpen) (rows kSlot TSlot.row b.xHidden.xPage.xSlots) (rows kModule TModule.row b.xHidden.xPage.xMods) (rows kAddr TAddr.row b.xHidden.xPage.xEntries) b.xHidden.xPage.xBlock b.xHidden.xPage.xInline b.xHidden.xPage.xDeferred b.xHidden.xPage.xEntered (rows kAddr TAddr.row b.xHidden.xPage.xRan) (rStr b.xHidden.xPage.xLog) b.xHidden.xPage.xLoaded (rows kKept TKept.row b.xHidden.xTaken) (rows kServer TServer.row b.xHidden.xServers) b.xHidden.xNow b.xFast k) (leqWorld a b) (fun r => k r) := by
 intro r h
 unfold leqWorld at h
 split at h
 ·rename_i c; cases h; refine (eqWorld a b c k).trans ?_; congr
 ·cases h
def fl : Nat -> Bool := fun t => t != 60 && t != 38 && t != 32 && t != 176 && t != 174 && t != 35 && t != 33 && t != 36 && t != 24 && t != 22 && t != 113 && t != 55 && t != 43 && t != 41 && t != 46 && t != 241 && t != 239 && t != 50 && t != 47 && t != 292 && t != 48 && t != 51 && t != 52 && t != 53 && t != 58 && t != 56
def L : List Nat := [60, 38, 32, 176, 9, 174, 288, 190, 3, 4, 35, 33, 237, 40, 36, 180, 24, 22, 113, 55, 43, 41, 45, 46, 241, 239, 308, 50, 47, 292, 48, 51, 246, 52, 249, 53, 58, 56, 192]
theorem kids : kidsOk Tryz.prog L = true := by kernel_rfl
theorem flArgs : flOk Tryz.prog L fl = true := by kernel_rfl
theorem cells60 : Tryz.prog.cellsOf 60 = 33 := by kernel_rfl
theorem cells38 : Tryz.prog.cellsOf 38 = 4 := by kernel_rfl
theorem cells32 : Tryz.prog.cellsOf 32 = 1 := by kernel_rfl
theorem cells176 : Tryz.prog.cellsOf 176 = 2 := by kernel_rfl
theorem cells9 : Tryz.prog.cellsOf 9 = 1 := by kernel_rfl
theorem cells174 : Tryz.prog.cellsOf 174 = 1 := by kernel_rfl
theorem cells288 : Tryz.prog.cellsOf 288 = 7 := by kernel_rfl
theorem cells190 : Tryz.prog.cellsOf 190 = 6 := by kernel_rfl
theorem cells3 : Tryz.prog.cellsOf 3 = 1 := by kernel_rfl
theorem cells4 : Tryz.prog.cellsOf 4 = 1 := by kernel_rfl
theorem cells35 : Tryz.prog.cellsOf 35 = 1 := by kernel_rfl
theorem cells33 : Tryz.prog.cellsOf 33 = 1 := by kernel_rfl
theorem cells237 : Tryz.prog.cellsOf 237 = 10 := by kernel_rfl
theorem cells40 : Tryz.prog.cellsOf 40 = 2 := by kernel_rfl
theorem cells36 : Tryz.prog.cellsOf 36 = 1 := by kernel_rfl
theorem cells180 : Tryz.prog.cellsOf 180 = 4 := by kernel_rfl
theorem cells24 : Tryz.prog.cellsOf 24 = 2 := by kernel_rfl
theorem cells22 : Tryz.prog.cellsOf 22 = 1 := by kernel_rfl
theorem cells113 : Tryz.prog.cellsOf 113 = 25 := by kernel_rfl
theorem cells55 : Tryz.prog.cellsOf 55 = 22 := by kernel_rfl
theorem cells43 : Tryz.prog.cellsOf 43 = 5 := by kernel_rfl
theorem cells41 : Tryz.prog.cellsOf 41 = 1 := by kernel_rfl
theorem cells45 : Tryz.prog.cellsOf 45 = 1 := by kernel_rfl
theorem cells46 : Tryz.prog.cellsOf 46 = 1 := by kernel_rfl
theorem cells241 : Tryz.prog.cellsOf 241 = 4 := by kernel_rfl
theorem cells239 : Tryz.prog.cellsOf 239 = 1 := by kernel_rfl
theorem cells308 : Tryz.prog.cellsOf 308 = 2 := by kernel_rfl
theorem cells50 : Tryz.prog.cellsOf 50 = 2 := by kernel_rfl
theorem cells47 : Tryz.prog.cellsOf 47 = 1 := by kernel_rfl
theorem cells292 : Tryz.prog.cellsOf 292 = 4 := by kernel_rfl
theorem cells48 : Tryz.prog.cellsOf 48 = 1 := by kernel_rfl
theorem cells51 : Tryz.prog.cellsOf 51 = 1 := by kernel_rfl
theorem cells246 : Tryz.prog.cellsOf 246 = 8 := by kernel_rfl
theorem cells52 : Tryz.prog.cellsOf 52 = 1 := by kernel_rfl
theorem cells249 : Tryz.prog.cellsOf 249 = 5 := by kernel_rfl
theorem cells53 : Tryz.prog.cellsOf 53 = 1 := by kernel_rfl
theorem cells58 : Tryz.prog.cellsOf 58 = 26 := by kernel_rfl
theorem cells56 : Tryz.prog.cellsOf 56 = 1 := by kernel_rfl
theorem cells192 : Tryz.prog.cellsOf 192 = 8 := by kernel_rfl
theorem Response_open {n : Nat} {us : List V} (h : Cn Tryz.prog fl n 190 us) : ∃ a : TResponse, a.ok /\ us = [.int .i64 a.xStatus, .int .i64 a.xKind, .str a.xBody, .int .i64 a.xAge, .bool a.xShares, .str a.xPolicy] := by
 obtain ⟨m, hl, g0, g1, g2, g3, g4, g5, _⟩ := cn_struct h Tryz.underlying190
 rw [cells190] at hl
 obtain ⟨y0, o0, z0⟩ := fInt g0 Tryz.underlying3
 obtain ⟨y1, o1, z1⟩ := fInt g1 Tryz.underlying3
 obtain ⟨y2, o2, z2⟩ := fStr g2 Tryz.underlying9
 obtain ⟨y3, o3, z3⟩ := fInt g3 Tryz.underlying3
 obtain ⟨y4, o4, z4⟩ := fBool g4 Tryz.underlying4
 obtain ⟨y5, o5, z5⟩ := fStr g5 Tryz.underlying9
 have z := glue cells3 z0 (glue cells3 z1 (glue cells9 z2 (glue cells3 z3 (glue cells4 z4 (glue cells9 z5 (List.drop_eq_nil_of_le (Nat.le_of_eq hl)))))))
 exact ⟨⟨y0, y1, y2, y3, y4, y5⟩, ⟨o0, o1, o2, o3, o4, o5, trivial⟩, z⟩
theorem File_open {n : Nat} {us : List V} (h : Cn Tryz.prog fl n 288 us) : ∃ a : TFile, a.ok /\ us = [.str a.xPath, .int .i64 a.xResponse.xStatus, .int .i64 a.xResponse.xKind, .str a.xResponse.xBody, .int .i64 a.xResponse.xAge, .bool a.xResponse.xShares, .str a.xResponse.xPolicy] := by
 obtain ⟨m, hl, g0, g1, _⟩ := cn_struct h Tryz.underlying288
 rw [cells288] at hl
 obtain ⟨y0, o0, z0⟩ := fStr g0 Tryz.underlying9
 obtain ⟨y1, o1, z1⟩ := Response_open g1
 have z := glue cells9 z0 (glue cells190 z1 (List.drop_eq_nil_of_le (Nat.le_of_eq hl)))
 exact ⟨⟨y0, y1⟩, ⟨o0, o1, trivial⟩, z⟩
theorem Server_open {n : Nat} {us : List V} (h : Cn Tryz.prog fl n 176 us) : ∃ a : TServer, a.ok /\ us = [.str a.xHost, .sl 7 true (rows kFile TFile.row a.xFiles)] := by
 obtain ⟨m, hl, g0, g1, _⟩ := cn_struct h Tryz.underlying176
 rw [cells176] at hl
 obtain ⟨y0, o0, z0⟩ := fStr g0 Tryz.underlying9
 obtain ⟨y1, o1, z1⟩ := fRows (g := TFile.row) (ok := TFile.ok) g1 Tryz.underlying174 Tryz.underlying288 cells288 rfl File_open (fun _ => rfl)
 have z := glue cells9 z0 (glue cells174 z1 (List.drop_eq_nil_of_le (Nat.le_of_eq hl)))
 exact ⟨⟨y0, y1⟩, ⟨o0, o1, trivial⟩, z⟩
theorem Addr_open {n : Nat} {us : List V} (h : Cn Tryz.prog fl n 40 us) : ∃ a : TAddr, a.ok /\ us = [.str a.xHost, .str a.xPath] := by
 obtain ⟨m, hl, g0, g1, _⟩ := cn_struct h Tryz.underlying40
 rw [cells40] at hl
 obtain ⟨y0, o0, z0⟩ := fStr g0 Tryz.underlying9
 obtain ⟨y1, o1, z1⟩ := fStr g1 Tryz.underlying9
 have z := glue cells9 z0 (glue cells9 z1 (List.drop_eq_nil_of_le (Nat.le_of_eq hl)))
 exact ⟨⟨y0, y1⟩, ⟨o0, o1, trivial⟩, z⟩
theorem Entry_open {n : Nat} {us : List V} (h : Cn Tryz.prog fl n 237 us) : ∃ a : TEntry, a.ok /\ us = [.str a.xTop, .str a.xTo.xHost, .str a.xTo.xPath, .int .i64 a.xResponse.xStatus, .int .i64 a.xResponse.xKind, .str a.xResponse.xBody, .int .i64 a.xResponse.xAge, .bool a.xResponse.xShares, .str a.xResponse.xPolicy, .int .i64 a.xUntil] := by
 obtain ⟨m, hl, g0, g1, g2, g3, _⟩ := cn_struct h Tryz.underlying237
 rw [cells237] at hl
 obtain ⟨y0, o0, z0⟩ := fStr g0 Tryz.underlying9
 obtain ⟨y1, o1, z1⟩ := Addr_open g1
 obtain ⟨y2, o2, z2⟩ := Response_open g2
 obtain ⟨y3, o3, z3⟩ := fInt g3 Tryz.underlying3
 have z := glue cells9 z0 (glue cells40 z1 (glue cells190 z2 (glue cells3 z3 (List.drop_eq_nil_of_le (Nat.le_of_eq hl)))))
 exact ⟨⟨y0, y1, y2, y3⟩, ⟨o0, o1, o2, o3, trivial⟩, z⟩
theorem Cache_open {n : Nat} {us : List V} (h : Cn Tryz.prog fl n 35 us) : ∃ a : TCache, a.ok /\ us = [.sl 10 true (rows kEntry TEntry.row a.xEntries)] := by
 obtain ⟨m, hl, g0, _⟩ := cn_struct h Tryz.underlying35
 rw [cells35] at hl
 obtain ⟨y0, o0, z0⟩ := fRows (g := TEntry.row) (ok := TEntry.ok) g0 Tryz.underlying33 Tryz.underlying237 cells237 rfl Entry_open (fun _ => rfl)
 have z := glue cells33 z0 (List.drop_eq_nil_of_le (Nat.le_of_eq hl))
 exact ⟨⟨y0⟩, ⟨o0, trivial⟩, z⟩
theorem Sent_open {n : Nat} {us : List V} (h : Cn Tryz.prog fl n 180 us) : ∃ a : TSent, a.ok /\ us = [.str a.xTop, .str a.xTo.xHost, .str a.xTo.xPath, .bool a.xGuess] := by
 obtain ⟨m, hl, g0, g1, g2, _⟩ := cn_struct h Tryz.underlying180
 rw [cells180] at hl
 obtain ⟨y0, o0, z0⟩ := fStr g0 Tryz.underlying9
 obtain ⟨y1, o1, z1⟩ := Addr_open g1
 obtain ⟨y2, o2, z2⟩ := fBool g2 Tryz.underlying4
 have z := glue cells9 z0 (glue cells40 z1 (glue cells4 z2 (List.drop_eq_nil_of_le (Nat.le_of_eq hl))))
 exact ⟨⟨y0, y1, y2⟩, ⟨o0, o1, o2, trivial⟩, z⟩
theorem Net_open {n : Nat} {us : List V} (h : Cn Tryz.prog fl n 38 us) : ∃ a : TNet, a.ok /\ us = [.sl 2 false (rows kServer TServer.row a.xServers), .sl 10 true (rows kEntry TEntry.row a.xCache.xEntries), .sl 4 true (rows kSent TSent.row a.xLog), .int .i64 a.xNow] := by
 obtain ⟨m, hl, g0, g1, g2, g3, _⟩ := cn_struct h Tryz.underlying38
 rw [cells38] at hl
 obtain ⟨y0, o0, z0⟩ := fRows (g := TServer.row) (ok := TServer.ok) g0 Tryz.underlying32 Tryz.underlying176 cells176 rfl Server_open (fun _ => rfl)
 obtain ⟨y1, o1, z1⟩ := Cache_open g1
 obtain ⟨y2, o2, z2⟩ := fRows (g := TSent.row) (ok := TSent.ok) g2 Tryz.underlying36 Tryz.underlying180 cells180 rfl Sent_open (fun _ => rfl)
 obtain ⟨y3, o3, z3⟩ := fInt g3 Tryz.underlying3
 have z := glue cells32 z0 (glue cells35 z1 (glue cells36 z2 (glue cells3 z3 (List.drop_eq_nil_of_le (Nat.le_of_eq hl)))))
 exact ⟨⟨y0, y1, y2, y3⟩, ⟨o0, o1, o2, o3, trivial⟩, z⟩
theorem Policy_open {n : Nat} {us : List V} (h : Cn Tryz.prog fl n 43 us) : ∃ a : TPolicy, a.ok /\ us = [.bool a.xSet, .sl 1 true (rStr a.xScripts), .sl 1 true (rStr a.xStyles), .sl 1 true (rStr a.xImages), .str a.xNonce] := by
 obtain ⟨m, hl, g0, g1, g2, g3, g4, _⟩ := cn_struct h Tryz.underlying43
 rw [cells43] at hl
 obtain ⟨y0, o0, z0⟩ := fBool g0 Tryz.underlying4
 obtain ⟨y1, o1, z1⟩ := fStrs g1 Tryz.underlying41 Tryz.underlying9 cells9 rfl
 obtain ⟨y2, o2, z2⟩ := fStrs g2 Tryz.underlying41 Tryz.underlying9 cells9 rfl
 obtain ⟨y3, o3, z3⟩ := fStrs g3 Tryz.underlying41 Tryz.underlying9 cells9 rfl
 obtain ⟨y4, o4, z4⟩ := fStr g4 Tryz.underlying9
 have z := glue cells4 z0 (glue cells41 z1 (glue cells41 z2 (glue cells41 z3 (glue cells9 z4 (List.drop_eq_nil_of_le (Nat.le_of_eq hl))))))
 exact ⟨⟨y0, y1, y2, y3, y4⟩, ⟨o0, o1, o2, o3, o4, trivial⟩, z⟩
theorem Tokenizer_open {n : Nat} {us : List V} (h : Cn Tryz.prog fl n 45 us) : ∃ a : TTokenizer, a.ok /\ us = [.str a.xRest] := by
 obtain ⟨m, hl, g0, _⟩ := cn_struct h Tryz.underlying45
 rw [cells45] at hl
 obtain ⟨y0, o0, z0⟩ := fStr g0 Tryz.underlying9
 have z := glue cells9 z0 (List.drop_eq_nil_of_le (Nat.le_of_eq hl))
 exact ⟨⟨y0⟩, ⟨o0, trivial⟩, z⟩
theorem Attr_open {n : Nat} {us : List V} (h : Cn Tryz.prog fl n 308 us) : ∃ a : TAttr, a.ok /\ us = [.str a.xName, .str a.xValue] := by
 obtain ⟨m, hl, g0, g1, _⟩ := cn_struct h Tryz.underlying308
 rw [cells308] at hl
 obtain ⟨y0, o0, z0⟩ := fStr g0 Tryz.underlying9
 obtain ⟨y1, o1, z1⟩ := fStr g1 Tryz.underlying9
 have z := glue cells9 z0 (glue cells9 z1 (List.drop_eq_nil_of_le (Nat.le_of_eq hl)))
 exact ⟨⟨y0, y1⟩, ⟨o0, o1, trivial⟩, z⟩
theorem Token_open {n : Nat} {us : List V} (h : Cn Tryz.prog fl n 241 us) : ∃ a : TToken, a.ok /\ us = [.int .i64 a.xKind, .str a.xName, .sl 2 true (rows kAttr TAttr.row a.xAttrs), .str a.xText] := by
 obtain ⟨m, hl, g0, g1, g2, g3, _⟩ := cn_struct h Tryz.underlying241
 rw [cells241] at hl
 obtain ⟨y0, o0, z0⟩ := fInt g0 Tryz.underlying3
 obtain ⟨y1, o1, z1⟩ := fStr g1 Tryz.underlying9
 obtain ⟨y2, o2, z2⟩ := fRows (g := TAttr.row) (ok := TAttr.ok) g2 Tryz.underlying239 Tryz.underlying308 cells308 rfl Attr_open (fun _ => rfl)
 obtain ⟨y3, o3, z3⟩ := fStr g3 Tryz.underlying9
 have z := glue cells3 z0 (glue cells9 z1 (glue cells239 z2 (glue cells9 z3 (List.drop_eq_nil_of_le (Nat.le_of_eq hl)))))
 exact ⟨⟨y0, y1, y2, y3⟩, ⟨o0, o1, o2, o3, trivial⟩, z⟩
theorem Node_open {n : Nat} {us : List V} (h : Cn Tryz.prog fl n 292 us) : ∃ a : TNode, a.ok /\ us = [.str a.xName, .str a.xText, .int .i64 a.xParent, .sl 2 true (rows kAttr TAttr.row a.xAttrs)] := by
 obtain ⟨m, hl, g0, g1, g2, g3, _⟩ := cn_struct h Tryz.underlying292
 rw [cells292] at hl
 obtain ⟨y0, o0, z0⟩ := fStr g0 Tryz.underlying9
 obtain ⟨y1, o1, z1⟩ := fStr g1 Tryz.underlying9
 obtain ⟨y2, o2, z2⟩ := fInt g2 Tryz.underlying3
 obtain ⟨y3, o3, z3⟩ := fRows (g := TAttr.row) (ok := TAttr.ok) g3 Tryz.underlying239 Tryz.underlying308 cells308 rfl Attr_open (fun _ => rfl)
 have z := glue cells9 z0 (glue cells9 z1 (glue cells3 z2 (glue cells239 z3 (List.drop_eq_nil_of_le (Nat.le_of_eq hl)))))
 exact ⟨⟨y0, y1, y2, y3⟩, ⟨o0, o1, o2, o3, trivial⟩, z⟩
theorem Builder_open {n : Nat} {us : List V} (h : Cn Tryz.prog fl n 50 us) : ∃ a : TBuilder, a.ok /\ us = [.sl 4 false (rows kNode TNode.row a.xNodes), .sl 1 true (rInt a.xOpen)] := by
 obtain ⟨m, hl, g0, g1, _⟩ := cn_struct h Tryz.underlying50
 rw [cells50] at hl
 obtain ⟨y0, o0, z0⟩ := fRows (g := TNode.row) (ok := TNode.ok) g0 Tryz.underlying47 Tryz.underlying292 cells292 rfl Node_open (fun _ => rfl)
 obtain ⟨y1, o1, z1⟩ := fInts g1 Tryz.underlying48 Tryz.underlying3 cells3 rfl
 have z := glue cells47 z0 (glue cells48 z1 (List.drop_eq_nil_of_le (Nat.le_of_eq hl)))
 exact ⟨⟨y0, y1⟩, ⟨o0, o1, trivial⟩, z⟩
theorem Slot_open {n : Nat} {us : List V} (h : Cn Tryz.prog fl n 246 us) : ∃ a : TSlot, a.ok /\ us = [.int .i64 a.xMode, .str a.xTo.xHost, .str a.xTo.xPath, .str a.xDigest, .int .i64 a.xNode, .bool a.xDone, .int .i64 a.xCode, .str a.xBody] := by
 obtain ⟨m, hl, g0, g1, g2, g3, g4, g5, g6, _⟩ := cn_struct h Tryz.underlying246
 rw [cells246] at hl
 obtain ⟨y0, o0, z0⟩ := fInt g0 Tryz.underlying3
 obtain ⟨y1, o1, z1⟩ := Addr_open g1
 obtain ⟨y2, o2, z2⟩ := fStr g2 Tryz.underlying9
 obtain ⟨y3, o3, z3⟩ := fInt g3 Tryz.underlying3
 obtain ⟨y4, o4, z4⟩ := fBool g4 Tryz.underlying4
 obtain ⟨y5, o5, z5⟩ := fInt g5 Tryz.underlying3
 obtain ⟨y6, o6, z6⟩ := fStr g6 Tryz.underlying9
 have z := glue cells3 z0 (glue cells40 z1 (glue cells9 z2 (glue cells3 z3 (glue cells4 z4 (glue cells3 z5 (glue cells9 z6 (List.drop_eq_nil_of_le (Nat.le_of_eq hl))))))))
 exact ⟨⟨y0, y1, y2, y3, y4, y5, y6⟩, ⟨o0, o1, o2, o3, o4, o5, o6, trivial⟩, z⟩
theorem Module_open {n : Nat} {us : List V} (h : Cn Tryz.prog fl n 249 us) : ∃ a : TModule, a.ok /\ us = [.str a.xTo.xHost, .str a.xTo.xPath, .bool a.xDone, .int .i64 a.xCode, .str a.xBody] := by
 obtain ⟨m, hl, g0, g1, g2, g3, _⟩ := cn_struct h Tryz.underlying249
 rw [cells249] at hl
 obtain ⟨y0, o0, z0⟩ := Addr_open g0
 obtain ⟨y1, o1, z1⟩ := fBool g1 Tryz.underlying4
 obtain ⟨y2, o2, z2⟩ := fInt g2 Tryz.underlying3
 obtain ⟨y3, o3, z3⟩ := fStr g3 Tryz.underlying9
 have z := glue cells40 z0 (glue cells4 z1 (glue cells3 z2 (glue cells9 z3 (List.drop_eq_nil_of_le (Nat.le_of_eq hl)))))
 exact ⟨⟨y0, y1, y2, y3⟩, ⟨o0, o1, o2, o3, trivial⟩, z⟩
theorem Page_open {n : Nat} {us : List V} (h : Cn Tryz.prog fl n 55 us) : ∃ a : TPage, a.ok /\ us = [.str a.xAddr.xHost, .str a.xAddr.xPath, .bool a.xPolicy.xSet, .sl 1 true (rStr a.xPolicy.xScripts), .sl 1 true (rStr a.xPolicy.xStyles), .sl 1 true (rStr a.xPolicy.xImages), .str a.xPolicy.xNonce, .str a.xTok.xRest, .sl 4 false (rows kToken TToken.row a.xQueue), .bool a.xEnded, .sl 4 false (rows kNode TNode.row a.xBuilder.xNodes), .sl 1 true (rInt a.xBuilder.xOpen), .sl 8 true (rows kSlot TSlot.row a.xSlots), .sl 5 true (rows kModule TModule.row a.xMods), .sl 2 true (rows kAddr TAddr.row a.xEntries), .int .i64 a.xBlock, .int .i64 a.xInline, .int .i64 a.xDeferred, .int .i64 a.xEntered, .sl 2 true (rows kAddr TAddr.row a.xRan), .sl 1 true (rStr a.xLog), .bool a.xLoaded] := by
 obtain ⟨m, hl, g0, g1, g2, g3, g4, g5, g6, g7, g8, g9, g10, g11, g12, g13, g14, g15, _⟩ := cn_struct h Tryz.underlying55
 rw [cells55] at hl
 obtain ⟨y0, o0, z0⟩ := Addr_open g0
 obtain ⟨y1, o1, z1⟩ := Policy_open g1
 obtain ⟨y2, o2, z2⟩ := Tokenizer_open g2
 obtain ⟨y3, o3, z3⟩ := fRows (g := TToken.row) (ok := TToken.ok) g3 Tryz.underlying46 Tryz.underlying241 cells241 rfl Token_open (fun _ => rfl)
 obtain ⟨y4, o4, z4⟩ := fBool g4 Tryz.underlying4
 obtain ⟨y5, o5, z5⟩ := Builder_open g5
 obtain ⟨y6, o6, z6⟩ := fRows (g := TSlot.row) (ok := TSlot.ok) g6 Tryz.underlying51 Tryz.underlying246 cells246 rfl Slot_open (fun _ => rfl)
 obtain ⟨y7, o7, z7⟩ := fRows (g := TModule.row) (ok := TModule.ok) g7 Tryz.underlying52 Tryz.underlying249 cells249 rfl Module_open (fun _ => rfl)
 obtain ⟨y8, o8, z8⟩ := fRows (g := TAddr.row) (ok := TAddr.ok) g8 Tryz.underlying53 Tryz.underlying40 cells40 rfl Addr_open (fun _ => rfl)
 obtain ⟨y9, o9, z9⟩ := fInt g9 Tryz.underlying3
 obtain ⟨y10, o10, z10⟩ := fInt g10 Tryz.underlying3
 obtain ⟨y11, o11, z11⟩ := fInt g11 Tryz.underlying3
 obtain ⟨y12, o12, z12⟩ := fInt g12 Tryz.underlying3
 obtain ⟨y13, o13, z13⟩ := fRows (g := TAddr.row) (ok := TAddr.ok) g13 Tryz.underlying53 Tryz.underlying40 cells40 rfl Addr_open (fun _ => rfl)
 obtain ⟨y14, o14, z14⟩ := fStrs g14 Tryz.underlying41 Tryz.underlying9 cells9 rfl
 obtain ⟨y15, o15, z15⟩ := fBool g15 Tryz.underlying4
 have z := glue cells40 z0 (glue cells43 z1 (glue cells45 z2 (glue cells46 z3 (glue cells4 z4 (glue cells50 z5 (glue cells51 z6 (glue cells52 z7 (glue cells53 z8 (glue cells3 z9 (glue cells3 z10 (glue cells3 z11 (glue cells3 z12 (glue cells53 z13 (glue cells41 z14 (glue cells4 z15 (List.drop_eq_nil_of_le (Nat.le_of_eq hl)))))))))))))))))
 exact ⟨⟨y0, y1, y2, y3, y4, y5, y6, y7, y8, y9, y10, y11, y12, y13, y14, y15⟩, ⟨o0, o1, o2, o3, o4, o5, o6, o7, o8, o9, o10, o11, o12, o13, o14, o15, trivial⟩, z⟩
theorem Visit_open {n : Nat} {us : List V} (h : Cn Tryz.prog fl n 113 us) : ∃ a : TVisit, a.ok /\ us = [.str a.xAddr.xHost, .str a.xAddr.xPath, .str a.xPage.xAddr.xHost, .str a.xPage.xAddr.xPath, .bool a.xPage.xPolicy.xSet, .sl 1 true (rStr a.xPage.xPolicy.xScripts), .sl 1 true (rStr a.xPage.xPolicy.xStyles), .sl 1 true (rStr a.xPage.xPolicy.xImages), .str a.xPage.xPolicy.xNonce, .str a.xPage.xTok.xRest, .sl 4 false (rows kToken TToken.row a.xPage.xQueue), .bool a.xPage.xEnded, .sl 4 false (rows kNode TNode.row a.xPage.xBuilder.xNodes), .sl 1 true (rInt a.xPage.xBuilder.xOpen), .sl 8 true (rows kSlot TSlot.row a.xPage.xSlots), .sl 5 true (rows kModule TModule.row a.xPage.xMods), .sl 2 true (rows kAddr TAddr.row a.xPage.xEntries), .int .i64 a.xPage.xBlock, .int .i64 a.xPage.xInline, .int .i64 a.xPage.xDeferred, .int .i64 a.xPage.xEntered, .sl 2 true (rows kAddr TAddr.row a.xPage.xRan), .sl 1 true (rStr a.xPage.xLog), .bool a.xPage.xLoaded, .bool a.xKept] := by
 obtain ⟨m, hl, g0, g1, g2, _⟩ := cn_struct h Tryz.underlying113
 rw [cells113] at hl
 obtain ⟨y0, o0, z0⟩ := Addr_open g0
 obtain ⟨y1, o1, z1⟩ := Page_open g1
 obtain ⟨y2, o2, z2⟩ := fBool g2 Tryz.underlying4
 have z := glue cells40 z0 (glue cells55 z1 (glue cells4 z2 (List.drop_eq_nil_of_le (Nat.le_of_eq hl))))
 exact ⟨⟨y0, y1, y2⟩, ⟨o0, o1, o2, trivial⟩, z⟩
theorem Tab_open {n : Nat} {us : List V} (h : Cn Tryz.prog fl n 24 us) : ∃ a : TTab, a.ok /\ us = [.sl 25 false (rows kVisit TVisit.row a.xVisits), .int .i64 a.xAt] := by
 obtain ⟨m, hl, g0, g1, _⟩ := cn_struct h Tryz.underlying24
 rw [cells24] at hl
 obtain ⟨y0, o0, z0⟩ := fRows (g := TVisit.row) (ok := TVisit.ok) g0 Tryz.underlying22 Tryz.underlying113 cells113 rfl Visit_open (fun _ => rfl)
 obtain ⟨y1, o1, z1⟩ := fInt g1 Tryz.underlying3
 have z := glue cells22 z0 (glue cells3 z1 (List.drop_eq_nil_of_le (Nat.le_of_eq hl)))
 exact ⟨⟨y0, y1⟩, ⟨o0, o1, trivial⟩, z⟩
theorem Kept_open {n : Nat} {us : List V} (h : Cn Tryz.prog fl n 192 us) : ∃ a : TKept, a.ok /\ us = [.str a.xTo.xHost, .str a.xTo.xPath, .int .i64 a.xResponse.xStatus, .int .i64 a.xResponse.xKind, .str a.xResponse.xBody, .int .i64 a.xResponse.xAge, .bool a.xResponse.xShares, .str a.xResponse.xPolicy] := by
 obtain ⟨m, hl, g0, g1, _⟩ := cn_struct h Tryz.underlying192
 rw [cells192] at hl
 obtain ⟨y0, o0, z0⟩ := Addr_open g0
 obtain ⟨y1, o1, z1⟩ := Response_open g1
 have z := glue cells40 z0 (glue cells190 z1 (List.drop_eq_nil_of_le (Nat.le_of_eq hl)))
 exact ⟨⟨y0, y1⟩, ⟨o0, o1, trivial⟩, z⟩
theorem Hidden_open {n : Nat} {us : List V} (h : Cn Tryz.prog fl n 58 us) : ∃ a : THidden, a.ok /\ us = [.bool a.xReady, .str a.xPage.xAddr.xHost, .str a.xPage.xAddr.xPath, .bool a.xPage.xPolicy.xSet, .sl 1 true (rStr a.xPage.xPolicy.xScripts), .sl 1 true (rStr a.xPage.xPolicy.xStyles), .sl 1 true (rStr a.xPage.xPolicy.xImages), .str a.xPage.xPolicy.xNonce, .str a.xPage.xTok.xRest, .sl 4 false (rows kToken TToken.row a.xPage.xQueue), .bool a.xPage.xEnded, .sl 4 false (rows kNode TNode.row a.xPage.xBuilder.xNodes), .sl 1 true (rInt a.xPage.xBuilder.xOpen), .sl 8 true (rows kSlot TSlot.row a.xPage.xSlots), .sl 5 true (rows kModule TModule.row a.xPage.xMods), .sl 2 true (rows kAddr TAddr.row a.xPage.xEntries), .int .i64 a.xPage.xBlock, .int .i64 a.xPage.xInline, .int .i64 a.xPage.xDeferred, .int .i64 a.xPage.xEntered, .sl 2 true (rows kAddr TAddr.row a.xPage.xRan), .sl 1 true (rStr a.xPage.xLog), .bool a.xPage.xLoaded, .sl 8 true (rows kKept TKept.row a.xTaken), .sl 2 false (rows kServer TServer.row a.xServers), .int .i64 a.xNow] := by
 obtain ⟨m, hl, g0, g1, g2, g3, g4, _⟩ := cn_struct h Tryz.underlying58
 rw [cells58] at hl
 obtain ⟨y0, o0, z0⟩ := fBool g0 Tryz.underlying4
 obtain ⟨y1, o1, z1⟩ := Page_open g1
 obtain ⟨y2, o2, z2⟩ := fRows (g := TKept.row) (ok := TKept.ok) g2 Tryz.underlying56 Tryz.underlying192 cells192 rfl Kept_open (fun _ => rfl)
 obtain ⟨y3, o3, z3⟩ := fRows (g := TServer.row) (ok := TServer.ok) g3 Tryz.underlying32 Tryz.underlying176 cells176 rfl Server_open (fun _ => rfl)
 obtain ⟨y4, o4, z4⟩ := fInt g4 Tryz.underlying3
 have z := glue cells4 z0 (glue cells55 z1 (glue cells56 z2 (glue cells32 z3 (glue cells3 z4 (List.drop_eq_nil_of_le (Nat.le_of_eq hl))))))
 exact ⟨⟨y0, y1, y2, y3, y4⟩, ⟨o0, o1, o2, o3, o4, trivial⟩, z⟩
theorem World_open {n : Nat} {us : List V} (h : Cn Tryz.prog fl n 60 us) : ∃ a : TWorld, a.ok /\ us = [.sl 2 false (rows kServer TServer.row a.xNet.xServers), .sl 10 true (rows kEntry TEntry.row a.xNet.xCache.xEntries), .sl 4 true (rows kSent TSent.row a.xNet.xLog), .int .i64 a.xNet.xNow, .sl 25 false (rows kVisit TVisit.row a.xTab.xVisits), .int .i64 a.xTab.xAt, .bool a.xHidden.xReady, .str a.xHidden.xPage.xAddr.xHost, .str a.xHidden.xPage.xAddr.xPath, .bool a.xHidden.xPage.xPolicy.xSet, .sl 1 true (rStr a.xHidden.xPage.xPolicy.xScripts), .sl 1 true (rStr a.xHidden.xPage.xPolicy.xStyles), .sl 1 true (rStr a.xHidden.xPage.xPolicy.xImages), .str a.xHidden.xPage.xPolicy.xNonce, .str a.xHidden.xPage.xTok.xRest, .sl 4 false (rows kToken TToken.row a.xHidden.xPage.xQueue), .bool a.xHidden.xPage.xEnded, .sl 4 false (rows kNode TNode.row a.xHidden.xPage.xBuilder.xNodes), .sl 1 true (rInt a.xHidden.xPage.xBuilder.xOpen), .sl 8 true (rows kSlot TSlot.row a.xHidden.xPage.xSlots), .sl 5 true (rows kModule TModule.row a.xHidden.xPage.xMods), .sl 2 true (rows kAddr TAddr.row a.xHidden.xPage.xEntries), .int .i64 a.xHidden.xPage.xBlock, .int .i64 a.xHidden.xPage.xInline, .int .i64 a.xHidden.xPage.xDeferred, .int .i64 a.xHidden.xPage.xEntered, .sl 2 true (rows kAddr TAddr.row a.xHidden.xPage.xRan), .sl 1 true (rStr a.xHidden.xPage.xLog), .bool a.xHidden.xPage.xLoaded, .sl 8 true (rows kKept TKept.row a.xHidden.xTaken), .sl 2 false (rows kServer TServer.row a.xHidden.xServers), .int .i64 a.xHidden.xNow, .bool a.xFast] := by
 obtain ⟨m, hl, g0, g1, g2, g3, _⟩ := cn_struct h Tryz.underlying60
 rw [cells60] at hl
 obtain ⟨y0, o0, z0⟩ := Net_open g0
 obtain ⟨y1, o1, z1⟩ := Tab_open g1
 obtain ⟨y2, o2, z2⟩ := Hidden_open g2
 obtain ⟨y3, o3, z3⟩ := fBool g3 Tryz.underlying4
 have z := glue cells38 z0 (glue cells24 z1 (glue cells58 z2 (glue cells4 z3 (List.drop_eq_nil_of_le (Nat.le_of_eq hl)))))
 exact ⟨⟨y0, y1, y2, y3⟩, ⟨o0, o1, o2, o3, trivial⟩, z⟩
theorem answers : Answers Tryz.prog D := sound_den agree wrOk (fun den hD => drawOk agree (by kernel_rfl) hD) extAns
end Go.Am

/-
  The data of the laws: structures, their rows, their sizes; and what laws.sz.., laws.to.., laws.eq.. compute on them. Written by program (typed.py).
-/
import Derived.Test.YtcajalfelmgeiaaExt
import Derived.Test.YtcajalfelmgeiaaFw
import Derived.Test.YtcajalfelmgeiaaAmTyped
import Derived.Test.YtcajalfelmgeiaaTy
import Derived.Test.YtcajalfelmgeiaaAmData
import Derived.Test.YtcajalfelmgeiaaAmSeq
namespace Go.Am
open Go Go.Proofs
set_option linter.unusedVariables false
set_option linter.unusedSimpArgs false
variable {β : Type}

/-! ### Response -/
def TResponse.nul : TResponse := ⟨0, 0, [], 0, false, []⟩
def TResponse.size (a : TResponse) : Nat := a.xBody.length + (a.xPolicy.length + (0))
def TResponse.ok (a : TResponse) : Prop := okI a.xStatus ∧ okI a.xKind ∧ okS a.xBody ∧ okI a.xAge ∧ True ∧ okS a.xPolicy ∧ True
theorem szResponse (a : TResponse) (l : Int) (h0 : 0 ≤ l) (h1 : l ≤ 1048576) (h : a.ok) (k : Int → Option β) : F78 β a.xStatus a.xKind a.xBody a.xAge a.xShares a.xPolicy l k = k (szL l a.size) := by
  obtain ⟨q0, q1, q2, q3, q4, q5, _⟩ := h
  unfold TResponse.size
  simp only [F78, P78]
  refine szCut h0 h1 q2 (fun m2 e2 h0 h1 => ?_)
  rw [e2]
  refine szCut h0 h1 q5 (fun m5 e5 h0 h1 => ?_)
  rw [e5]
  exact szEnd h0
theorem toResponse (a : TResponse) (h : a.size ≤ 1048576) (k : Int → Int → List UInt8 → Int → Bool → List UInt8 → Option β) : F80 β a.xStatus a.xKind a.xBody a.xAge a.xShares a.xPolicy k = k a.xStatus a.xKind a.xBody a.xAge a.xShares a.xPolicy := by
  unfold TResponse.size at h
  simp only [F80, P80]
theorem eqResponse_iff (a b : TResponse) : ((a.xStatus == b.xStatus) && ((a.xKind == b.xKind) && ((a.xBody == b.xBody) && ((a.xAge == b.xAge) && ((a.xShares == b.xShares) && ((a.xPolicy == b.xPolicy) && (true))))))) = decide (a = b) := by
  cases a; cases b
  rw [Bool.eq_iff_iff]
  simp only [TResponse.mk.injEq, Bool.and_true, Bool.and_eq_true, beq_iff_eq, decide_eq_true_eq]
theorem eqResponse (a b : TResponse) (h : a.ok) (k : Bool → Option β) : F94 β a.xStatus a.xKind a.xBody a.xAge a.xShares a.xPolicy b.xStatus b.xKind b.xBody b.xAge b.xShares b.xPolicy k = k (decide (a = b)) := by
  obtain ⟨q0, q1, q2, q3, q4, q5, _⟩ := h
  simp only [F94, P94]
  refine Eq.trans ?_ (congrArg k (eqResponse_iff a b))
  refine eqCut ?_
  refine eqCut ?_
  refine eqCut ?_
  refine eqCut ?_
  refine eqCut ?_
  refine eqCut ?_
  rfl

/-! ### File -/
def TFile.nul : TFile := ⟨[], TResponse.nul⟩
def TFile.size (a : TFile) : Nat := a.xPath.length + (TResponse.size a.xResponse + (0))
def TFile.ok (a : TFile) : Prop := okS a.xPath ∧ TResponse.ok a.xResponse ∧ True
theorem szFile (a : TFile) (l : Int) (h0 : 0 ≤ l) (h1 : l ≤ 1048576) (h : a.ok) (k : Int → Option β) : F77 β a.xPath a.xResponse.xStatus a.xResponse.xKind a.xResponse.xBody a.xResponse.xAge a.xResponse.xShares a.xResponse.xPolicy l k = k (szL l a.size) := by
  obtain ⟨q0, q1, _⟩ := h
  unfold TFile.size
  simp only [F77, P77]
  refine szCut h0 h1 q0 (fun m0 e0 h0 h1 => ?_)
  rw [e0]
  refine (szResponse a.xResponse _ h0 h1 q1 _).trans (szSub h0 h1 (fun m1 e1 h0 h1 => ?_))
  rw [e1]
  exact szEnd h0
theorem toFile (a : TFile) (h : a.size ≤ 1048576) (k : List UInt8 → Int → Int → List UInt8 → Int → Bool → List UInt8 → Option β) : F79 β a.xPath a.xResponse.xStatus a.xResponse.xKind a.xResponse.xBody a.xResponse.xAge a.xResponse.xShares a.xResponse.xPolicy k = k a.xPath a.xResponse.xStatus a.xResponse.xKind a.xResponse.xBody a.xResponse.xAge a.xResponse.xShares a.xResponse.xPolicy := by
  unfold TFile.size at h
  simp only [F79, P79]
  exact (toResponse a.xResponse (by omega) _).trans (rfl)
theorem eqFile_iff (a b : TFile) : ((a.xPath == b.xPath) && (decide (a.xResponse = b.xResponse) && (true))) = decide (a = b) := by
  cases a; cases b
  rw [Bool.eq_iff_iff]
  simp only [TFile.mk.injEq, Bool.and_true, Bool.and_eq_true, beq_iff_eq, decide_eq_true_eq]
theorem eqFile (a b : TFile) (h : a.ok) (k : Bool → Option β) : F93 β a.xPath a.xResponse.xStatus a.xResponse.xKind a.xResponse.xBody a.xResponse.xAge a.xResponse.xShares a.xResponse.xPolicy b.xPath b.xResponse.xStatus b.xResponse.xKind b.xResponse.xBody b.xResponse.xAge b.xResponse.xShares b.xResponse.xPolicy k = k (decide (a = b)) := by
  obtain ⟨q0, q1, _⟩ := h
  simp only [F93, P93]
  refine Eq.trans ?_ (congrArg k (eqFile_iff a b))
  refine eqCut ?_
  refine (eqResponse a.xResponse b.xResponse q1 _).trans (eqCut ?_)
  rfl
theorem szFileS (a : List TFile) (l : Int) (h0 : 0 ≤ l) (h1 : l ≤ 1048576) (h : okL TFile.ok a) (k : Int → Option β) : F64 β (rows kFile TFile.row a) l k = k (szL l (a.length + sumL TFile.size a)) :=
  szS_g (g := TFile.row) (fun e m k => F77 _ e.1 e.2.1 e.2.2.1 e.2.2.2.1 e.2.2.2.2.1 e.2.2.2.2.2.1 e.2.2.2.2.2.2.1 m k) (fun y m h0 h1 h k => szFile y m h0 h1 h k) a l h0 h1 h k
theorem toFileS (a : List TFile) (h : a.length + sumL TFile.size a ≤ 1048576) (k : List V → Option β) : F67 β (rows kFile TFile.row a) k = k (rows kFile TFile.row a) :=
  toS_g (g := TFile.row) (z := TFile.nul) (fun e k => F79 _ e.1 e.2.1 e.2.2.1 e.2.2.2.1 e.2.2.2.2.1 e.2.2.2.2.2.1 e.2.2.2.2.2.2.1 fun v0 v1 v2 v3 v4 v5 v6 => k [.str v0, .int .i64 v1, .int .i64 v2, .str v3, .int .i64 v4, .bool v5, .str v6]) (fun y h k => toFile y h _) (by decide) rfl a h k
theorem eqFileS (a b : List TFile) (h : okL TFile.ok a) (k : Bool → Option β) : F73 β (rows kFile TFile.row a) (rows kFile TFile.row b) k = k (decide (a = b)) :=
  eqS_g (g := TFile.row) (fun e e2 k => F93 _ e.1 e.2.1 e.2.2.1 e.2.2.2.1 e.2.2.2.2.1 e.2.2.2.2.2.1 e.2.2.2.2.2.2.1 e2.1 e2.2.1 e2.2.2.1 e2.2.2.2.1 e2.2.2.2.2.1 e2.2.2.2.2.2.1 e2.2.2.2.2.2.2.1 k) (fun x y h k => eqFile x y h k) a b h k

/-! ### Server -/
def TServer.nul : TServer := ⟨[], []⟩
def TServer.size (a : TServer) : Nat := a.xHost.length + ((a.xFiles.length + sumL TFile.size a.xFiles) + (0))
def TServer.ok (a : TServer) : Prop := okS a.xHost ∧ okL TFile.ok a.xFiles ∧ True
theorem szServer (a : TServer) (l : Int) (h0 : 0 ≤ l) (h1 : l ≤ 1048576) (h : a.ok) (k : Int → Option β) : F44 β a.xHost (rows kFile TFile.row a.xFiles) l k = k (szL l a.size) := by
  obtain ⟨q0, q1, _⟩ := h
  unfold TServer.size
  simp only [F44, P44]
  refine szCut h0 h1 q0 (fun m0 e0 h0 h1 => ?_)
  rw [e0]
  refine (szFileS a.xFiles _ h0 h1 q1 _).trans (szSub h0 h1 (fun m1 e1 h0 h1 => ?_))
  rw [e1]
  exact szEnd h0
theorem toServer (a : TServer) (h : a.size ≤ 1048576) (k : List UInt8 → List V → Option β) : F48 β a.xHost (rows kFile TFile.row a.xFiles) k = k a.xHost (rows kFile TFile.row a.xFiles) := by
  unfold TServer.size at h
  simp only [F48, P48]
  exact (toFileS a.xFiles (by omega) _).trans (rfl)
theorem eqServer_iff (a b : TServer) : ((a.xHost == b.xHost) && (decide (a.xFiles = b.xFiles) && (true))) = decide (a = b) := by
  cases a; cases b
  rw [Bool.eq_iff_iff]
  simp only [TServer.mk.injEq, Bool.and_true, Bool.and_eq_true, beq_iff_eq, decide_eq_true_eq]
theorem eqServer (a b : TServer) (h : a.ok) (k : Bool → Option β) : F54 β a.xHost (rows kFile TFile.row a.xFiles) b.xHost (rows kFile TFile.row b.xFiles) k = k (decide (a = b)) := by
  obtain ⟨q0, q1, _⟩ := h
  simp only [F54, P54]
  refine Eq.trans ?_ (congrArg k (eqServer_iff a b))
  refine eqCut ?_
  refine (eqFileS a.xFiles b.xFiles q1 _).trans (eqCut ?_)
  rfl
theorem szServerS (a : List TServer) (l : Int) (h0 : 0 ≤ l) (h1 : l ≤ 1048576) (h : okL TServer.ok a) (k : Int → Option β) : F22 β (rows kServer TServer.row a) l k = k (szL l (a.length + sumL TServer.size a)) :=
  szS_g (g := TServer.row) (fun e m k => F44 _ e.1 e.2.1 m k) (fun y m h0 h1 h k => szServer y m h0 h1 h k) a l h0 h1 h k
theorem toServerS (a : List TServer) (h : a.length + sumL TServer.size a ≤ 1048576) (k : List V → Option β) : F26 β (rows kServer TServer.row a) k = k (rows kServer TServer.row a) :=
  toS_g (g := TServer.row) (z := TServer.nul) (fun e k => F48 _ e.1 e.2.1 fun v0 v1 => k [.str v0, .sl 7 true v1]) (fun y h k => toServer y h _) (by decide) rfl a h k
theorem eqServerS (a b : List TServer) (h : okL TServer.ok a) (k : Bool → Option β) : F32 β (rows kServer TServer.row a) (rows kServer TServer.row b) k = k (decide (a = b)) :=
  eqS_g (g := TServer.row) (fun e e2 k => F54 _ e.1 e.2.1 e2.1 e2.2.1 k) (fun x y h k => eqServer x y h k) a b h k
open Classical in noncomputable def lszServerS (a : List TServer) (l : Int) : Option Int := if 0 ≤ l ∧ l ≤ 1048576 ∧ okL TServer.ok a then some (szL l (a.length + sumL TServer.size a)) else none
theorem ei_lszServerS (a : List TServer) (l : Int) (k : Int → Option β) : Imp (F22 β (rows kServer TServer.row a) l k) (lszServerS a l) (fun r => k r) := by
  intro r h
  unfold lszServerS at h
  split at h
  · rename_i c; cases h; exact szServerS a l c.1 c.2.1 c.2.2 k
  · cases h
def ltoServerS (a : List TServer) : Option (List TServer) := if a.length + sumL TServer.size a ≤ 1048576 then some a else none
theorem ei_ltoServerS (a : List TServer) (k : List V → Option β) : Imp (F26 β (rows kServer TServer.row a) k) (ltoServerS a) (fun r => k (rows kServer TServer.row r)) := by
  intro r h
  unfold ltoServerS at h
  split at h
  · rename_i c; cases h; exact toServerS a c k
  · cases h
open Classical in noncomputable def leqServerS (a b : List TServer) : Option Bool := if okL TServer.ok a then some (decide (a = b)) else none
theorem ei_leqServerS (a b : List TServer) (k : Bool → Option β) : Imp (F32 β (rows kServer TServer.row a) (rows kServer TServer.row b) k) (leqServerS a b) (fun r => k r) := by
  intro r h
  unfold leqServerS at h
  split at h
  · rename_i c; cases h; refine (eqServerS a b c k).trans ?_; congr
  · cases h

/-! ### Addr -/
def TAddr.nul : TAddr := ⟨[], []⟩
def TAddr.size (a : TAddr) : Nat := a.xHost.length + (a.xPath.length + (0))
def TAddr.ok (a : TAddr) : Prop := okS a.xHost ∧ okS a.xPath ∧ True
theorem szAddr (a : TAddr) (l : Int) (h0 : 0 ≤ l) (h1 : l ≤ 1048576) (h : a.ok) (k : Int → Option β) : F66 β a.xHost a.xPath l k = k (szL l a.size) := by
  obtain ⟨q0, q1, _⟩ := h
  unfold TAddr.size
  simp only [F66, P66]
  refine szCut h0 h1 q0 (fun m0 e0 h0 h1 => ?_)
  rw [e0]
  refine szCut h0 h1 q1 (fun m1 e1 h0 h1 => ?_)
  rw [e1]
  exact szEnd h0
theorem toAddr (a : TAddr) (h : a.size ≤ 1048576) (k : List UInt8 → List UInt8 → Option β) : F69 β a.xHost a.xPath k = k a.xHost a.xPath := by
  unfold TAddr.size at h
  simp only [F69, P69]
theorem eqAddr_iff (a b : TAddr) : ((a.xHost == b.xHost) && ((a.xPath == b.xPath) && (true))) = decide (a = b) := by
  cases a; cases b
  rw [Bool.eq_iff_iff]
  simp only [TAddr.mk.injEq, Bool.and_true, Bool.and_eq_true, beq_iff_eq, decide_eq_true_eq]
theorem eqAddr (a b : TAddr) (h : a.ok) (k : Bool → Option β) : F43 β a.xHost a.xPath b.xHost b.xPath k = k (decide (a = b)) := by
  obtain ⟨q0, q1, _⟩ := h
  simp only [F43, P43]
  refine Eq.trans ?_ (congrArg k (eqAddr_iff a b))
  refine eqCut ?_
  refine eqCut ?_
  rfl
open Classical in noncomputable def leqAddr (a b : TAddr) : Option Bool := if TAddr.ok a then some (decide (a = b)) else none
theorem ei_leqAddr (a b : TAddr) (k : Bool → Option β) : Imp (F43 β a.xHost a.xPath b.xHost b.xPath k) (leqAddr a b) (fun r => k r) := by
  intro r h
  unfold leqAddr at h
  split at h
  · rename_i c; cases h; refine (eqAddr a b c k).trans ?_; congr
  · cases h
theorem eqAddrS (a b : List TAddr) (h : okL TAddr.ok a) (k : Bool → Option β) : F17 β (rows kAddr TAddr.row a) (rows kAddr TAddr.row b) k = k (decide (a = b)) :=
  eqS_g (g := TAddr.row) (fun e e2 k => F43 _ e.1 e.2.1 e2.1 e2.2.1 k) (fun x y h k => eqAddr x y h k) a b h k

/-! ### Entry -/
def TEntry.nul : TEntry := ⟨[], TAddr.nul, TResponse.nul, 0⟩
def TEntry.size (a : TEntry) : Nat := a.xTop.length + (TAddr.size a.xTo + (TResponse.size a.xResponse + (0)))
def TEntry.ok (a : TEntry) : Prop := okS a.xTop ∧ TAddr.ok a.xTo ∧ TResponse.ok a.xResponse ∧ okI a.xUntil ∧ True
theorem szEntry (a : TEntry) (l : Int) (h0 : 0 ≤ l) (h1 : l ≤ 1048576) (h : a.ok) (k : Int → Option β) : F65 β a.xTop a.xTo.xHost a.xTo.xPath a.xResponse.xStatus a.xResponse.xKind a.xResponse.xBody a.xResponse.xAge a.xResponse.xShares a.xResponse.xPolicy a.xUntil l k = k (szL l a.size) := by
  obtain ⟨q0, q1, q2, q3, _⟩ := h
  unfold TEntry.size
  simp only [F65, P65]
  refine szCut h0 h1 q0 (fun m0 e0 h0 h1 => ?_)
  rw [e0]
  refine (szAddr a.xTo _ h0 h1 q1 _).trans (szSub h0 h1 (fun m1 e1 h0 h1 => ?_))
  rw [e1]
  refine (szResponse a.xResponse _ h0 h1 q2 _).trans (szSub h0 h1 (fun m2 e2 h0 h1 => ?_))
  rw [e2]
  exact szEnd h0
theorem toEntry (a : TEntry) (h : a.size ≤ 1048576) (k : List UInt8 → List UInt8 → List UInt8 → Int → Int → List UInt8 → Int → Bool → List UInt8 → Int → Option β) : F68 β a.xTop a.xTo.xHost a.xTo.xPath a.xResponse.xStatus a.xResponse.xKind a.xResponse.xBody a.xResponse.xAge a.xResponse.xShares a.xResponse.xPolicy a.xUntil k = k a.xTop a.xTo.xHost a.xTo.xPath a.xResponse.xStatus a.xResponse.xKind a.xResponse.xBody a.xResponse.xAge a.xResponse.xShares a.xResponse.xPolicy a.xUntil := by
  unfold TEntry.size at h
  simp only [F68, P68]
  exact (toAddr a.xTo (by omega) _).trans ((toResponse a.xResponse (by omega) _).trans (rfl))
theorem eqEntry_iff (a b : TEntry) : ((a.xTop == b.xTop) && (decide (a.xTo = b.xTo) && (decide (a.xResponse = b.xResponse) && ((a.xUntil == b.xUntil) && (true))))) = decide (a = b) := by
  cases a; cases b
  rw [Bool.eq_iff_iff]
  simp only [TEntry.mk.injEq, Bool.and_true, Bool.and_eq_true, beq_iff_eq, decide_eq_true_eq]
theorem eqEntry (a b : TEntry) (h : a.ok) (k : Bool → Option β) : F74 β a.xTop a.xTo.xHost a.xTo.xPath a.xResponse.xStatus a.xResponse.xKind a.xResponse.xBody a.xResponse.xAge a.xResponse.xShares a.xResponse.xPolicy a.xUntil b.xTop b.xTo.xHost b.xTo.xPath b.xResponse.xStatus b.xResponse.xKind b.xResponse.xBody b.xResponse.xAge b.xResponse.xShares b.xResponse.xPolicy b.xUntil k = k (decide (a = b)) := by
  obtain ⟨q0, q1, q2, q3, _⟩ := h
  simp only [F74, P74]
  refine Eq.trans ?_ (congrArg k (eqEntry_iff a b))
  refine eqCut ?_
  refine (eqAddr a.xTo b.xTo q1 _).trans (eqCut ?_)
  refine (eqResponse a.xResponse b.xResponse q2 _).trans (eqCut ?_)
  refine eqCut ?_
  rfl
theorem szEntryS (a : List TEntry) (l : Int) (h0 : 0 ≤ l) (h1 : l ≤ 1048576) (h : okL TEntry.ok a) (k : Int → Option β) : F45 β (rows kEntry TEntry.row a) l k = k (szL l (a.length + sumL TEntry.size a)) :=
  szS_g (g := TEntry.row) (fun e m k => F65 _ e.1 e.2.1 e.2.2.1 e.2.2.2.1 e.2.2.2.2.1 e.2.2.2.2.2.1 e.2.2.2.2.2.2.1 e.2.2.2.2.2.2.2.1 e.2.2.2.2.2.2.2.2.1 e.2.2.2.2.2.2.2.2.2.1 m k) (fun y m h0 h1 h k => szEntry y m h0 h1 h k) a l h0 h1 h k
theorem toEntryS (a : List TEntry) (h : a.length + sumL TEntry.size a ≤ 1048576) (k : List V → Option β) : F49 β (rows kEntry TEntry.row a) k = k (rows kEntry TEntry.row a) :=
  toS_g (g := TEntry.row) (z := TEntry.nul) (fun e k => F68 _ e.1 e.2.1 e.2.2.1 e.2.2.2.1 e.2.2.2.2.1 e.2.2.2.2.2.1 e.2.2.2.2.2.2.1 e.2.2.2.2.2.2.2.1 e.2.2.2.2.2.2.2.2.1 e.2.2.2.2.2.2.2.2.2.1 fun v0 v1 v2 v3 v4 v5 v6 v7 v8 v9 => k [.str v0, .str v1, .str v2, .int .i64 v3, .int .i64 v4, .str v5, .int .i64 v6, .bool v7, .str v8, .int .i64 v9]) (fun y h k => toEntry y h _) (by decide) rfl a h k
theorem eqEntryS (a b : List TEntry) (h : okL TEntry.ok a) (k : Bool → Option β) : F55 β (rows kEntry TEntry.row a) (rows kEntry TEntry.row b) k = k (decide (a = b)) :=
  eqS_g (g := TEntry.row) (fun e e2 k => F74 _ e.1 e.2.1 e.2.2.1 e.2.2.2.1 e.2.2.2.2.1 e.2.2.2.2.2.1 e.2.2.2.2.2.2.1 e.2.2.2.2.2.2.2.1 e.2.2.2.2.2.2.2.2.1 e.2.2.2.2.2.2.2.2.2.1 e2.1 e2.2.1 e2.2.2.1 e2.2.2.2.1 e2.2.2.2.2.1 e2.2.2.2.2.2.1 e2.2.2.2.2.2.2.1 e2.2.2.2.2.2.2.2.1 e2.2.2.2.2.2.2.2.2.1 e2.2.2.2.2.2.2.2.2.2.1 k) (fun x y h k => eqEntry x y h k) a b h k

/-! ### Cache -/
def TCache.nul : TCache := ⟨[]⟩
def TCache.size (a : TCache) : Nat := (a.xEntries.length + sumL TEntry.size a.xEntries) + (0)
def TCache.ok (a : TCache) : Prop := okL TEntry.ok a.xEntries ∧ True
theorem szCache (a : TCache) (l : Int) (h0 : 0 ≤ l) (h1 : l ≤ 1048576) (h : a.ok) (k : Int → Option β) : F23 β (rows kEntry TEntry.row a.xEntries) l k = k (szL l a.size) := by
  obtain ⟨q0, _⟩ := h
  unfold TCache.size
  simp only [F23, P23]
  refine (szEntryS a.xEntries _ h0 h1 q0 _).trans (szSub h0 h1 (fun m0 e0 h0 h1 => ?_))
  rw [e0]
  exact szEnd h0
theorem toCache (a : TCache) (h : a.size ≤ 1048576) (k : List V → Option β) : F27 β (rows kEntry TEntry.row a.xEntries) k = k (rows kEntry TEntry.row a.xEntries) := by
  unfold TCache.size at h
  simp only [F27, P27]
  exact (toEntryS a.xEntries (by omega) _).trans (rfl)
theorem eqCache_iff (a b : TCache) : (decide (a.xEntries = b.xEntries) && (true)) = decide (a = b) := by
  cases a; cases b
  rw [Bool.eq_iff_iff]
  simp only [TCache.mk.injEq, Bool.and_true, Bool.and_eq_true, beq_iff_eq, decide_eq_true_eq]
theorem eqCache (a b : TCache) (h : a.ok) (k : Bool → Option β) : F33 β (rows kEntry TEntry.row a.xEntries) (rows kEntry TEntry.row b.xEntries) k = k (decide (a = b)) := by
  obtain ⟨q0, _⟩ := h
  simp only [F33, P33]
  refine Eq.trans ?_ (congrArg k (eqCache_iff a b))
  refine (eqEntryS a.xEntries b.xEntries q0 _).trans (eqCut ?_)
  rfl
open Classical in noncomputable def lszCache (a : TCache) (l : Int) : Option Int := if 0 ≤ l ∧ l ≤ 1048576 ∧ TCache.ok a then some (szL l (TCache.size a)) else none
theorem ei_lszCache (a : TCache) (l : Int) (k : Int → Option β) : Imp (F23 β (rows kEntry TEntry.row a.xEntries) l k) (lszCache a l) (fun r => k r) := by
  intro r h
  unfold lszCache at h
  split at h
  · rename_i c; cases h; exact szCache a l c.1 c.2.1 c.2.2 k
  · cases h
def ltoCache (a : TCache) : Option TCache := if TCache.size a ≤ 1048576 then some a else none
theorem ei_ltoCache (a : TCache) (k : List V → Option β) : Imp (F27 β (rows kEntry TEntry.row a.xEntries) k) (ltoCache a) (fun r => k (rows kEntry TEntry.row r.xEntries)) := by
  intro r h
  unfold ltoCache at h
  split at h
  · rename_i c; cases h; exact toCache a c k
  · cases h
open Classical in noncomputable def leqCache (a b : TCache) : Option Bool := if TCache.ok a then some (decide (a = b)) else none
theorem ei_leqCache (a b : TCache) (k : Bool → Option β) : Imp (F33 β (rows kEntry TEntry.row a.xEntries) (rows kEntry TEntry.row b.xEntries) k) (leqCache a b) (fun r => k r) := by
  intro r h
  unfold leqCache at h
  split at h
  · rename_i c; cases h; refine (eqCache a b c k).trans ?_; congr
  · cases h

/-! ### Sent -/
def TSent.nul : TSent := ⟨[], TAddr.nul, false⟩
def TSent.size (a : TSent) : Nat := a.xTop.length + (TAddr.size a.xTo + (0))
def TSent.ok (a : TSent) : Prop := okS a.xTop ∧ TAddr.ok a.xTo ∧ True ∧ True
theorem szSent (a : TSent) (l : Int) (h0 : 0 ≤ l) (h1 : l ≤ 1048576) (h : a.ok) (k : Int → Option β) : F46 β a.xTop a.xTo.xHost a.xTo.xPath a.xGuess l k = k (szL l a.size) := by
  obtain ⟨q0, q1, q2, _⟩ := h
  unfold TSent.size
  simp only [F46, P46]
  refine szCut h0 h1 q0 (fun m0 e0 h0 h1 => ?_)
  rw [e0]
  refine (szAddr a.xTo _ h0 h1 q1 _).trans (szSub h0 h1 (fun m1 e1 h0 h1 => ?_))
  rw [e1]
  exact szEnd h0
theorem toSent (a : TSent) (h : a.size ≤ 1048576) (k : List UInt8 → List UInt8 → List UInt8 → Bool → Option β) : F50 β a.xTop a.xTo.xHost a.xTo.xPath a.xGuess k = k a.xTop a.xTo.xHost a.xTo.xPath a.xGuess := by
  unfold TSent.size at h
  simp only [F50, P50]
  exact (toAddr a.xTo (by omega) _).trans (rfl)
theorem eqSent_iff (a b : TSent) : ((a.xTop == b.xTop) && (decide (a.xTo = b.xTo) && ((a.xGuess == b.xGuess) && (true)))) = decide (a = b) := by
  cases a; cases b
  rw [Bool.eq_iff_iff]
  simp only [TSent.mk.injEq, Bool.and_true, Bool.and_eq_true, beq_iff_eq, decide_eq_true_eq]
theorem eqSent (a b : TSent) (h : a.ok) (k : Bool → Option β) : F56 β a.xTop a.xTo.xHost a.xTo.xPath a.xGuess b.xTop b.xTo.xHost b.xTo.xPath b.xGuess k = k (decide (a = b)) := by
  obtain ⟨q0, q1, q2, _⟩ := h
  simp only [F56, P56]
  refine Eq.trans ?_ (congrArg k (eqSent_iff a b))
  refine eqCut ?_
  refine (eqAddr a.xTo b.xTo q1 _).trans (eqCut ?_)
  refine eqCut ?_
  rfl
theorem szSentS (a : List TSent) (l : Int) (h0 : 0 ≤ l) (h1 : l ≤ 1048576) (h : okL TSent.ok a) (k : Int → Option β) : F24 β (rows kSent TSent.row a) l k = k (szL l (a.length + sumL TSent.size a)) :=
  szS_g (g := TSent.row) (fun e m k => F46 _ e.1 e.2.1 e.2.2.1 e.2.2.2.1 m k) (fun y m h0 h1 h k => szSent y m h0 h1 h k) a l h0 h1 h k
theorem toSentS (a : List TSent) (h : a.length + sumL TSent.size a ≤ 1048576) (k : List V → Option β) : F28 β (rows kSent TSent.row a) k = k (rows kSent TSent.row a) :=
  toS_g (g := TSent.row) (z := TSent.nul) (fun e k => F50 _ e.1 e.2.1 e.2.2.1 e.2.2.2.1 fun v0 v1 v2 v3 => k [.str v0, .str v1, .str v2, .bool v3]) (fun y h k => toSent y h _) (by decide) rfl a h k
theorem eqSentS (a b : List TSent) (h : okL TSent.ok a) (k : Bool → Option β) : F34 β (rows kSent TSent.row a) (rows kSent TSent.row b) k = k (decide (a = b)) :=
  eqS_g (g := TSent.row) (fun e e2 k => F56 _ e.1 e.2.1 e.2.2.1 e.2.2.2.1 e2.1 e2.2.1 e2.2.2.1 e2.2.2.2.1 k) (fun x y h k => eqSent x y h k) a b h k
open Classical in noncomputable def lszSentS (a : List TSent) (l : Int) : Option Int := if 0 ≤ l ∧ l ≤ 1048576 ∧ okL TSent.ok a then some (szL l (a.length + sumL TSent.size a)) else none
theorem ei_lszSentS (a : List TSent) (l : Int) (k : Int → Option β) : Imp (F24 β (rows kSent TSent.row a) l k) (lszSentS a l) (fun r => k r) := by
  intro r h
  unfold lszSentS at h
  split at h
  · rename_i c; cases h; exact szSentS a l c.1 c.2.1 c.2.2 k
  · cases h
def ltoSentS (a : List TSent) : Option (List TSent) := if a.length + sumL TSent.size a ≤ 1048576 then some a else none
theorem ei_ltoSentS (a : List TSent) (k : List V → Option β) : Imp (F28 β (rows kSent TSent.row a) k) (ltoSentS a) (fun r => k (rows kSent TSent.row r)) := by
  intro r h
  unfold ltoSentS at h
  split at h
  · rename_i c; cases h; exact toSentS a c k
  · cases h
open Classical in noncomputable def leqSentS (a b : List TSent) : Option Bool := if okL TSent.ok a then some (decide (a = b)) else none
theorem ei_leqSentS (a b : List TSent) (k : Bool → Option β) : Imp (F34 β (rows kSent TSent.row a) (rows kSent TSent.row b) k) (leqSentS a b) (fun r => k r) := by
  intro r h
  unfold leqSentS at h
  split at h
  · rename_i c; cases h; refine (eqSentS a b c k).trans ?_; congr
  · cases h

/-! ### Net -/
def TNet.nul : TNet := ⟨[], TCache.nul, [], 0⟩
def TNet.size (a : TNet) : Nat := (a.xServers.length + sumL TServer.size a.xServers) + (TCache.size a.xCache + ((a.xLog.length + sumL TSent.size a.xLog) + (0)))
def TNet.ok (a : TNet) : Prop := okL TServer.ok a.xServers ∧ TCache.ok a.xCache ∧ okL TSent.ok a.xLog ∧ okI a.xNow ∧ True
theorem szNet (a : TNet) (l : Int) (h0 : 0 ≤ l) (h1 : l ≤ 1048576) (h : a.ok) (k : Int → Option β) : F6 β (rows kServer TServer.row a.xServers) (rows kEntry TEntry.row a.xCache.xEntries) (rows kSent TSent.row a.xLog) a.xNow l k = k (szL l a.size) := by
  obtain ⟨q0, q1, q2, q3, _⟩ := h
  unfold TNet.size
  simp only [F6, P6]
  refine (szServerS a.xServers _ h0 h1 q0 _).trans (szSub h0 h1 (fun m0 e0 h0 h1 => ?_))
  rw [e0]
  refine (szCache a.xCache _ h0 h1 q1 _).trans (szSub h0 h1 (fun m1 e1 h0 h1 => ?_))
  rw [e1]
  refine (szSentS a.xLog _ h0 h1 q2 _).trans (szSub h0 h1 (fun m2 e2 h0 h1 => ?_))
  rw [e2]
  exact szEnd h0
theorem toNet (a : TNet) (h : a.size ≤ 1048576) (k : List V → List V → List V → Int → Option β) : F8 β (rows kServer TServer.row a.xServers) (rows kEntry TEntry.row a.xCache.xEntries) (rows kSent TSent.row a.xLog) a.xNow k = k (rows kServer TServer.row a.xServers) (rows kEntry TEntry.row a.xCache.xEntries) (rows kSent TSent.row a.xLog) a.xNow := by
  unfold TNet.size at h
  simp only [F8, P8]
  exact (toServerS a.xServers (by omega) _).trans ((toCache a.xCache (by omega) _).trans ((toSentS a.xLog (by omega) _).trans (rfl)))
theorem eqNet_iff (a b : TNet) : (decide (a.xServers = b.xServers) && (decide (a.xCache = b.xCache) && (decide (a.xLog = b.xLog) && ((a.xNow == b.xNow) && (true))))) = decide (a = b) := by
  cases a; cases b
  rw [Bool.eq_iff_iff]
  simp only [TNet.mk.injEq, Bool.and_true, Bool.and_eq_true, beq_iff_eq, decide_eq_true_eq]
theorem eqNet (a b : TNet) (h : a.ok) (k : Bool → Option β) : F11 β (rows kServer TServer.row a.xServers) (rows kEntry TEntry.row a.xCache.xEntries) (rows kSent TSent.row a.xLog) a.xNow (rows kServer TServer.row b.xServers) (rows kEntry TEntry.row b.xCache.xEntries) (rows kSent TSent.row b.xLog) b.xNow k = k (decide (a = b)) := by
  obtain ⟨q0, q1, q2, q3, _⟩ := h
  simp only [F11, P11]
  refine Eq.trans ?_ (congrArg k (eqNet_iff a b))
  refine (eqServerS a.xServers b.xServers q0 _).trans (eqCut ?_)
  refine (eqCache a.xCache b.xCache q1 _).trans (eqCut ?_)
  refine (eqSentS a.xLog b.xLog q2 _).trans (eqCut ?_)
  refine eqCut ?_
  rfl

/-! ### arguments -/
def fl : Nat → Bool := fun t => t != 28 && t != 22 && t != 74 && t != 72 && t != 25 && t != 23 && t != 26 && t != 38 && t != 32 && t != 83 && t != 81 && t != 35 && t != 33 && t != 36 && t != 45
def L : List Nat := [28, 22, 74, 9, 72, 122, 101, 3, 4, 25, 23, 103, 77, 26, 79, 38, 32, 83, 81, 117, 106, 35, 33, 108, 66, 36, 68, 45]
theorem kids : kidsOk Try.prog L = true := by kernel_rfl
theorem flArgs : flOk Try.prog L fl = true := by kernel_rfl
theorem cells28 : Try.prog.cellsOf 28 = 4 := by kernel_rfl
theorem cells22 : Try.prog.cellsOf 22 = 1 := by kernel_rfl
theorem cells74 : Try.prog.cellsOf 74 = 2 := by kernel_rfl
theorem cells9 : Try.prog.cellsOf 9 = 1 := by kernel_rfl
theorem cells72 : Try.prog.cellsOf 72 = 1 := by kernel_rfl
theorem cells122 : Try.prog.cellsOf 122 = 7 := by kernel_rfl
theorem cells101 : Try.prog.cellsOf 101 = 6 := by kernel_rfl
theorem cells3 : Try.prog.cellsOf 3 = 1 := by kernel_rfl
theorem cells4 : Try.prog.cellsOf 4 = 1 := by kernel_rfl
theorem cells25 : Try.prog.cellsOf 25 = 1 := by kernel_rfl
theorem cells23 : Try.prog.cellsOf 23 = 1 := by kernel_rfl
theorem cells103 : Try.prog.cellsOf 103 = 10 := by kernel_rfl
theorem cells77 : Try.prog.cellsOf 77 = 2 := by kernel_rfl
theorem cells26 : Try.prog.cellsOf 26 = 1 := by kernel_rfl
theorem cells79 : Try.prog.cellsOf 79 = 4 := by kernel_rfl
theorem cells38 : Try.prog.cellsOf 38 = 4 := by kernel_rfl
theorem cells32 : Try.prog.cellsOf 32 = 1 := by kernel_rfl
theorem cells83 : Try.prog.cellsOf 83 = 2 := by kernel_rfl
theorem cells81 : Try.prog.cellsOf 81 = 1 := by kernel_rfl
theorem cells117 : Try.prog.cellsOf 117 = 7 := by kernel_rfl
theorem cells106 : Try.prog.cellsOf 106 = 6 := by kernel_rfl
theorem cells35 : Try.prog.cellsOf 35 = 1 := by kernel_rfl
theorem cells33 : Try.prog.cellsOf 33 = 1 := by kernel_rfl
theorem cells108 : Try.prog.cellsOf 108 = 10 := by kernel_rfl
theorem cells66 : Try.prog.cellsOf 66 = 2 := by kernel_rfl
theorem cells36 : Try.prog.cellsOf 36 = 1 := by kernel_rfl
theorem cells68 : Try.prog.cellsOf 68 = 4 := by kernel_rfl
theorem cells45 : Try.prog.cellsOf 45 = 1 := by kernel_rfl
theorem Response_open {n : Nat} {us : List V} (h : Cn Try.prog fl n 101 us) : ∃ a : TResponse, a.ok ∧ us = [.int .i64 a.xStatus, .int .i64 a.xKind, .str a.xBody, .int .i64 a.xAge, .bool a.xShares, .str a.xPolicy] := by
  obtain ⟨m, hl, g0, g1, g2, g3, g4, g5, _⟩ := cn_struct h Try.underlying101
  rw [cells101] at hl
  obtain ⟨y0, o0, z0⟩ := fInt g0 Try.underlying3
  obtain ⟨y1, o1, z1⟩ := fInt g1 Try.underlying3
  obtain ⟨y2, o2, z2⟩ := fStr g2 Try.underlying9
  obtain ⟨y3, o3, z3⟩ := fInt g3 Try.underlying3
  obtain ⟨y4, o4, z4⟩ := fBool g4 Try.underlying4
  obtain ⟨y5, o5, z5⟩ := fStr g5 Try.underlying9
  have z := glue cells3 z0 (glue cells3 z1 (glue cells9 z2 (glue cells3 z3 (glue cells4 z4 (glue cells9 z5 (List.drop_eq_nil_of_le (Nat.le_of_eq hl)))))))
  exact ⟨⟨y0, y1, y2, y3, y4, y5⟩, ⟨o0, o1, o2, o3, o4, o5, trivial⟩, z⟩
theorem File_open {n : Nat} {us : List V} (h : Cn Try.prog fl n 122 us) : ∃ a : TFile, a.ok ∧ us = [.str a.xPath, .int .i64 a.xResponse.xStatus, .int .i64 a.xResponse.xKind, .str a.xResponse.xBody, .int .i64 a.xResponse.xAge, .bool a.xResponse.xShares, .str a.xResponse.xPolicy] := by
  obtain ⟨m, hl, g0, g1, _⟩ := cn_struct h Try.underlying122
  rw [cells122] at hl
  obtain ⟨y0, o0, z0⟩ := fStr g0 Try.underlying9
  obtain ⟨y1, o1, z1⟩ := Response_open g1
  have z := glue cells9 z0 (glue cells101 z1 (List.drop_eq_nil_of_le (Nat.le_of_eq hl)))
  exact ⟨⟨y0, y1⟩, ⟨o0, o1, trivial⟩, z⟩
theorem Server_open {n : Nat} {us : List V} (h : Cn Try.prog fl n 74 us) : ∃ a : TServer, a.ok ∧ us = [.str a.xHost, .sl 7 true (rows kFile TFile.row a.xFiles)] := by
  obtain ⟨m, hl, g0, g1, _⟩ := cn_struct h Try.underlying74
  rw [cells74] at hl
  obtain ⟨y0, o0, z0⟩ := fStr g0 Try.underlying9
  obtain ⟨y1, o1, z1⟩ := fRows (g := TFile.row) (ok := TFile.ok) g1 Try.underlying72 Try.underlying122 cells122 rfl File_open (fun _ => rfl)
  have z := glue cells9 z0 (glue cells72 z1 (List.drop_eq_nil_of_le (Nat.le_of_eq hl)))
  exact ⟨⟨y0, y1⟩, ⟨o0, o1, trivial⟩, z⟩
theorem Addr_open {n : Nat} {us : List V} (h : Cn Try.prog fl n 77 us) : ∃ a : TAddr, a.ok ∧ us = [.str a.xHost, .str a.xPath] := by
  obtain ⟨m, hl, g0, g1, _⟩ := cn_struct h Try.underlying77
  rw [cells77] at hl
  obtain ⟨y0, o0, z0⟩ := fStr g0 Try.underlying9
  obtain ⟨y1, o1, z1⟩ := fStr g1 Try.underlying9
  have z := glue cells9 z0 (glue cells9 z1 (List.drop_eq_nil_of_le (Nat.le_of_eq hl)))
  exact ⟨⟨y0, y1⟩, ⟨o0, o1, trivial⟩, z⟩
theorem Entry_open {n : Nat} {us : List V} (h : Cn Try.prog fl n 103 us) : ∃ a : TEntry, a.ok ∧ us = [.str a.xTop, .str a.xTo.xHost, .str a.xTo.xPath, .int .i64 a.xResponse.xStatus, .int .i64 a.xResponse.xKind, .str a.xResponse.xBody, .int .i64 a.xResponse.xAge, .bool a.xResponse.xShares, .str a.xResponse.xPolicy, .int .i64 a.xUntil] := by
  obtain ⟨m, hl, g0, g1, g2, g3, _⟩ := cn_struct h Try.underlying103
  rw [cells103] at hl
  obtain ⟨y0, o0, z0⟩ := fStr g0 Try.underlying9
  obtain ⟨y1, o1, z1⟩ := Addr_open g1
  obtain ⟨y2, o2, z2⟩ := Response_open g2
  obtain ⟨y3, o3, z3⟩ := fInt g3 Try.underlying3
  have z := glue cells9 z0 (glue cells77 z1 (glue cells101 z2 (glue cells3 z3 (List.drop_eq_nil_of_le (Nat.le_of_eq hl)))))
  exact ⟨⟨y0, y1, y2, y3⟩, ⟨o0, o1, o2, o3, trivial⟩, z⟩
theorem Cache_open {n : Nat} {us : List V} (h : Cn Try.prog fl n 25 us) : ∃ a : TCache, a.ok ∧ us = [.sl 10 true (rows kEntry TEntry.row a.xEntries)] := by
  obtain ⟨m, hl, g0, _⟩ := cn_struct h Try.underlying25
  rw [cells25] at hl
  obtain ⟨y0, o0, z0⟩ := fRows (g := TEntry.row) (ok := TEntry.ok) g0 Try.underlying23 Try.underlying103 cells103 rfl Entry_open (fun _ => rfl)
  have z := glue cells23 z0 (List.drop_eq_nil_of_le (Nat.le_of_eq hl))
  exact ⟨⟨y0⟩, ⟨o0, trivial⟩, z⟩
theorem Sent_open {n : Nat} {us : List V} (h : Cn Try.prog fl n 79 us) : ∃ a : TSent, a.ok ∧ us = [.str a.xTop, .str a.xTo.xHost, .str a.xTo.xPath, .bool a.xGuess] := by
  obtain ⟨m, hl, g0, g1, g2, _⟩ := cn_struct h Try.underlying79
  rw [cells79] at hl
  obtain ⟨y0, o0, z0⟩ := fStr g0 Try.underlying9
  obtain ⟨y1, o1, z1⟩ := Addr_open g1
  obtain ⟨y2, o2, z2⟩ := fBool g2 Try.underlying4
  have z := glue cells9 z0 (glue cells77 z1 (glue cells4 z2 (List.drop_eq_nil_of_le (Nat.le_of_eq hl))))
  exact ⟨⟨y0, y1, y2⟩, ⟨o0, o1, o2, trivial⟩, z⟩
theorem Net_open {n : Nat} {us : List V} (h : Cn Try.prog fl n 28 us) : ∃ a : TNet, a.ok ∧ us = [.sl 2 false (rows kServer TServer.row a.xServers), .sl 10 true (rows kEntry TEntry.row a.xCache.xEntries), .sl 4 true (rows kSent TSent.row a.xLog), .int .i64 a.xNow] := by
  obtain ⟨m, hl, g0, g1, g2, g3, _⟩ := cn_struct h Try.underlying28
  rw [cells28] at hl
  obtain ⟨y0, o0, z0⟩ := fRows (g := TServer.row) (ok := TServer.ok) g0 Try.underlying22 Try.underlying74 cells74 rfl Server_open (fun _ => rfl)
  obtain ⟨y1, o1, z1⟩ := Cache_open g1
  obtain ⟨y2, o2, z2⟩ := fRows (g := TSent.row) (ok := TSent.ok) g2 Try.underlying26 Try.underlying79 cells79 rfl Sent_open (fun _ => rfl)
  obtain ⟨y3, o3, z3⟩ := fInt g3 Try.underlying3
  have z := glue cells22 z0 (glue cells25 z1 (glue cells26 z2 (glue cells3 z3 (List.drop_eq_nil_of_le (Nat.le_of_eq hl)))))
  exact ⟨⟨y0, y1, y2, y3⟩, ⟨o0, o1, o2, o3, trivial⟩, z⟩
theorem answers : Answers Try.prog D := sound_den agree (fun den hD => drawOk agree (by kernel_rfl) hD) extAns
end Go.Am

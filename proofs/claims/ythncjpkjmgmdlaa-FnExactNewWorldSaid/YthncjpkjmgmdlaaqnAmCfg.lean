/-
  What the machine is told of this seat's translation, by program (cfg.py). Not trusted: the types are checked against the program here by one reckoning.
-/
import Derived.Test.YthncjpkjmgmdlaaqnAmTyped
import Derived.Below
import Derived.Lib.Join
import Derived.Test.YthncjpkjmgmdlaaqnAmDraw
import Derived.Test.YthncjpkjmgmdlaaProg
section
set_option linter.unusedSimpArgs false
namespace Go.Am
open Go
structure TAddr where
  xHost : List UInt8
  xPath : List UInt8
  deriving DecidableEq
abbrev kAddr : List CK := [.str, .str]
def TAddr.row (a : TAddr) : cellsT kAddr := (a.xHost, a.xPath, ())
theorem TAddr.cmp (x y : TAddr) : ((x.xHost == y.xHost) && ((x.xPath == y.xPath) && true)) = decide (x = y) := by
 obtain ⟨p1, p2⟩ := x
 obtain ⟨q1, q2⟩ := y
 rw [Bool.eq_iff_iff]
 simp only [TAddr.mk.injEq, Bool.and_true, Bool.and_eq_true, beq_iff_eq, decide_eq_true_eq, and_assoc]
structure TPolicy where
  xSet : Bool
  xScripts : List (List UInt8)
  xStyles : List (List UInt8)
  xImages : List (List UInt8)
  xNonce : List UInt8
  deriving DecidableEq
abbrev kPolicy : List CK := [.bool, .sl 1 true, .sl 1 true, .sl 1 true, .str]
def TPolicy.row (a : TPolicy) : cellsT kPolicy := (a.xSet, (rStr a.xScripts), (rStr a.xStyles), (rStr a.xImages), a.xNonce, ())
structure TTokenizer where
  xRest : List UInt8
  deriving DecidableEq
abbrev kTokenizer : List CK := [.str]
def TTokenizer.row (a : TTokenizer) : cellsT kTokenizer := (a.xRest, ())
theorem TTokenizer.cmp (x y : TTokenizer) : ((x.xRest == y.xRest) && true) = decide (x = y) := by
 obtain ⟨p1⟩ := x
 obtain ⟨q1⟩ := y
 rw [Bool.eq_iff_iff]
 simp only [TTokenizer.mk.injEq, Bool.and_true, Bool.and_eq_true, beq_iff_eq, decide_eq_true_eq, and_assoc]
structure TAttr where
  xName : List UInt8
  xValue : List UInt8
  deriving DecidableEq
abbrev kAttr : List CK := [.str, .str]
def TAttr.row (a : TAttr) : cellsT kAttr := (a.xName, a.xValue, ())
theorem TAttr.cmp (x y : TAttr) : ((x.xName == y.xName) && ((x.xValue == y.xValue) && true)) = decide (x = y) := by
 obtain ⟨p1, p2⟩ := x
 obtain ⟨q1, q2⟩ := y
 rw [Bool.eq_iff_iff]
 simp only [TAttr.mk.injEq, Bool.and_true, Bool.and_eq_true, beq_iff_eq, decide_eq_true_eq, and_assoc]
structure TToken where
  xKind : Int
  xName : List UInt8
  xAttrs : List TAttr
  xText : List UInt8
  deriving DecidableEq
abbrev kToken : List CK := [.int .i64, .str, .sl 2 true, .str]
def TToken.row (a : TToken) : cellsT kToken := (a.xKind, a.xName, (rows kAttr TAttr.row a.xAttrs), a.xText, ())
structure TNode where
  xName : List UInt8
  xText : List UInt8
  xParent : Int
  xAttrs : List TAttr
  deriving DecidableEq
abbrev kNode : List CK := [.str, .str, .int .i64, .sl 2 true]
def TNode.row (a : TNode) : cellsT kNode := (a.xName, a.xText, a.xParent, (rows kAttr TAttr.row a.xAttrs), ())
structure TBuilder where
  xNodes : List TNode
  xOpen : List Int
  deriving DecidableEq
abbrev kBuilder : List CK := [.sl 4 false, .sl 1 true]
def TBuilder.row (a : TBuilder) : cellsT kBuilder := ((rows kNode TNode.row a.xNodes), (rInt a.xOpen), ())
structure TSlot where
  xMode : Int
  xTo : TAddr
  xDigest : List UInt8
  xNode : Int
  xDone : Bool
  xCode : Int
  xBody : List UInt8
  deriving DecidableEq
abbrev kSlot : List CK := [.int .i64, .str, .str, .str, .int .i64, .bool, .int .i64, .str]
def TSlot.row (a : TSlot) : cellsT kSlot := (a.xMode, a.xTo.xHost, a.xTo.xPath, a.xDigest, a.xNode, a.xDone, a.xCode, a.xBody, ())
theorem TSlot.cmp (x y : TSlot) : ((x.xMode == y.xMode) && ((x.xTo.xHost == y.xTo.xHost) && ((x.xTo.xPath == y.xTo.xPath) && ((x.xDigest == y.xDigest) && ((x.xNode == y.xNode) && ((x.xDone == y.xDone) && ((x.xCode == y.xCode) && ((x.xBody == y.xBody) && true)))))))) = decide (x = y) := by
 obtain ⟨p1, ⟨p2, p3⟩, p4, p5, p6, p7, p8⟩ := x
 obtain ⟨q1, ⟨q2, q3⟩, q4, q5, q6, q7, q8⟩ := y
 rw [Bool.eq_iff_iff]
 simp only [TAddr.mk.injEq, TSlot.mk.injEq, Bool.and_true, Bool.and_eq_true, beq_iff_eq, decide_eq_true_eq, and_assoc]
structure TModule where
  xTo : TAddr
  xDone : Bool
  xCode : Int
  xBody : List UInt8
  deriving DecidableEq
abbrev kModule : List CK := [.str, .str, .bool, .int .i64, .str]
def TModule.row (a : TModule) : cellsT kModule := (a.xTo.xHost, a.xTo.xPath, a.xDone, a.xCode, a.xBody, ())
theorem TModule.cmp (x y : TModule) : ((x.xTo.xHost == y.xTo.xHost) && ((x.xTo.xPath == y.xTo.xPath) && ((x.xDone == y.xDone) && ((x.xCode == y.xCode) && ((x.xBody == y.xBody) && true))))) = decide (x = y) := by
 obtain ⟨⟨p1, p2⟩, p3, p4, p5⟩ := x
 obtain ⟨⟨q1, q2⟩, q3, q4, q5⟩ := y
 rw [Bool.eq_iff_iff]
 simp only [TAddr.mk.injEq, TModule.mk.injEq, Bool.and_true, Bool.and_eq_true, beq_iff_eq, decide_eq_true_eq, and_assoc]
structure TPage where
  xAddr : TAddr
  xPolicy : TPolicy
  xTok : TTokenizer
  xQueue : List TToken
  xEnded : Bool
  xBuilder : TBuilder
  xSlots : List TSlot
  xMods : List TModule
  xEntries : List TAddr
  xBlock : Int
  xInline : Int
  xDeferred : Int
  xEntered : Int
  xRan : List TAddr
  xLog : List (List UInt8)
  xLoaded : Bool
  deriving DecidableEq
abbrev kPage : List CK := [.str, .str, .bool, .sl 1 true, .sl 1 true, .sl 1 true, .str, .str, .sl 4 false, .bool, .sl 4 false, .sl 1 true, .sl 8 true, .sl 5 true, .sl 2 true, .int .i64, .int .i64, .int .i64, .int .i64, .sl 2 true, .sl 1 true, .bool]
def TPage.row (a : TPage) : cellsT kPage := (a.xAddr.xHost, a.xAddr.xPath, a.xPolicy.xSet, (rStr a.xPolicy.xScripts), (rStr a.xPolicy.xStyles), (rStr a.xPolicy.xImages), a.xPolicy.xNonce, a.xTok.xRest, (rows kToken TToken.row a.xQueue), a.xEnded, (rows kNode TNode.row a.xBuilder.xNodes), (rInt a.xBuilder.xOpen), (rows kSlot TSlot.row a.xSlots), (rows kModule TModule.row a.xMods), (rows kAddr TAddr.row a.xEntries), a.xBlock, a.xInline, a.xDeferred, a.xEntered, (rows kAddr TAddr.row a.xRan), (rStr a.xLog), a.xLoaded, ())
structure TVisit where
  xAddr : TAddr
  xPage : TPage
  xKept : Bool
  deriving DecidableEq
abbrev kVisit : List CK := [.str, .str, .str, .str, .bool, .sl 1 true, .sl 1 true, .sl 1 true, .str, .str, .sl 4 false, .bool, .sl 4 false, .sl 1 true, .sl 8 true, .sl 5 true, .sl 2 true, .int .i64, .int .i64, .int .i64, .int .i64, .sl 2 true, .sl 1 true, .bool, .bool]
def TVisit.row (a : TVisit) : cellsT kVisit := (a.xAddr.xHost, a.xAddr.xPath, a.xPage.xAddr.xHost, a.xPage.xAddr.xPath, a.xPage.xPolicy.xSet, (rStr a.xPage.xPolicy.xScripts), (rStr a.xPage.xPolicy.xStyles), (rStr a.xPage.xPolicy.xImages), a.xPage.xPolicy.xNonce, a.xPage.xTok.xRest, (rows kToken TToken.row a.xPage.xQueue), a.xPage.xEnded, (rows kNode TNode.row a.xPage.xBuilder.xNodes), (rInt a.xPage.xBuilder.xOpen), (rows kSlot TSlot.row a.xPage.xSlots), (rows kModule TModule.row a.xPage.xMods), (rows kAddr TAddr.row a.xPage.xEntries), a.xPage.xBlock, a.xPage.xInline, a.xPage.xDeferred, a.xPage.xEntered, (rows kAddr TAddr.row a.xPage.xRan), (rStr a.xPage.xLog), a.xPage.xLoaded, a.xKept, ())
structure TTab where
  xVisits : List TVisit
  xAt : Int
  deriving DecidableEq
abbrev kTab : List CK := [.sl 25 false, .int .i64]
def TTab.row (a : TTab) : cellsT kTab := ((rows kVisit TVisit.row a.xVisits), a.xAt, ())
structure TResponse where
  xStatus : Int
  xKind : Int
  xBody : List UInt8
  xAge : Int
  xShares : Bool
  xPolicy : List UInt8
  deriving DecidableEq
abbrev kResponse : List CK := [.int .i64, .int .i64, .str, .int .i64, .bool, .str]
def TResponse.row (a : TResponse) : cellsT kResponse := (a.xStatus, a.xKind, a.xBody, a.xAge, a.xShares, a.xPolicy, ())
theorem TResponse.cmp (x y : TResponse) : ((x.xStatus == y.xStatus) && ((x.xKind == y.xKind) && ((x.xBody == y.xBody) && ((x.xAge == y.xAge) && ((x.xShares == y.xShares) && ((x.xPolicy == y.xPolicy) && true)))))) = decide (x = y) := by
 obtain ⟨p1, p2, p3, p4, p5, p6⟩ := x
 obtain ⟨q1, q2, q3, q4, q5, q6⟩ := y
 rw [Bool.eq_iff_iff]
 simp only [TResponse.mk.injEq, Bool.and_true, Bool.and_eq_true, beq_iff_eq, decide_eq_true_eq, and_assoc]
structure TEntry where
  xTop : List UInt8
  xTo : TAddr
  xResponse : TResponse
  xUntil : Int
  deriving DecidableEq
abbrev kEntry : List CK := [.str, .str, .str, .int .i64, .int .i64, .str, .int .i64, .bool, .str, .int .i64]
def TEntry.row (a : TEntry) : cellsT kEntry := (a.xTop, a.xTo.xHost, a.xTo.xPath, a.xResponse.xStatus, a.xResponse.xKind, a.xResponse.xBody, a.xResponse.xAge, a.xResponse.xShares, a.xResponse.xPolicy, a.xUntil, ())
theorem TEntry.cmp (x y : TEntry) : ((x.xTop == y.xTop) && ((x.xTo.xHost == y.xTo.xHost) && ((x.xTo.xPath == y.xTo.xPath) && ((x.xResponse.xStatus == y.xResponse.xStatus) && ((x.xResponse.xKind == y.xResponse.xKind) && ((x.xResponse.xBody == y.xResponse.xBody) && ((x.xResponse.xAge == y.xResponse.xAge) && ((x.xResponse.xShares == y.xResponse.xShares) && ((x.xResponse.xPolicy == y.xResponse.xPolicy) && ((x.xUntil == y.xUntil) && true)))))))))) = decide (x = y) := by
 obtain ⟨p1, ⟨p2, p3⟩, ⟨p4, p5, p6, p7, p8, p9⟩, p10⟩ := x
 obtain ⟨q1, ⟨q2, q3⟩, ⟨q4, q5, q6, q7, q8, q9⟩, q10⟩ := y
 rw [Bool.eq_iff_iff]
 simp only [TAddr.mk.injEq, TEntry.mk.injEq, TResponse.mk.injEq, Bool.and_true, Bool.and_eq_true, beq_iff_eq, decide_eq_true_eq, and_assoc]
structure TCache where
  xEntries : List TEntry
  deriving DecidableEq
abbrev kCache : List CK := [.sl 10 true]
def TCache.row (a : TCache) : cellsT kCache := ((rows kEntry TEntry.row a.xEntries), ())
structure TFile where
  xPath : List UInt8
  xResponse : TResponse
  deriving DecidableEq
abbrev kFile : List CK := [.str, .int .i64, .int .i64, .str, .int .i64, .bool, .str]
def TFile.row (a : TFile) : cellsT kFile := (a.xPath, a.xResponse.xStatus, a.xResponse.xKind, a.xResponse.xBody, a.xResponse.xAge, a.xResponse.xShares, a.xResponse.xPolicy, ())
theorem TFile.cmp (x y : TFile) : ((x.xPath == y.xPath) && ((x.xResponse.xStatus == y.xResponse.xStatus) && ((x.xResponse.xKind == y.xResponse.xKind) && ((x.xResponse.xBody == y.xResponse.xBody) && ((x.xResponse.xAge == y.xResponse.xAge) && ((x.xResponse.xShares == y.xResponse.xShares) && ((x.xResponse.xPolicy == y.xResponse.xPolicy) && true))))))) = decide (x = y) := by
 obtain ⟨p1, ⟨p2, p3, p4, p5, p6, p7⟩⟩ := x
 obtain ⟨q1, ⟨q2, q3, q4, q5, q6, q7⟩⟩ := y
 rw [Bool.eq_iff_iff]
 simp only [TFile.mk.injEq, TResponse.mk.injEq, Bool.and_true, Bool.and_eq_true, beq_iff_eq, decide_eq_true_eq, and_assoc]
structure TServer where
  xHost : List UInt8
  xFiles : List TFile
  deriving DecidableEq
abbrev kServer : List CK := [.str, .sl 7 true]
def TServer.row (a : TServer) : cellsT kServer := (a.xHost, (rows kFile TFile.row a.xFiles), ())
structure TSent where
  xTop : List UInt8
  xTo : TAddr
  xGuess : Bool
  deriving DecidableEq
abbrev kSent : List CK := [.str, .str, .str, .bool]
def TSent.row (a : TSent) : cellsT kSent := (a.xTop, a.xTo.xHost, a.xTo.xPath, a.xGuess, ())
theorem TSent.cmp (x y : TSent) : ((x.xTop == y.xTop) && ((x.xTo.xHost == y.xTo.xHost) && ((x.xTo.xPath == y.xTo.xPath) && ((x.xGuess == y.xGuess) && true)))) = decide (x = y) := by
 obtain ⟨p1, ⟨p2, p3⟩, p4⟩ := x
 obtain ⟨q1, ⟨q2, q3⟩, q4⟩ := y
 rw [Bool.eq_iff_iff]
 simp only [TAddr.mk.injEq, TSent.mk.injEq, Bool.and_true, Bool.and_eq_true, beq_iff_eq, decide_eq_true_eq, and_assoc]
structure TNet where
  xServers : List TServer
  xCache : TCache
  xLog : List TSent
  xNow : Int
  deriving DecidableEq
abbrev kNet : List CK := [.sl 2 false, .sl 10 true, .sl 4 true, .int .i64]
def TNet.row (a : TNet) : cellsT kNet := ((rows kServer TServer.row a.xServers), (rows kEntry TEntry.row a.xCache.xEntries), (rows kSent TSent.row a.xLog), a.xNow, ())
structure TKept where
  xTo : TAddr
  xResponse : TResponse
  deriving DecidableEq
abbrev kKept : List CK := [.str, .str, .int .i64, .int .i64, .str, .int .i64, .bool, .str]
def TKept.row (a : TKept) : cellsT kKept := (a.xTo.xHost, a.xTo.xPath, a.xResponse.xStatus, a.xResponse.xKind, a.xResponse.xBody, a.xResponse.xAge, a.xResponse.xShares, a.xResponse.xPolicy, ())
theorem TKept.cmp (x y : TKept) : ((x.xTo.xHost == y.xTo.xHost) && ((x.xTo.xPath == y.xTo.xPath) && ((x.xResponse.xStatus == y.xResponse.xStatus) && ((x.xResponse.xKind == y.xResponse.xKind) && ((x.xResponse.xBody == y.xResponse.xBody) && ((x.xResponse.xAge == y.xResponse.xAge) && ((x.xResponse.xShares == y.xResponse.xShares) && ((x.xResponse.xPolicy == y.xResponse.xPolicy) && true)))))))) = decide (x = y) := by
 obtain ⟨⟨p1, p2⟩, ⟨p3, p4, p5, p6, p7, p8⟩⟩ := x
 obtain ⟨⟨q1, q2⟩, ⟨q3, q4, q5, q6, q7, q8⟩⟩ := y
 rw [Bool.eq_iff_iff]
 simp only [TAddr.mk.injEq, TKept.mk.injEq, TResponse.mk.injEq, Bool.and_true, Bool.and_eq_true, beq_iff_eq, decide_eq_true_eq, and_assoc]
structure THidden where
  xReady : Bool
  xPage : TPage
  xTaken : List TKept
  xServers : List TServer
  xNow : Int
  deriving DecidableEq
abbrev kHidden : List CK := [.bool, .str, .str, .bool, .sl 1 true, .sl 1 true, .sl 1 true, .str, .str, .sl 4 false, .bool, .sl 4 false, .sl 1 true, .sl 8 true, .sl 5 true, .sl 2 true, .int .i64, .int .i64, .int .i64, .int .i64, .sl 2 true, .sl 1 true, .bool, .sl 8 true, .sl 2 false, .int .i64]
def THidden.row (a : THidden) : cellsT kHidden := (a.xReady, a.xPage.xAddr.xHost, a.xPage.xAddr.xPath, a.xPage.xPolicy.xSet, (rStr a.xPage.xPolicy.xScripts), (rStr a.xPage.xPolicy.xStyles), (rStr a.xPage.xPolicy.xImages), a.xPage.xPolicy.xNonce, a.xPage.xTok.xRest, (rows kToken TToken.row a.xPage.xQueue), a.xPage.xEnded, (rows kNode TNode.row a.xPage.xBuilder.xNodes), (rInt a.xPage.xBuilder.xOpen), (rows kSlot TSlot.row a.xPage.xSlots), (rows kModule TModule.row a.xPage.xMods), (rows kAddr TAddr.row a.xPage.xEntries), a.xPage.xBlock, a.xPage.xInline, a.xPage.xDeferred, a.xPage.xEntered, (rows kAddr TAddr.row a.xPage.xRan), (rStr a.xPage.xLog), a.xPage.xLoaded, (rows kKept TKept.row a.xTaken), (rows kServer TServer.row a.xServers), a.xNow, ())
structure TWorld where
  xNet : TNet
  xTab : TTab
  xHidden : THidden
  xFast : Bool
  deriving DecidableEq
abbrev kWorld : List CK := [.sl 2 false, .sl 10 true, .sl 4 true, .int .i64, .sl 25 false, .int .i64, .bool, .str, .str, .bool, .sl 1 true, .sl 1 true, .sl 1 true, .str, .str, .sl 4 false, .bool, .sl 4 false, .sl 1 true, .sl 8 true, .sl 5 true, .sl 2 true, .int .i64, .int .i64, .int .i64, .int .i64, .sl 2 true, .sl 1 true, .bool, .sl 8 true, .sl 2 false, .int .i64, .bool]
def TWorld.row (a : TWorld) : cellsT kWorld := ((rows kServer TServer.row a.xNet.xServers), (rows kEntry TEntry.row a.xNet.xCache.xEntries), (rows kSent TSent.row a.xNet.xLog), a.xNet.xNow, (rows kVisit TVisit.row a.xTab.xVisits), a.xTab.xAt, a.xHidden.xReady, a.xHidden.xPage.xAddr.xHost, a.xHidden.xPage.xAddr.xPath, a.xHidden.xPage.xPolicy.xSet, (rStr a.xHidden.xPage.xPolicy.xScripts), (rStr a.xHidden.xPage.xPolicy.xStyles), (rStr a.xHidden.xPage.xPolicy.xImages), a.xHidden.xPage.xPolicy.xNonce, a.xHidden.xPage.xTok.xRest, (rows kToken TToken.row a.xHidden.xPage.xQueue), a.xHidden.xPage.xEnded, (rows kNode TNode.row a.xHidden.xPage.xBuilder.xNodes), (rInt a.xHidden.xPage.xBuilder.xOpen), (rows kSlot TSlot.row a.xHidden.xPage.xSlots), (rows kModule TModule.row a.xHidden.xPage.xMods), (rows kAddr TAddr.row a.xHidden.xPage.xEntries), a.xHidden.xPage.xBlock, a.xHidden.xPage.xInline, a.xHidden.xPage.xDeferred, a.xHidden.xPage.xEntered, (rows kAddr TAddr.row a.xHidden.xPage.xRan), (rStr a.xHidden.xPage.xLog), a.xHidden.xPage.xLoaded, (rows kKept TKept.row a.xHidden.xTaken), (rows kServer TServer.row a.xHidden.xServers), a.xHidden.xNow, a.xFast, ())
end Go.Am
end
section
set_option linter.unusedVariables false
set_option linter.unusedSimpArgs false
namespace Go.Am
open Go Go.RowKit
section
variable {P : Program} {c : Cfg}
def Kept (w w' : World) : Prop := w'.os = w.os ∧ w'.tape = w.tape ∧ w'.output = w.output ∧ w.heap.size ≤ w'.heap.size ∧ ∀ k, k < w.heap.size → w'.heap[k]? = w.heap[k]?
theorem Kept.refl (w : World) : Kept w w := ⟨rfl, rfl, rfl, Nat.le_refl _, fun _ _ => rfl⟩
theorem answer_plain {R : Nat → Prop} {w w' : World} {r : V} {x : Value} (hk : Kept w w') (hr : Rd w' (fun _ => False) r x) : Answer R w r x w' :=
 ⟨hk.1, hk.2.1, hk.2.2.1, hk.2.2.2.1, hk.2.2.2.2, { w0 := w', F := fun k => w.heap.size ≤ k, S := fun _ => False, has := fun _ => False, blk := fun _ => 0, off := fun _ => 0, cap := fun _ => 0, sz := fun _ => 0, ln := fun _ => 0, lb := fun _ => False, box := fun _ => 0, R := fun _ => False, Z := fun _ => False, N := fun _ _ => False, U := True },
  .rd _ _ hr, fun _ h => h, fun _ h => h.elim, fun _ h => h.elim, fun _ _ h => h.elim, fun _ h => h.elim, fun _ h => h.elim, trivial, fun _ h => h.elim, fun _ _ h => h.elim⟩
def extL : List (Nat × (List V → Option V)) → Nat → List V → Option V
 | [], _, _ => none
 | (g, e) :: r, f, args => if f = g then e args else extL r f args
theorem ext_nil : Answers P (extL []) := fun f args r h => by cases h
theorem rd_str {w : World} {S : Nat → Prop} {s : List UInt8} {x : Value} (h : Rd w S (.str s) x) : ∃ y : ByteArray, x = .string y ∧ y.data.toList = s := by
 cases h with
 | str _ y hy => exact ⟨y, rfl, hy⟩
end
end Go.Am
end
section
set_option linter.unusedVariables false
namespace Go.Am
open Go
def lookN {α : Type} (k : Nat) (d : α) : List (Nat × α) → α
 | [] => d
 | (i, a) :: r => if i = k then a else lookN k d r
def tys : List (Option TyInfo) := [
 none,
 none,
 some ⟨.int .i64, 1, 8, .int .i64 0, false, [], .flat⟩,
 some ⟨.int .i64, 1, 8, .int .i64 0, false, [], .flat⟩,
 some ⟨.bool, 1, 1, .bool false, false, [], .flat⟩,
 some ⟨.int .u8, 1, 1, .int .u8 0, false, [], .flat⟩,
 some ⟨.int .u8, 1, 1, .int .u8 0, false, [], .flat⟩,
 some ⟨.struct [(0, 2), (1, 3), (2, 4), (3, 6)], 4, 24, .agg [.int .i64 0, .int .i64 0, .bool false, .int .u8 0], false, [], .flat⟩,
 some ⟨.struct [(0, 2), (1, 3), (2, 4), (3, 6)], 4, 24, .agg [.int .i64 0, .int .i64 0, .bool false, .int .u8 0], false, [], .flat⟩,
 some ⟨.str, 1, 16, .str [], false, [], .flat⟩,
 some ⟨.str, 1, 16, .str [], false, [], .flat⟩,
 some ⟨.str, 1, 16, .str [], false, [], .flat⟩,
 some ⟨.int .u64, 1, 8, .int .u64 0, false, [], .flat⟩,
 some ⟨.struct [(0, 9), (1, 12)], 2, 24, .agg [.str [], .int .u64 0], false, [], .flat⟩,
 some ⟨.struct [(0, 9), (1, 12)], 2, 24, .agg [.str [], .int .u64 0], false, [], .flat⟩,
 some ⟨.ptr 257, 1, 8, .undef, false, [], .flat⟩,
 some ⟨.ptr 260, 1, 8, .undef, false, [], .flat⟩,
 some ⟨.ptr 270, 1, 8, .undef, false, [], .flat⟩,
 some ⟨.struct [(0, 17)], 1, 8, .agg [.undef], false, [], .flat⟩,
 some ⟨.struct [(0, 17)], 1, 8, .agg [.undef], false, [], .flat⟩,
 none,
 some ⟨.int .i32, 1, 4, .int .i32 0, false, [], .flat⟩,
 some ⟨.slice 83, 1, 24, .nil, false, [.view 999 2 .clean []], .clean⟩,
 none,
 none,
 none,
 none,
 some ⟨.slice 125, 1, 24, .nil, false, [.view 999 25 .clean []], .clean⟩,
 some ⟨.struct [(0, 27), (1, 3)], 2, 32, .agg [.nil, .int .i64 0], false, [.view 999 25 .clean []], .clean⟩,
 some ⟨.struct [(0, 27), (1, 3)], 2, 32, .agg [.nil, .int .i64 0], false, [.view 999 25 .clean []], .clean⟩,
 none,
 some ⟨.slice 91, 1, 24, .nil, false, [.view 999 25 .clean []], .clean⟩,
 some ⟨.struct [(0, 31), (1, 3)], 2, 32, .agg [.nil, .int .i64 0], false, [.view 999 25 .clean []], .clean⟩,
 some ⟨.struct [(0, 31), (1, 3)], 2, 32, .agg [.nil, .int .i64 0], false, [.view 999 25 .clean []], .clean⟩,
 none,
 none,
 none,
 none,
 none,
 some ⟨.slice 98, 1, 24, .nil, false, [.view 999 2 .clean []], .clean⟩,
 none,
 some ⟨.slice 216, 1, 24, .nil, false, [.view 999 10 .flat []], .clean⟩,
 some ⟨.struct [(0, 41)], 1, 24, .agg [.nil], false, [.view 999 10 .flat []], .clean⟩,
 some ⟨.struct [(0, 41)], 1, 24, .agg [.nil], false, [.view 999 10 .flat []], .clean⟩,
 some ⟨.slice 175, 1, 24, .nil, false, [.view 999 4 .flat []], .clean⟩,
 some ⟨.struct [(0, 22), (1, 43), (2, 44), (3, 3)], 4, 80, .agg [.nil, .nil, .nil, .int .i64 0], false, [.view 999 2 .clean [], .view 999 10 .flat [], .view 999 4 .flat []], .clean⟩,
 some ⟨.struct [(0, 22), (1, 43), (2, 44), (3, 3)], 4, 80, .agg [.nil, .nil, .nil, .int .i64 0], false, [.view 999 2 .clean [], .view 999 10 .flat [], .view 999 4 .flat []], .clean⟩,
 some ⟨.struct [(0, 9), (1, 9)], 2, 32, .agg [.str [], .str []], false, [], .flat⟩,
 some ⟨.struct [(0, 9), (1, 9)], 2, 32, .agg [.str [], .str []], true, [], .flat⟩,
 some ⟨.slice 9, 1, 24, .nil, false, [.view 999 1 .flat []], .clean⟩,
 some ⟨.struct [(0, 4), (1, 49), (2, 49), (3, 49), (4, 9)], 5, 96, .agg [.bool false, .nil, .nil, .nil, .str []], false, [.undef, .view 999 1 .flat [], .view 999 1 .flat [], .view 999 1 .flat []], .clean⟩,
 some ⟨.struct [(0, 4), (1, 49), (2, 49), (3, 49), (4, 9)], 5, 96, .agg [.bool false, .nil, .nil, .nil, .str []], false, [.undef, .view 999 1 .flat [], .view 999 1 .flat [], .view 999 1 .flat []], .clean⟩,
 some ⟨.struct [(0, 9)], 1, 16, .agg [.str []], false, [], .flat⟩,
 some ⟨.struct [(0, 9)], 1, 16, .agg [.str []], true, [], .flat⟩,
 some ⟨.slice 159, 1, 24, .nil, false, [.view 999 4 .clean []], .clean⟩,
 some ⟨.slice 162, 1, 24, .nil, false, [.view 999 4 .clean []], .clean⟩,
 some ⟨.slice 3, 1, 24, .nil, false, [.view 999 1 .flat []], .clean⟩,
 some ⟨.struct [(0, 55), (1, 56)], 2, 48, .agg [.nil, .nil], false, [.view 999 4 .clean [], .view 999 1 .flat []], .clean⟩,
 some ⟨.struct [(0, 55), (1, 56)], 2, 48, .agg [.nil, .nil], false, [.view 999 4 .clean [], .view 999 1 .flat []], .clean⟩,
 some ⟨.slice 164, 1, 24, .nil, false, [.view 999 8 .flat []], .clean⟩,
 some ⟨.slice 166, 1, 24, .nil, false, [.view 999 5 .flat []], .clean⟩,
 some ⟨.slice 48, 1, 24, .nil, false, [.view 999 2 .flat []], .clean⟩,
 some ⟨.struct [(0, 48), (2, 51), (7, 53), (8, 54), (9, 4), (10, 58), (12, 59), (13, 60), (14, 61), (15, 3), (16, 3), (17, 3), (18, 3), (19, 61), (20, 49), (21, 4)], 22, 384, .agg [.str [], .str [], .bool false, .nil, .nil, .nil, .str [], .str [], .nil, .bool false, .nil, .nil, .nil, .nil, .nil, .int .i64 0, .int .i64 0, .int .i64 0, .int .i64 0, .nil, .nil, .bool false], false, [.undef, .undef, .undef, .view 999 1 .flat [], .view 999 1 .flat [], .view 999 1 .flat [], .undef, .undef, .view 999 4 .clean [], .undef, .view 999 4 .clean [], .view 999 1 .flat [], .view 999 8 .flat [], .view 999 5 .flat [], .view 999 2 .flat [], .undef, .undef, .undef, .undef, .view 999 2 .flat [], .view 999 1 .flat []], .clean⟩,
 some ⟨.struct [(0, 48), (2, 51), (7, 53), (8, 54), (9, 4), (10, 58), (12, 59), (13, 60), (14, 61), (15, 3), (16, 3), (17, 3), (18, 3), (19, 61), (20, 49), (21, 4)], 22, 384, .agg [.str [], .str [], .bool false, .nil, .nil, .nil, .str [], .str [], .nil, .bool false, .nil, .nil, .nil, .nil, .nil, .int .i64 0, .int .i64 0, .int .i64 0, .int .i64 0, .nil, .nil, .bool false], false, [.undef, .undef, .undef, .view 999 1 .flat [], .view 999 1 .flat [], .view 999 1 .flat [], .undef, .undef, .view 999 4 .clean [], .undef, .view 999 4 .clean [], .view 999 1 .flat [], .view 999 8 .flat [], .view 999 5 .flat [], .view 999 2 .flat [], .undef, .undef, .undef, .undef, .view 999 2 .flat [], .view 999 1 .flat []], .clean⟩,
 some ⟨.slice 186, 1, 24, .nil, false, [.view 999 8 .flat []], .clean⟩,
 some ⟨.struct [(0, 4), (1, 63), (23, 64), (24, 22), (25, 3)], 26, 448, .agg [.bool false, .str [], .str [], .bool false, .nil, .nil, .nil, .str [], .str [], .nil, .bool false, .nil, .nil, .nil, .nil, .nil, .int .i64 0, .int .i64 0, .int .i64 0, .int .i64 0, .nil, .nil, .bool false, .nil, .nil, .int .i64 0], false, [.undef, .undef, .undef, .undef, .view 999 1 .flat [], .view 999 1 .flat [], .view 999 1 .flat [], .undef, .undef, .view 999 4 .clean [], .undef, .view 999 4 .clean [], .view 999 1 .flat [], .view 999 8 .flat [], .view 999 5 .flat [], .view 999 2 .flat [], .undef, .undef, .undef, .undef, .view 999 2 .flat [], .view 999 1 .flat [], .undef, .view 999 8 .flat [], .view 999 2 .clean []], .clean⟩,
 some ⟨.struct [(0, 4), (1, 63), (23, 64), (24, 22), (25, 3)], 26, 448, .agg [.bool false, .str [], .str [], .bool false, .nil, .nil, .nil, .str [], .str [], .nil, .bool false, .nil, .nil, .nil, .nil, .nil, .int .i64 0, .int .i64 0, .int .i64 0, .int .i64 0, .nil, .nil, .bool false, .nil, .nil, .int .i64 0], false, [.undef, .undef, .undef, .undef, .view 999 1 .flat [], .view 999 1 .flat [], .view 999 1 .flat [], .undef, .undef, .view 999 4 .clean [], .undef, .view 999 4 .clean [], .view 999 1 .flat [], .view 999 8 .flat [], .view 999 5 .flat [], .view 999 2 .flat [], .undef, .undef, .undef, .undef, .view 999 2 .flat [], .view 999 1 .flat [], .undef, .view 999 8 .flat [], .view 999 2 .clean []], .clean⟩,
 none,
 some ⟨.struct [(0, 46), (4, 33), (6, 66), (32, 4)], 33, 568, .agg [.nil, .nil, .nil, .int .i64 0, .nil, .int .i64 0, .bool false, .str [], .str [], .bool false, .nil, .nil, .nil, .str [], .str [], .nil, .bool false, .nil, .nil, .nil, .nil, .nil, .int .i64 0, .int .i64 0, .int .i64 0, .int .i64 0, .nil, .nil, .bool false, .nil, .nil, .int .i64 0, .bool false], false, [.view 999 2 .clean [], .view 999 10 .flat [], .view 999 4 .flat [], .undef, .view 999 25 .clean [], .undef, .undef, .undef, .undef, .undef, .view 999 1 .flat [], .view 999 1 .flat [], .view 999 1 .flat [], .undef, .undef, .view 999 4 .clean [], .undef, .view 999 4 .clean [], .view 999 1 .flat [], .view 999 8 .flat [], .view 999 5 .flat [], .view 999 2 .flat [], .undef, .undef, .undef, .undef, .view 999 2 .flat [], .view 999 1 .flat [], .undef, .view 999 8 .flat [], .view 999 2 .clean []], .clean⟩,
 none,
 none,
 none,
 none,
 none,
 some ⟨.struct [(0, 3), (1, 3), (2, 9), (3, 3), (4, 4), (5, 9)], 6, 64, .agg [.int .i64 0, .int .i64 0, .str [], .int .i64 0, .bool false, .str []], false, [], .flat⟩,
 some ⟨.struct [(0, 3), (1, 3), (2, 9), (3, 3), (4, 4), (5, 9)], 6, 64, .agg [.int .i64 0, .int .i64 0, .str [], .int .i64 0, .bool false, .str []], true, [], .flat⟩,
 none,
 none,
 some ⟨.struct [(0, 9), (1, 75)], 7, 80, .agg [.str [], .int .i64 0, .int .i64 0, .str [], .int .i64 0, .bool false, .str []], false, [], .flat⟩,
 some ⟨.struct [(0, 9), (1, 75)], 7, 80, .agg [.str [], .int .i64 0, .int .i64 0, .str [], .int .i64 0, .bool false, .str []], true, [], .flat⟩,
 none,
 some ⟨.slice 79, 1, 24, .nil, false, [.view 999 7 .flat []], .clean⟩,
 some ⟨.struct [(0, 9), (1, 81)], 2, 40, .agg [.str [], .nil], false, [.undef, .view 999 7 .flat []], .clean⟩,
 some ⟨.struct [(0, 9), (1, 81)], 2, 40, .agg [.str [], .nil], false, [.undef, .view 999 7 .flat []], .clean⟩,
 none,
 none,
 none,
 none,
 none,
 none,
 some ⟨.struct [(0, 48), (2, 63), (24, 4)], 25, 424, .agg [.str [], .str [], .str [], .str [], .bool false, .nil, .nil, .nil, .str [], .str [], .nil, .bool false, .nil, .nil, .nil, .nil, .nil, .int .i64 0, .int .i64 0, .int .i64 0, .int .i64 0, .nil, .nil, .bool false, .bool false], false, [.undef, .undef, .undef, .undef, .undef, .view 999 1 .flat [], .view 999 1 .flat [], .view 999 1 .flat [], .undef, .undef, .view 999 4 .clean [], .undef, .view 999 4 .clean [], .view 999 1 .flat [], .view 999 8 .flat [], .view 999 5 .flat [], .view 999 2 .flat [], .undef, .undef, .undef, .undef, .view 999 2 .flat [], .view 999 1 .flat []], .clean⟩,
 some ⟨.struct [(0, 48), (2, 63), (24, 4)], 25, 424, .agg [.str [], .str [], .str [], .str [], .bool false, .nil, .nil, .nil, .str [], .str [], .nil, .bool false, .nil, .nil, .nil, .nil, .nil, .int .i64 0, .int .i64 0, .int .i64 0, .int .i64 0, .nil, .nil, .bool false, .bool false], false, [.undef, .undef, .undef, .undef, .undef, .view 999 1 .flat [], .view 999 1 .flat [], .view 999 1 .flat [], .undef, .undef, .view 999 4 .clean [], .undef, .view 999 4 .clean [], .view 999 1 .flat [], .view 999 8 .flat [], .view 999 5 .flat [], .view 999 2 .flat [], .undef, .undef, .undef, .undef, .view 999 2 .flat [], .view 999 1 .flat []], .clean⟩,
 none,
 none,
 none,
 none,
 some ⟨.slice 170, 1, 24, .nil, false, [.view 999 7 .flat []], .clean⟩,
 some ⟨.struct [(0, 9), (1, 96)], 2, 40, .agg [.str [], .nil], false, [.undef, .view 999 7 .flat []], .clean⟩,
 some ⟨.struct [(0, 9), (1, 96)], 2, 40, .agg [.str [], .nil], false, [.undef, .view 999 7 .flat []], .clean⟩,
 none,
 none,
 none,
 none,
 none,
 none,
 none,
 none,
 none,
 none,
 none,
 some ⟨.slice 5, 1, 24, .nil, false, [.view 999 1 .flat []], .clean⟩,
 none,
 some ⟨.struct [(0, 9), (1, 9)], 2, 32, .agg [.str [], .str []], true, [], .flat⟩,
 some ⟨.struct [(0, 4), (1, 49), (2, 49), (3, 49), (4, 9)], 5, 96, .agg [.bool false, .nil, .nil, .nil, .str []], false, [.undef, .view 999 1 .flat [], .view 999 1 .flat [], .view 999 1 .flat []], .clean⟩,
 some ⟨.struct [(0, 9)], 1, 16, .agg [.str []], true, [], .flat⟩,
 some ⟨.slice 227, 1, 24, .nil, false, [.view 999 4 .clean []], .clean⟩,
 some ⟨.slice 247, 1, 24, .nil, false, [.view 999 4 .clean []], .clean⟩,
 none,
 some ⟨.struct [(0, 116), (1, 56)], 2, 48, .agg [.nil, .nil], false, [.view 999 4 .clean [], .view 999 1 .flat []], .clean⟩,
 some ⟨.slice 231, 1, 24, .nil, false, [.view 999 8 .flat []], .clean⟩,
 some ⟨.slice 234, 1, 24, .nil, false, [.view 999 5 .flat []], .clean⟩,
 some ⟨.slice 112, 1, 24, .nil, false, [.view 999 2 .flat []], .clean⟩,
 none,
 some ⟨.struct [(0, 112), (2, 113), (7, 114), (8, 115), (9, 4), (10, 118), (12, 119), (13, 120), (14, 121), (15, 3), (16, 3), (17, 3), (18, 3), (19, 121), (20, 49), (21, 4)], 22, 384, .agg [.str [], .str [], .bool false, .nil, .nil, .nil, .str [], .str [], .nil, .bool false, .nil, .nil, .nil, .nil, .nil, .int .i64 0, .int .i64 0, .int .i64 0, .int .i64 0, .nil, .nil, .bool false], false, [.undef, .undef, .undef, .view 999 1 .flat [], .view 999 1 .flat [], .view 999 1 .flat [], .undef, .undef, .view 999 4 .clean [], .undef, .view 999 4 .clean [], .view 999 1 .flat [], .view 999 8 .flat [], .view 999 5 .flat [], .view 999 2 .flat [], .undef, .undef, .undef, .undef, .view 999 2 .flat [], .view 999 1 .flat []], .clean⟩,
 some ⟨.struct [(0, 112), (2, 123), (24, 4)], 25, 424, .agg [.str [], .str [], .str [], .str [], .bool false, .nil, .nil, .nil, .str [], .str [], .nil, .bool false, .nil, .nil, .nil, .nil, .nil, .int .i64 0, .int .i64 0, .int .i64 0, .int .i64 0, .nil, .nil, .bool false, .bool false], false, [.undef, .undef, .undef, .undef, .undef, .view 999 1 .flat [], .view 999 1 .flat [], .view 999 1 .flat [], .undef, .undef, .view 999 4 .clean [], .undef, .view 999 4 .clean [], .view 999 1 .flat [], .view 999 8 .flat [], .view 999 5 .flat [], .view 999 2 .flat [], .undef, .undef, .undef, .undef, .view 999 2 .flat [], .view 999 1 .flat []], .clean⟩,
 some ⟨.struct [(0, 112), (2, 123), (24, 4)], 25, 424, .agg [.str [], .str [], .str [], .str [], .bool false, .nil, .nil, .nil, .str [], .str [], .nil, .bool false, .nil, .nil, .nil, .nil, .nil, .int .i64 0, .int .i64 0, .int .i64 0, .int .i64 0, .nil, .nil, .bool false, .bool false], false, [.undef, .undef, .undef, .undef, .undef, .view 999 1 .flat [], .view 999 1 .flat [], .view 999 1 .flat [], .undef, .undef, .view 999 4 .clean [], .undef, .view 999 4 .clean [], .view 999 1 .flat [], .view 999 8 .flat [], .view 999 5 .flat [], .view 999 2 .flat [], .undef, .undef, .undef, .undef, .view 999 2 .flat [], .view 999 1 .flat []], .clean⟩,
 none,
 none,
 none,
 none,
 none,
 none,
 none,
 none,
 none,
 none,
 none,
 none,
 none,
 none,
 none,
 none,
 none,
 none,
 none,
 none,
 none,
 none,
 none,
 none,
 none,
 none,
 none,
 none,
 none,
 none,
 none,
 some ⟨.slice 211, 1, 24, .nil, false, [.view 999 2 .flat []], .clean⟩,
 some ⟨.struct [(0, 3), (1, 9), (2, 157), (3, 9)], 4, 64, .agg [.int .i64 0, .str [], .nil, .str []], false, [.undef, .undef, .view 999 2 .flat []], .clean⟩,
 some ⟨.struct [(0, 3), (1, 9), (2, 157), (3, 9)], 4, 64, .agg [.int .i64 0, .str [], .nil, .str []], false, [.undef, .undef, .view 999 2 .flat []], .clean⟩,
 none,
 some ⟨.struct [(0, 9), (1, 9), (2, 3), (3, 157)], 4, 64, .agg [.str [], .str [], .int .i64 0, .nil], false, [.undef, .undef, .undef, .view 999 2 .flat []], .clean⟩,
 some ⟨.struct [(0, 9), (1, 9), (2, 3), (3, 157)], 4, 64, .agg [.str [], .str [], .int .i64 0, .nil], false, [.undef, .undef, .undef, .view 999 2 .flat []], .clean⟩,
 some ⟨.struct [(0, 3), (1, 48), (3, 9), (4, 3), (5, 4), (6, 3), (7, 9)], 8, 96, .agg [.int .i64 0, .str [], .str [], .str [], .int .i64 0, .bool false, .int .i64 0, .str []], false, [], .flat⟩,
 some ⟨.struct [(0, 3), (1, 48), (3, 9), (4, 3), (5, 4), (6, 3), (7, 9)], 8, 96, .agg [.int .i64 0, .str [], .str [], .str [], .int .i64 0, .bool false, .int .i64 0, .str []], true, [], .flat⟩,
 none,
 some ⟨.struct [(0, 48), (2, 4), (3, 3), (4, 9)], 5, 64, .agg [.str [], .str [], .bool false, .int .i64 0, .str []], true, [], .flat⟩,
 none,
 some ⟨.struct [(0, 3), (1, 3), (2, 9), (3, 3), (4, 4), (5, 9)], 6, 64, .agg [.int .i64 0, .int .i64 0, .str [], .int .i64 0, .bool false, .str []], true, [], .flat⟩,
 some ⟨.struct [(0, 9), (1, 168)], 7, 80, .agg [.str [], .int .i64 0, .int .i64 0, .str [], .int .i64 0, .bool false, .str []], false, [], .flat⟩,
 some ⟨.struct [(0, 9), (1, 168)], 7, 80, .agg [.str [], .int .i64 0, .int .i64 0, .str [], .int .i64 0, .bool false, .str []], true, [], .flat⟩,
 none,
 none,
 none,
 some ⟨.struct [(0, 9), (1, 48), (3, 4)], 4, 56, .agg [.str [], .str [], .str [], .bool false], false, [], .flat⟩,
 some ⟨.struct [(0, 9), (1, 48), (3, 4)], 4, 56, .agg [.str [], .str [], .str [], .bool false], true, [], .flat⟩,
 none,
 none,
 none,
 none,
 none,
 none,
 none,
 none,
 none,
 none,
 some ⟨.struct [(0, 48), (2, 75)], 8, 96, .agg [.str [], .str [], .int .i64 0, .int .i64 0, .str [], .int .i64 0, .bool false, .str []], true, [], .flat⟩,
 none,
 none,
 none,
 none,
 none,
 none,
 none,
 none,
 none,
 none,
 none,
 none,
 none,
 none,
 none,
 none,
 none,
 none,
 none,
 none,
 none,
 none,
 none,
 none,
 some ⟨.struct [(0, 9), (1, 9)], 2, 32, .agg [.str [], .str []], true, [], .flat⟩,
 none,
 none,
 none,
 none,
 some ⟨.struct [(0, 9), (1, 48), (3, 75), (9, 3)], 10, 120, .agg [.str [], .str [], .str [], .int .i64 0, .int .i64 0, .str [], .int .i64 0, .bool false, .str [], .int .i64 0], true, [], .flat⟩,
 none,
 none,
 none,
 none,
 none,
 none,
 none,
 none,
 some ⟨.slice 253, 1, 24, .nil, false, [.view 999 2 .flat []], .clean⟩,
 none,
 some ⟨.struct [(0, 3), (1, 9), (2, 225), (3, 9)], 4, 64, .agg [.int .i64 0, .str [], .nil, .str []], false, [.undef, .undef, .view 999 2 .flat []], .clean⟩,
 none,
 none,
 none,
 some ⟨.struct [(0, 3), (1, 112), (3, 9), (4, 3), (5, 4), (6, 3), (7, 9)], 8, 96, .agg [.int .i64 0, .str [], .str [], .str [], .int .i64 0, .bool false, .int .i64 0, .str []], true, [], .flat⟩,
 none,
 none,
 some ⟨.struct [(0, 112), (2, 4), (3, 3), (4, 9)], 5, 64, .agg [.str [], .str [], .bool false, .int .i64 0, .str []], true, [], .flat⟩,
 none,
 none,
 none,
 none,
 none,
 none,
 none,
 none,
 none,
 none,
 none,
 none,
 some ⟨.struct [(0, 9), (1, 9), (2, 3), (3, 225)], 4, 64, .agg [.str [], .str [], .int .i64 0, .nil], false, [.undef, .undef, .undef, .view 999 2 .flat []], .clean⟩,
 none,
 none,
 none,
 none,
 none,
 some ⟨.struct [(0, 9), (1, 9)], 2, 32, .agg [.str [], .str []], true, [], .flat⟩,
 none,
 none,
 none,
 some ⟨.struct [(0, 17), (1, 17), (2, 17), (3, 9)], 4, 40, .agg [.undef, .undef, .undef, .str []], false, [], .flat⟩,
 some ⟨.array 0 16, 0, 0, .agg [], false, [], .flat⟩,
 none,
 some ⟨.struct [(0, 258)], 0, 0, .agg [], false, [], .flat⟩,
 none,
 some ⟨.int .u32, 1, 4, .int .u32 0, false, [], .flat⟩,
 some ⟨.int .u8, 1, 1, .int .u8 0, false, [], .flat⟩,
 some ⟨.int .u8, 1, 1, .int .u8 0, false, [], .flat⟩,
 none,
 some ⟨.ptr 5, 1, 8, .undef, false, [], .flat⟩,
 some ⟨.int .i32, 1, 4, .int .i32 0, false, [], .flat⟩,
 some ⟨.int .i32, 1, 4, .int .i32 0, false, [], .flat⟩]
def pzL : List (Nat × List (List V)) := [(8, [[.view 999 2 .clean []], [.view 999 2 .clean []]]),
 (11, [[.view 999 25 .clean []], []]),
 (12, [[.view 999 25 .clean []], []]),
 (13, [[.view 999 25 .clean []]]),
 (14, [[.view 999 25 .clean []], []]),
 (15, [[.view 999 25 .clean []], [.view 999 25 .clean []]]),
 (18, [[.view 999 2 .clean []], []]),
 (19, [[.view 999 2 .clean []], []]),
 (20, [[.view 999 2 .clean []]]),
 (21, [[.view 999 2 .clean []], []]),
 (22, [[.view 999 2 .clean [], .view 999 10 .flat [], .view 999 4 .flat [], .undef, .view 999 25 .clean [], .undef, .undef, .undef, .undef, .undef, .view 999 1 .flat [], .view 999 1 .flat [], .view 999 1 .flat [], .undef, .undef, .view 999 4 .clean [], .undef, .view 999 4 .clean [], .view 999 1 .flat [], .view 999 8 .flat [], .view 999 5 .flat [], .view 999 2 .flat [], .undef, .undef, .undef, .undef, .view 999 2 .flat [], .view 999 1 .flat [], .undef, .view 999 8 .flat [], .view 999 2 .clean []], [.view 999 2 .clean [], .view 999 10 .flat [], .view 999 4 .flat [], .undef, .view 999 25 .clean [], .undef, .undef, .undef, .undef, .undef, .view 999 1 .flat [], .view 999 1 .flat [], .view 999 1 .flat [], .undef, .undef, .view 999 4 .clean [], .undef, .view 999 4 .clean [], .view 999 1 .flat [], .view 999 8 .flat [], .view 999 5 .flat [], .view 999 2 .flat [], .undef, .undef, .undef, .undef, .view 999 2 .flat [], .view 999 1 .flat [], .undef, .view 999 8 .flat [], .view 999 2 .clean []]]),
 (27, [[.undef, .view 999 7 .flat []], [.undef, .view 999 7 .flat []]]),
 (31, [[.view 999 25 .clean []], []]),
 (32, [[.view 999 25 .clean []]]),
 (34, [[.view 999 25 .clean []]]),
 (35, [[.view 999 25 .clean []]]),
 (36, [[.view 999 25 .clean []], [.view 999 25 .clean []]]),
 (39, [[.undef, .view 999 7 .flat []], []]),
 (40, [[.view 999 2 .clean []]]),
 (42, [[.undef, .view 999 7 .flat []]]),
 (43, [[.view 999 2 .clean []]]),
 (45, [[.view 999 2 .clean [], .view 999 10 .flat [], .view 999 4 .flat []], [.view 999 2 .clean [], .view 999 10 .flat [], .view 999 4 .flat []]]),
 (46, [[.undef, .undef, .undef, .undef, .view 999 1 .flat [], .view 999 1 .flat [], .view 999 1 .flat [], .undef, .undef, .view 999 4 .clean [], .undef, .view 999 4 .clean [], .view 999 1 .flat [], .view 999 8 .flat [], .view 999 5 .flat [], .view 999 2 .flat [], .undef, .undef, .undef, .undef, .view 999 2 .flat [], .view 999 1 .flat [], .undef, .view 999 8 .flat [], .view 999 2 .clean []], [.undef, .undef, .undef, .undef, .view 999 1 .flat [], .view 999 1 .flat [], .view 999 1 .flat [], .undef, .undef, .view 999 4 .clean [], .undef, .view 999 4 .clean [], .view 999 1 .flat [], .view 999 8 .flat [], .view 999 5 .flat [], .view 999 2 .flat [], .undef, .undef, .undef, .undef, .view 999 2 .flat [], .view 999 1 .flat [], .undef, .view 999 8 .flat [], .view 999 2 .clean []]]),
 (54, [[.view 999 7 .flat []], [.view 999 7 .flat []]]),
 (55, [[.undef, .undef, .undef, .undef, .undef, .view 999 1 .flat [], .view 999 1 .flat [], .view 999 1 .flat [], .undef, .undef, .view 999 4 .clean [], .undef, .view 999 4 .clean [], .view 999 1 .flat [], .view 999 8 .flat [], .view 999 5 .flat [], .view 999 2 .flat [], .undef, .undef, .undef, .undef, .view 999 2 .flat [], .view 999 1 .flat []], []]),
 (56, [[.undef, .undef, .undef, .view 999 1 .flat [], .view 999 1 .flat [], .view 999 1 .flat [], .undef, .undef, .view 999 4 .clean [], .undef, .view 999 4 .clean [], .view 999 1 .flat [], .view 999 8 .flat [], .view 999 5 .flat [], .view 999 2 .flat [], .undef, .undef, .undef, .undef, .view 999 2 .flat [], .view 999 1 .flat []]]),
 (57, [[.undef, .undef, .undef, .undef, .undef, .view 999 1 .flat [], .view 999 1 .flat [], .view 999 1 .flat [], .undef, .undef, .view 999 4 .clean [], .undef, .view 999 4 .clean [], .view 999 1 .flat [], .view 999 8 .flat [], .view 999 5 .flat [], .view 999 2 .flat [], .undef, .undef, .undef, .undef, .view 999 2 .flat [], .view 999 1 .flat []]]),
 (58, [[.undef, .undef, .undef, .view 999 1 .flat [], .view 999 1 .flat [], .view 999 1 .flat [], .undef, .undef, .view 999 4 .clean [], .undef, .view 999 4 .clean [], .view 999 1 .flat [], .view 999 8 .flat [], .view 999 5 .flat [], .view 999 2 .flat [], .undef, .undef, .undef, .undef, .view 999 2 .flat [], .view 999 1 .flat []]]),
 (59, [[.undef, .undef, .undef, .undef, .undef, .view 999 1 .flat [], .view 999 1 .flat [], .view 999 1 .flat [], .undef, .undef, .view 999 4 .clean [], .undef, .view 999 4 .clean [], .view 999 1 .flat [], .view 999 8 .flat [], .view 999 5 .flat [], .view 999 2 .flat [], .undef, .undef, .undef, .undef, .view 999 2 .flat [], .view 999 1 .flat []], [.undef, .undef, .undef, .undef, .undef, .view 999 1 .flat [], .view 999 1 .flat [], .view 999 1 .flat [], .undef, .undef, .view 999 4 .clean [], .undef, .view 999 4 .clean [], .view 999 1 .flat [], .view 999 8 .flat [], .view 999 5 .flat [], .view 999 2 .flat [], .undef, .undef, .undef, .undef, .view 999 2 .flat [], .view 999 1 .flat []]]),
 (74, [[.view 999 7 .flat []], []]),
 (75, [[.view 999 7 .flat []]]),
 (76, [[.view 999 10 .flat []], [.view 999 10 .flat []]]),
 (77, [[.view 999 4 .flat []], [.view 999 4 .flat []]]),
 (78, [[.undef, .undef, .undef, .view 999 1 .flat [], .view 999 1 .flat [], .view 999 1 .flat [], .undef, .undef, .view 999 4 .clean [], .undef, .view 999 4 .clean [], .view 999 1 .flat [], .view 999 8 .flat [], .view 999 5 .flat [], .view 999 2 .flat [], .undef, .undef, .undef, .undef, .view 999 2 .flat [], .view 999 1 .flat []], [.undef, .undef, .undef, .view 999 1 .flat [], .view 999 1 .flat [], .view 999 1 .flat [], .undef, .undef, .view 999 4 .clean [], .undef, .view 999 4 .clean [], .view 999 1 .flat [], .view 999 8 .flat [], .view 999 5 .flat [], .view 999 2 .flat [], .undef, .undef, .undef, .undef, .view 999 2 .flat [], .view 999 1 .flat []]]),
 (79, [[.view 999 8 .flat []], [.view 999 8 .flat []]]),
 (92, [[.undef, .undef, .undef, .view 999 1 .flat [], .view 999 1 .flat [], .view 999 1 .flat [], .undef, .undef, .view 999 4 .clean [], .undef, .view 999 4 .clean [], .view 999 1 .flat [], .view 999 8 .flat [], .view 999 5 .flat [], .view 999 2 .flat [], .undef, .undef, .undef, .undef, .view 999 2 .flat [], .view 999 1 .flat []], []]),
 (93, [[.undef, .view 999 1 .flat [], .view 999 1 .flat [], .view 999 1 .flat []]]),
 (94, [[.view 999 4 .clean []]]),
 (95, [[.view 999 4 .clean [], .view 999 1 .flat []]]),
 (97, [[.undef, .undef, .undef, .view 999 1 .flat [], .view 999 1 .flat [], .view 999 1 .flat [], .undef, .undef, .view 999 4 .clean [], .undef, .view 999 4 .clean [], .view 999 1 .flat [], .view 999 8 .flat [], .view 999 5 .flat [], .view 999 2 .flat [], .undef, .undef, .undef, .undef, .view 999 2 .flat [], .view 999 1 .flat []]]),
 (98, [[.undef, .view 999 1 .flat [], .view 999 1 .flat [], .view 999 1 .flat []]]),
 (99, [[.view 999 4 .clean []]]),
 (100, [[.view 999 4 .clean [], .view 999 1 .flat []]]),
 (106, [[.view 999 10 .flat []], [.view 999 10 .flat []]]),
 (108, [[.undef, .view 999 1 .flat [], .view 999 1 .flat [], .view 999 1 .flat []], [.undef, .view 999 1 .flat [], .view 999 1 .flat [], .view 999 1 .flat []]]),
 (110, [[.view 999 4 .clean []], [.view 999 4 .clean []]]),
 (111, [[.view 999 4 .clean [], .view 999 1 .flat []], [.view 999 4 .clean [], .view 999 1 .flat []]]),
 (112, [[.view 999 8 .flat []], [.view 999 8 .flat []]]),
 (113, [[.view 999 5 .flat []], [.view 999 5 .flat []]]),
 (114, [[.view 999 2 .flat []], [.view 999 2 .flat []]]),
 (115, [[.view 999 1 .flat []], [.view 999 1 .flat []]]),
 (125, [[.undef, .view 999 1 .flat [], .view 999 1 .flat [], .view 999 1 .flat []], []]),
 (127, [[.view 999 4 .clean []], []]),
 (128, [[.view 999 4 .clean [], .view 999 1 .flat []], []]),
 (129, [[.view 999 8 .flat []], []]),
 (130, [[.view 999 5 .flat []], []]),
 (131, [[.view 999 2 .flat []], []]),
 (132, [[.view 999 1 .flat []], []]),
 (133, [[.view 999 2 .flat []]]),
 (134, [[.undef, .view 999 1 .flat [], .view 999 1 .flat [], .view 999 1 .flat []]]),
 (136, [[.view 999 4 .clean []]]),
 (137, [[.view 999 4 .clean [], .view 999 1 .flat []]]),
 (138, [[.view 999 8 .flat []]]),
 (139, [[.view 999 5 .flat []]]),
 (140, [[.view 999 2 .flat []]]),
 (141, [[.view 999 1 .flat []]]),
 (142, [[.undef, .undef, .view 999 2 .flat []]]),
 (146, [[.undef, .undef, .view 999 2 .flat []], [.undef, .undef, .view 999 2 .flat []]]),
 (147, [[.view 999 4 .clean []], [.view 999 4 .clean []]]),
 (148, [[.view 999 1 .flat []], [.view 999 1 .flat []]]),
 (153, [[.undef, .undef, .view 999 2 .flat []], []]),
 (154, [[.view 999 4 .clean []], []]),
 (155, [[.view 999 1 .flat []], []]),
 (158, [[.undef, .undef, .view 999 2 .flat []]]),
 (159, [[.view 999 4 .clean []]]),
 (160, [[.view 999 1 .flat []]]),
 (163, [[.view 999 2 .flat []], [.view 999 2 .flat []]]),
 (164, [[.undef, .undef, .undef, .view 999 2 .flat []], [.undef, .undef, .undef, .view 999 2 .flat []]]),
 (167, [[.view 999 2 .flat []], []]),
 (168, [[.undef, .undef, .undef, .view 999 2 .flat []], []]),
 (169, [[.view 999 2 .flat []]]),
 (170, [[.undef, .undef, .undef, .view 999 2 .flat []]])]
def rzL : List (Nat × List V) := [(12, [.own 0 25 .clean []]),
 (13, [.own 0 25 .clean []]),
 (14, [.own 0 25 .clean []]),
 (19, [.own 0 2 .clean [], .own 0 10 .flat [], .own 0 4 .flat [], .undef, .own 0 25 .clean [], .undef, .undef, .undef, .undef, .undef, .own 0 1 .flat [], .own 0 1 .flat [], .own 0 1 .flat [], .undef, .undef, .own 0 4 .clean [], .undef, .own 0 4 .clean [], .own 0 1 .flat [], .own 0 8 .flat [], .own 0 5 .flat [], .own 0 2 .flat [], .undef, .undef, .undef, .undef, .own 0 2 .flat [], .own 0 1 .flat [], .undef, .own 0 8 .flat [], .own 0 2 .clean []]),
 (20, [.own 0 2 .clean []]),
 (21, [.own 0 2 .clean [], .own 0 10 .flat [], .own 0 4 .flat [], .undef, .own 0 25 .clean [], .undef, .undef, .undef, .undef, .undef, .own 0 1 .flat [], .own 0 1 .flat [], .own 0 1 .flat [], .undef, .undef, .own 0 4 .clean [], .undef, .own 0 4 .clean [], .own 0 1 .flat [], .own 0 8 .flat [], .own 0 5 .flat [], .own 0 2 .flat [], .undef, .undef, .undef, .undef, .own 0 2 .flat [], .own 0 1 .flat [], .undef, .own 0 8 .flat [], .own 0 2 .clean []]),
 (32, [.own 0 25 .clean []]),
 (34, [.own 0 25 .clean []]),
 (35, [.own 0 25 .clean []]),
 (40, [.own 0 2 .clean []]),
 (41, [.own 0 25 .clean []]),
 (42, [.undef, .own 0 7 .flat []]),
 (43, [.own 0 2 .clean []]),
 (44, [.own 0 25 .clean []]),
 (56, [.undef, .undef, .undef, .own 0 1 .flat [], .own 0 1 .flat [], .own 0 1 .flat [], .undef, .undef, .own 0 4 .clean [], .undef, .own 0 4 .clean [], .own 0 1 .flat [], .own 0 8 .flat [], .own 0 5 .flat [], .own 0 2 .flat [], .undef, .undef, .undef, .undef, .own 0 2 .flat [], .own 0 1 .flat []]),
 (57, [.undef, .undef, .undef, .undef, .undef, .own 0 1 .flat [], .own 0 1 .flat [], .own 0 1 .flat [], .undef, .undef, .own 0 4 .clean [], .undef, .own 0 4 .clean [], .own 0 1 .flat [], .own 0 8 .flat [], .own 0 5 .flat [], .own 0 2 .flat [], .undef, .undef, .undef, .undef, .own 0 2 .flat [], .own 0 1 .flat []]),
 (58, [.undef, .undef, .undef, .own 0 1 .flat [], .own 0 1 .flat [], .own 0 1 .flat [], .undef, .undef, .own 0 4 .clean [], .undef, .own 0 4 .clean [], .own 0 1 .flat [], .own 0 8 .flat [], .own 0 5 .flat [], .own 0 2 .flat [], .undef, .undef, .undef, .undef, .own 0 2 .flat [], .own 0 1 .flat []]),
 (75, [.own 0 7 .flat []]),
 (93, [.undef, .own 0 1 .flat [], .own 0 1 .flat [], .own 0 1 .flat []]),
 (94, [.own 0 4 .clean []]),
 (95, [.own 0 4 .clean [], .own 0 1 .flat []]),
 (97, [.undef, .undef, .undef, .own 0 1 .flat [], .own 0 1 .flat [], .own 0 1 .flat [], .undef, .undef, .own 0 4 .clean [], .undef, .own 0 4 .clean [], .own 0 1 .flat [], .own 0 8 .flat [], .own 0 5 .flat [], .own 0 2 .flat [], .undef, .undef, .undef, .undef, .own 0 2 .flat [], .own 0 1 .flat []]),
 (98, [.undef, .own 0 1 .flat [], .own 0 1 .flat [], .own 0 1 .flat []]),
 (99, [.own 0 4 .clean []]),
 (100, [.own 0 4 .clean [], .own 0 1 .flat []]),
 (133, [.own 0 2 .flat []]),
 (134, [.undef, .own 0 1 .flat [], .own 0 1 .flat [], .own 0 1 .flat []]),
 (136, [.own 0 4 .clean []]),
 (137, [.own 0 4 .clean [], .own 0 1 .flat []]),
 (138, [.own 0 8 .flat []]),
 (139, [.own 0 5 .flat []]),
 (140, [.own 0 2 .flat []]),
 (141, [.own 0 1 .flat []]),
 (142, [.undef, .undef, .own 0 2 .flat []]),
 (158, [.undef, .undef, .own 0 2 .flat []]),
 (159, [.own 0 4 .clean []]),
 (160, [.own 0 1 .flat []]),
 (169, [.own 0 2 .flat []]),
 (170, [.undef, .undef, .undef, .own 0 2 .flat []])]
def fgL : List (Nat × List (Nat × List Nat × List Nat × List Nat)) := [(8, [(4, [2, 3, 4, 6, 7, 8, 9, 10, 11, 12, 13, 14, 15, 16, 17, 18, 19, 20, 21, 22, 23, 24, 25, 26], [], []), (1004, [0, 1, 2, 3, 5, 6, 7, 8, 9, 10, 11, 12, 13, 14, 15, 16, 17, 18, 19, 20, 21, 22, 23, 24, 25, 26], [], [])]),
 (18, [(5, [2, 3, 4, 6, 7, 8, 9, 10, 11, 12, 13, 14, 15, 16, 17, 18, 19, 20, 21, 22, 23, 24, 25, 26], [], []), (1005, [0, 2, 3, 5, 6, 7, 8, 9, 10, 11, 12, 13, 14, 15, 16, 17, 18, 19, 20, 21, 22, 23, 24, 25, 26], [], [])]),
 (20, [(3, [1, 2, 5, 6, 7, 8, 9, 10, 11, 12, 13, 14, 15, 16, 17, 18, 19, 20, 21, 22], [], []), (1003, [0, 1, 2, 4, 5, 6, 7, 8, 9, 10, 11, 12, 13, 14, 15, 16, 17, 18, 19, 20, 21, 22], [], [])]),
 (28, [(4, [1, 2, 4, 5, 6, 7, 8, 9, 10, 11, 12, 13, 14, 15, 16, 17, 18, 19], [], []), (1004, [0, 1, 2, 4, 5, 6, 7, 8, 9, 10, 11, 12, 13, 14, 15, 16, 17, 18, 19], [], [])]),
 (31, [(5, [2, 3, 4, 6, 7, 8, 9, 10, 11, 12, 13, 14, 15, 16, 17, 18, 19, 20, 21, 22, 23, 24, 25, 26], [], []), (1005, [0, 2, 3, 5, 6, 7, 8, 9, 10, 11, 12, 13, 14, 15, 16, 17, 18, 19, 20, 21, 22, 23, 24, 25, 26], [], [])]),
 (32, [(3, [0, 5, 6, 7, 8, 9, 10, 11, 12, 13, 14, 15, 16, 17, 18, 19, 20, 21, 22, 23, 24, 25, 26, 27, 28, 29, 30, 31, 32, 33, 34, 35], [5, 1002006000051], []), (1003, [0, 1, 4, 5, 6, 7, 8, 9, 10, 11, 12, 13, 14, 15, 16, 17, 18, 19, 20, 21, 22, 23, 24, 25, 26, 27, 28, 29, 30, 31, 32, 33, 34, 35], [1, 5], [])]),
 (34, [(3, [1, 2, 5, 6, 7, 8, 9, 10, 11, 12, 13, 14, 15, 16, 17, 18, 19, 20, 21, 22], [], []), (1003, [0, 1, 2, 4, 5, 6, 7, 8, 9, 10, 11, 12, 13, 14, 15, 16, 17, 18, 19, 20, 21, 22], [], [])]),
 (35, [(3, [0, 1, 4, 5, 6, 7, 8, 9, 13, 14, 15, 16, 17, 18, 19, 20, 21, 22, 23, 24, 25, 26, 27], [1, 5, 1002006000051], []), (1003, [0, 1, 4, 5, 6, 7, 8, 9, 10, 11, 12, 13, 14, 15, 16, 17, 18, 19, 20, 21, 22, 23, 24, 25, 26, 27], [1, 5], [])]),
 (36, [(4, [2, 3, 4, 6, 7, 8, 9, 10, 11, 12, 13, 14, 15, 16, 17, 18, 19, 20, 21, 22, 23, 24, 25, 26], [], []), (1004, [0, 1, 2, 3, 5, 6, 7, 8, 9, 10, 11, 12, 13, 14, 15, 16, 17, 18, 19, 20, 21, 22, 23, 24, 25, 26], [], [])]),
 (40, [(3, [1, 2, 5, 6, 7, 8, 9, 10, 11, 12, 13, 14, 15, 16, 17, 18, 19, 20, 21, 22, 23, 24, 25, 26, 27, 28], [], []), (1003, [0, 1, 2, 4, 5, 6, 7, 8, 9, 10, 11, 12, 13, 14, 15, 16, 17, 18, 19, 20, 21, 22, 23, 24, 25, 26, 27, 28], [], [])]),
 (43, [(3, [0, 1, 2, 4, 5, 6, 10, 11, 12, 13, 14, 15, 16, 17, 18, 19, 20, 21, 22, 23, 24], [5], []), (5, [], [], [1, 4]), (1003, [0, 1, 2, 4, 5, 6, 7, 8, 9, 10, 11, 12, 13, 14, 15, 16, 17, 18, 19, 20, 21, 22, 23, 24], [5], [])]),
 (54, [(4, [2, 3, 4, 6, 7, 8, 9, 10, 11, 12, 13, 14, 15, 16, 17, 18, 19, 20, 21, 22, 23, 24, 25, 26], [], []), (1004, [0, 1, 2, 3, 5, 6, 7, 8, 9, 10, 11, 12, 13, 14, 15, 16, 17, 18, 19, 20, 21, 22, 23, 24, 25, 26], [], [])]),
 (74, [(5, [2, 3, 4, 6, 7, 8, 9, 10, 11, 12, 13, 14, 15, 16, 17, 18, 19, 20, 21, 22, 23, 24, 25, 26], [], []), (1005, [0, 2, 3, 5, 6, 7, 8, 9, 10, 11, 12, 13, 14, 15, 16, 17, 18, 19, 20, 21, 22, 23, 24, 25, 26], [], [])]),
 (75, [(3, [1, 2, 5, 6, 7, 8, 9, 10, 11, 12, 13, 14, 15, 16, 17, 18, 19, 20, 21, 22], [], []), (1003, [0, 1, 2, 4, 5, 6, 7, 8, 9, 10, 11, 12, 13, 14, 15, 16, 17, 18, 19, 20, 21, 22], [], [])]),
 (77, [(4, [2, 3, 4, 6, 7, 8, 9, 10, 11, 12, 13, 14, 15, 16, 17, 18, 19, 20, 21, 22, 23, 24, 25, 26], [], []), (1004, [0, 1, 2, 3, 5, 6, 7, 8, 9, 10, 11, 12, 13, 14, 15, 16, 17, 18, 19, 20, 21, 22, 23, 24, 25, 26], [], [])]),
 (79, [(4, [2, 3, 4, 6, 7, 8, 9, 10, 11, 12, 13, 14, 15, 16, 17, 18, 19, 20, 21, 22, 23, 24, 25, 26], [], []), (1004, [0, 1, 2, 3, 5, 6, 7, 8, 9, 10, 11, 12, 13, 14, 15, 16, 17, 18, 19, 20, 21, 22, 23, 24, 25, 26], [], [])]),
 (93, [(1, [], [], [0, 3, 7, 11, 14])]),
 (94, [(3, [1, 2, 5, 6, 7, 8, 9, 10, 11, 12, 13, 14, 15, 16, 17, 18, 19, 20, 21, 22, 23, 24, 25, 26, 27, 28], [5], []), (1003, [0, 1, 2, 4, 5, 6, 7, 8, 9, 10, 11, 12, 13, 14, 15, 16, 17, 18, 19, 20, 21, 22, 23, 24, 25, 26, 27, 28], [5], [])]),
 (95, [(3, [0, 5, 6, 7, 8, 9, 10, 11, 12, 13, 14, 15, 16, 17, 18, 19, 20, 21, 22, 23, 24, 25, 26, 27, 28, 29, 30, 31, 32, 33, 34, 35, 36, 37], [5, 1002006000009], []), (1003, [0, 1, 4, 5, 6, 7, 8, 9, 10, 11, 12, 13, 14, 15, 16, 17, 18, 19, 20, 21, 22, 23, 24, 25, 26, 27, 28, 29, 30, 31, 32, 33, 34, 35, 36, 37], [1, 5], [])]),
 (99, [(3, [0, 1, 2, 4, 5, 6, 10, 11, 12, 13, 14, 15, 16, 17, 18, 19], [5], []), (1003, [0, 1, 2, 4, 5, 6, 7, 8, 9, 10, 11, 12, 13, 14, 15, 16, 17, 18, 19], [5], [])]),
 (100, [(3, [0, 1, 4, 5, 6, 7, 8, 9, 10, 11, 15, 16, 17, 18, 19, 20, 21, 22, 23, 24, 25, 26, 27, 28, 29, 30], [1, 5, 1002006000009], []), (1003, [0, 1, 4, 5, 6, 7, 8, 9, 10, 11, 12, 13, 14, 15, 16, 17, 18, 19, 20, 21, 22, 23, 24, 25, 26, 27, 28, 29, 30], [1, 5], [])]),
 (106, [(4, [2, 3, 4, 6, 7, 8, 9, 10, 11, 12, 13, 14, 15, 16, 17, 18, 19, 20, 21, 22, 23, 24, 25, 26], [], []), (1004, [0, 1, 2, 3, 5, 6, 7, 8, 9, 10, 11, 12, 13, 14, 15, 16, 17, 18, 19, 20, 21, 22, 23, 24, 25, 26], [], [])]),
 (110, [(4, [2, 3, 4, 6, 7, 8, 9, 10, 11, 12, 13, 14, 15, 16, 17, 18, 19, 20, 21, 22, 23, 24, 25, 26], [], []), (1004, [0, 1, 2, 3, 5, 6, 7, 8, 9, 10, 11, 12, 13, 14, 15, 16, 17, 18, 19, 20, 21, 22, 23, 24, 25, 26], [], [])]),
 (112, [(4, [2, 3, 4, 6, 7, 8, 9, 10, 11, 12, 13, 14, 15, 16, 17, 18, 19, 20, 21, 22, 23, 24, 25, 26], [], []), (1004, [0, 1, 2, 3, 5, 6, 7, 8, 9, 10, 11, 12, 13, 14, 15, 16, 17, 18, 19, 20, 21, 22, 23, 24, 25, 26], [], [])]),
 (113, [(4, [2, 3, 4, 6, 7, 8, 9, 10, 11, 12, 13, 14, 15, 16, 17, 18, 19, 20, 21, 22, 23, 24, 25, 26], [], []), (1004, [0, 1, 2, 3, 5, 6, 7, 8, 9, 10, 11, 12, 13, 14, 15, 16, 17, 18, 19, 20, 21, 22, 23, 24, 25, 26], [], [])]),
 (114, [(4, [2, 3, 4, 6, 7, 8, 9, 10, 11, 12, 13, 14, 15, 16, 17, 18, 19, 20, 21, 22, 23, 24, 25, 26], [], []), (1004, [0, 1, 2, 3, 5, 6, 7, 8, 9, 10, 11, 12, 13, 14, 15, 16, 17, 18, 19, 20, 21, 22, 23, 24, 25, 26], [], [])]),
 (115, [(4, [2, 3, 4, 6, 7, 8, 9, 10, 11, 12, 13, 14, 15, 16, 17, 18, 19, 20, 21, 22, 23, 24, 25], [], []), (1004, [0, 1, 2, 3, 5, 6, 7, 8, 9, 10, 11, 12, 13, 14, 15, 16, 17, 18, 19, 20, 21, 22, 23, 24, 25], [], [])]),
 (127, [(5, [2, 3, 4, 6, 7, 8, 9, 10, 11, 12, 13, 14, 15, 16, 17, 18, 19, 20, 21, 22, 23, 24, 25, 26], [], []), (1005, [0, 2, 3, 5, 6, 7, 8, 9, 10, 11, 12, 13, 14, 15, 16, 17, 18, 19, 20, 21, 22, 23, 24, 25, 26], [], [])]),
 (129, [(5, [2, 3, 4, 6, 7, 8, 9, 10, 11, 12, 13, 14, 15, 16, 17, 18, 19, 20, 21, 22, 23, 24, 25, 26], [], []), (1005, [0, 2, 3, 5, 6, 7, 8, 9, 10, 11, 12, 13, 14, 15, 16, 17, 18, 19, 20, 21, 22, 23, 24, 25, 26], [], [])]),
 (130, [(5, [2, 3, 4, 6, 7, 8, 9, 10, 11, 12, 13, 14, 15, 16, 17, 18, 19, 20, 21, 22, 23, 24, 25, 26], [], []), (1005, [0, 2, 3, 5, 6, 7, 8, 9, 10, 11, 12, 13, 14, 15, 16, 17, 18, 19, 20, 21, 22, 23, 24, 25, 26], [], [])]),
 (131, [(5, [2, 3, 4, 6, 7, 8, 9, 10, 11, 12, 13, 14, 15, 16, 17, 18, 19, 20, 21, 22, 23, 24, 25, 26], [], []), (1005, [0, 2, 3, 5, 6, 7, 8, 9, 10, 11, 12, 13, 14, 15, 16, 17, 18, 19, 20, 21, 22, 23, 24, 25, 26], [], [])]),
 (132, [(5, [2, 3, 4, 6, 7, 8, 9, 10, 11, 12, 13, 14, 15, 16, 17, 18, 19, 20, 21, 22, 23, 24, 25, 26, 27], [], []), (1005, [0, 2, 3, 5, 6, 7, 8, 9, 10, 11, 12, 13, 14, 15, 16, 17, 18, 19, 20, 21, 22, 23, 24, 25, 26, 27], [], [])]),
 (136, [(3, [1, 2, 5, 6, 7, 8, 9, 10, 11, 12, 13, 14, 15, 16, 17, 18, 19, 20, 21, 22], [], []), (1003, [0, 1, 2, 4, 5, 6, 7, 8, 9, 10, 11, 12, 13, 14, 15, 16, 17, 18, 19, 20, 21, 22], [], [])]),
 (138, [(3, [1, 2, 5, 6, 7, 8, 9, 10, 11, 12, 13, 14, 15, 16, 17, 18, 19, 20, 21, 22], [], []), (1003, [0, 1, 2, 4, 5, 6, 7, 8, 9, 10, 11, 12, 13, 14, 15, 16, 17, 18, 19, 20, 21, 22], [], [])]),
 (139, [(3, [1, 2, 5, 6, 7, 8, 9, 10, 11, 12, 13, 14, 15, 16, 17, 18, 19, 20, 21, 22], [], []), (1003, [0, 1, 2, 4, 5, 6, 7, 8, 9, 10, 11, 12, 13, 14, 15, 16, 17, 18, 19, 20, 21, 22], [], [])]),
 (140, [(3, [1, 2, 5, 6, 7, 8, 9, 10, 11, 12, 13, 14, 15, 16, 17, 18, 19, 20, 21, 22], [], []), (1003, [0, 1, 2, 4, 5, 6, 7, 8, 9, 10, 11, 12, 13, 14, 15, 16, 17, 18, 19, 20, 21, 22], [], [])]),
 (141, [(3, [1, 2, 5, 6, 7, 8, 9, 10, 11, 12, 13, 14, 15, 16, 17, 18, 19, 20, 21], [], []), (1003, [0, 1, 2, 4, 5, 6, 7, 8, 9, 10, 11, 12, 13, 14, 15, 16, 17, 18, 19, 20, 21], [], [])]),
 (147, [(4, [2, 3, 4, 6, 7, 8, 9, 10, 11, 12, 13, 14, 15, 16, 17, 18, 19, 20, 21, 22, 23, 24, 25, 26], [], []), (1004, [0, 1, 2, 3, 5, 6, 7, 8, 9, 10, 11, 12, 13, 14, 15, 16, 17, 18, 19, 20, 21, 22, 23, 24, 25, 26], [], [])]),
 (148, [(4, [2, 3, 4, 6, 7, 8, 9, 10, 11, 12, 13, 14, 15, 16, 17, 18, 19, 20, 21, 22, 23, 24, 25], [], []), (1004, [0, 1, 2, 3, 5, 6, 7, 8, 9, 10, 11, 12, 13, 14, 15, 16, 17, 18, 19, 20, 21, 22, 23, 24, 25], [], [])]),
 (154, [(5, [2, 3, 4, 6, 7, 8, 9, 10, 11, 12, 13, 14, 15, 16, 17, 18, 19, 20, 21, 22, 23, 24, 25, 26], [], []), (1005, [0, 2, 3, 5, 6, 7, 8, 9, 10, 11, 12, 13, 14, 15, 16, 17, 18, 19, 20, 21, 22, 23, 24, 25, 26], [], [])]),
 (159, [(3, [1, 2, 5, 6, 7, 8, 9, 10, 11, 12, 13, 14, 15, 16, 17, 18, 19, 20, 21, 22], [], []), (1003, [0, 1, 2, 4, 5, 6, 7, 8, 9, 10, 11, 12, 13, 14, 15, 16, 17, 18, 19, 20, 21, 22], [], [])]),
 (160, [(3, [1, 2, 5, 6, 7, 8, 9, 10, 11, 12, 13, 14, 15, 16, 17, 18, 19, 20, 21], [], []), (1003, [0, 1, 2, 4, 5, 6, 7, 8, 9, 10, 11, 12, 13, 14, 15, 16, 17, 18, 19, 20, 21], [], [])]),
 (163, [(4, [2, 3, 4, 6, 7, 8, 9, 10, 11, 12, 13, 14, 15, 16, 17, 18, 19, 20, 21, 22, 23, 24, 25, 26], [], []), (1004, [0, 1, 2, 3, 5, 6, 7, 8, 9, 10, 11, 12, 13, 14, 15, 16, 17, 18, 19, 20, 21, 22, 23, 24, 25, 26], [], [])]),
 (167, [(5, [2, 3, 4, 6, 7, 8, 9, 10, 11, 12, 13, 14, 15, 16, 17, 18, 19, 20, 21, 22, 23, 24, 25, 26], [], []), (1005, [0, 2, 3, 5, 6, 7, 8, 9, 10, 11, 12, 13, 14, 15, 16, 17, 18, 19, 20, 21, 22, 23, 24, 25, 26], [], [])]),
 (169, [(3, [1, 2, 5, 6, 7, 8, 9, 10, 11, 12, 13, 14, 15, 16, 17, 18, 19, 20, 21, 22], [], []), (1003, [0, 1, 2, 4, 5, 6, 7, 8, 9, 10, 11, 12, 13, 14, 15, 16, 17, 18, 19, 20, 21, 22], [], [])])]
def cfg : Cfg := ⟨fun t => tys.getD t none, fun f i => lookN i ([], [], []) (lookN f [] fgL), fun f => lookN f [] pzL, fun f => lookN f [] rzL⟩
theorem agree : Agree Go.Proofs.Try.prog cfg := agree_of tys (fun _ => rfl) (by kernel_rfl)
def ext0 : Nat → List V → Option V := extL []
noncomputable abbrev D : Nat → List V → Option V := den Go.Proofs.Try.prog cfg ext0
end Go.Am
end

/-
  Functions of Go's library that are met by their contracts: what the machine answers for them, and that this is what they do.
-/
import Derived.Test.YthncjpkjmgmdlaaGreatqvAmTyped
import Derived.Below
import Derived.Lib.Join
section
set_option linter.unusedSimpArgs false
namespace Go.Am
open Go
structure TAddr where
  xHost : List UInt8
  xPath : List UInt8
  deriving DecidableEq
abbrev kAddr : List CK := [.str, .str]
def TAddr.row (a : TAddr) : cellsT kAddr := (a.xHost, a.xPath, ())
theorem TAddr.cmp (x y : TAddr) : ((x.xHost == y.xHost) && ((x.xPath == y.xPath) && true)) = decide (x = y) := by
 obtain ⟨p1, p2⟩ := x
 obtain ⟨q1, q2⟩ := y
 rw [Bool.eq_iff_iff]
 simp only [TAddr.mk.injEq, Bool.and_true, Bool.and_eq_true, beq_iff_eq, decide_eq_true_eq, and_assoc]
structure TPolicy where
  xSet : Bool
  xScripts : List (List UInt8)
  xStyles : List (List UInt8)
  xImages : List (List UInt8)
  xNonce : List UInt8
  deriving DecidableEq
abbrev kPolicy : List CK := [.bool, .sl 1 true, .sl 1 true, .sl 1 true, .str]
def TPolicy.row (a : TPolicy) : cellsT kPolicy := (a.xSet, (rStr a.xScripts), (rStr a.xStyles), (rStr a.xImages), a.xNonce, ())
structure TTokenizer where
  xRest : List UInt8
  deriving DecidableEq
abbrev kTokenizer : List CK := [.str]
def TTokenizer.row (a : TTokenizer) : cellsT kTokenizer := (a.xRest, ())
theorem TTokenizer.cmp (x y : TTokenizer) : ((x.xRest == y.xRest) && true) = decide (x = y) := by
 obtain ⟨p1⟩ := x
 obtain ⟨q1⟩ := y
 rw [Bool.eq_iff_iff]
 simp only [TTokenizer.mk.injEq, Bool.and_true, Bool.and_eq_true, beq_iff_eq, decide_eq_true_eq, and_assoc]
structure TAttr where
  xName : List UInt8
  xValue : List UInt8
  deriving DecidableEq
abbrev kAttr : List CK := [.str, .str]
def TAttr.row (a : TAttr) : cellsT kAttr := (a.xName, a.xValue, ())
theorem TAttr.cmp (x y : TAttr) : ((x.xName == y.xName) && ((x.xValue == y.xValue) && true)) = decide (x = y) := by
 obtain ⟨p1, p2⟩ := x
 obtain ⟨q1, q2⟩ := y
 rw [Bool.eq_iff_iff]
 simp only [TAttr.mk.injEq, Bool.and_true, Bool.and_eq_true, beq_iff_eq, decide_eq_true_eq, and_assoc]
structure TToken where
  xKind : Int
  xName : List UInt8
  xAttrs : List TAttr
  xText : List UInt8
  deriving DecidableEq
abbrev kToken : List CK := [.int .i64, .str, .sl 2 true, .str]
def TToken.row (a : TToken) : cellsT kToken := (a.xKind, a.xName, (rows kAttr TAttr.row a.xAttrs), a.xText, ())
structure TNode where
  xName : List UInt8
  xText : List UInt8
  xParent : Int
  xAttrs : List TAttr
  deriving DecidableEq
abbrev kNode : List CK := [.str, .str, .int .i64, .sl 2 true]
def TNode.row (a : TNode) : cellsT kNode := (a.xName, a.xText, a.xParent, (rows kAttr TAttr.row a.xAttrs), ())
structure TBuilder where
  xNodes : List TNode
  xOpen : List Int
  deriving DecidableEq
abbrev kBuilder : List CK := [.sl 4 false, .sl 1 true]
def TBuilder.row (a : TBuilder) : cellsT kBuilder := ((rows kNode TNode.row a.xNodes), (rInt a.xOpen), ())
structure TSlot where
  xMode : Int
  xTo : TAddr
  xDigest : List UInt8
  xNode : Int
  xDone : Bool
  xCode : Int
  xBody : List UInt8
  deriving DecidableEq
abbrev kSlot : List CK := [.int .i64, .str, .str, .str, .int .i64, .bool, .int .i64, .str]
def TSlot.row (a : TSlot) : cellsT kSlot := (a.xMode, a.xTo.xHost, a.xTo.xPath, a.xDigest, a.xNode, a.xDone, a.xCode, a.xBody, ())
theorem TSlot.cmp (x y : TSlot) : ((x.xMode == y.xMode) && ((x.xTo.xHost == y.xTo.xHost) && ((x.xTo.xPath == y.xTo.xPath) && ((x.xDigest == y.xDigest) && ((x.xNode == y.xNode) && ((x.xDone == y.xDone) && ((x.xCode == y.xCode) && ((x.xBody == y.xBody) && true)))))))) = decide (x = y) := by
 obtain ⟨p1, ⟨p2, p3⟩, p4, p5, p6, p7, p8⟩ := x
 obtain ⟨q1, ⟨q2, q3⟩, q4, q5, q6, q7, q8⟩ := y
 rw [Bool.eq_iff_iff]
 simp only [TAddr.mk.injEq, TSlot.mk.injEq, Bool.and_true, Bool.and_eq_true, beq_iff_eq, decide_eq_true_eq, and_assoc]
structure TModule where
  xTo : TAddr
  xDone : Bool
  xCode : Int
  xBody : List UInt8
  deriving DecidableEq
abbrev kModule : List CK := [.str, .str, .bool, .int .i64, .str]
def TModule.row (a : TModule) : cellsT kModule := (a.xTo.xHost, a.xTo.xPath, a.xDone, a.xCode, a.xBody, ())
theorem TModule.cmp (x y : TModule) : ((x.xTo.xHost == y.xTo.xHost) && ((x.xTo.xPath == y.xTo.xPath) && ((x.xDone == y.xDone) && ((x.xCode == y.xCode) && ((x.xBody == y.xBody) && true))))) = decide (x = y) := by
 obtain ⟨⟨p1, p2⟩, p3, p4, p5⟩ := x
 obtain ⟨⟨q1, q2⟩, q3, q4, q5⟩ := y
 rw [Bool.eq_iff_iff]
 simp only [TAddr.mk.injEq, TModule.mk.injEq, Bool.and_true, Bool.and_eq_true, beq_iff_eq, decide_eq_true_eq, and_assoc]
structure TPage where
  xAddr : TAddr
  xPolicy : TPolicy
  xTok : TTokenizer
  xQueue : List TToken
  xEnded : Bool
  xBuilder : TBuilder
  xSlots : List TSlot
  xMods : List TModule
  xEntries : List TAddr
  xBlock : Int
  xInline : Int
  xDeferred : Int
  xEntered : Int
  xRan : List TAddr
  xLog : List (List UInt8)
  xLoaded : Bool
  deriving DecidableEq
abbrev kPage : List CK := [.str, .str, .bool, .sl 1 true, .sl 1 true, .sl 1 true, .str, .str, .sl 4 false, .bool, .sl 4 false, .sl 1 true, .sl 8 true, .sl 5 true, .sl 2 true, .int .i64, .int .i64, .int .i64, .int .i64, .sl 2 true, .sl 1 true, .bool]
def TPage.row (a : TPage) : cellsT kPage := (a.xAddr.xHost, a.xAddr.xPath, a.xPolicy.xSet, (rStr a.xPolicy.xScripts), (rStr a.xPolicy.xStyles), (rStr a.xPolicy.xImages), a.xPolicy.xNonce, a.xTok.xRest, (rows kToken TToken.row a.xQueue), a.xEnded, (rows kNode TNode.row a.xBuilder.xNodes), (rInt a.xBuilder.xOpen), (rows kSlot TSlot.row a.xSlots), (rows kModule TModule.row a.xMods), (rows kAddr TAddr.row a.xEntries), a.xBlock, a.xInline, a.xDeferred, a.xEntered, (rows kAddr TAddr.row a.xRan), (rStr a.xLog), a.xLoaded, ())
structure TVisit where
  xAddr : TAddr
  xPage : TPage
  xKept : Bool
  deriving DecidableEq
abbrev kVisit : List CK := [.str, .str, .str, .str, .bool, .sl 1 true, .sl 1 true, .sl 1 true, .str, .str, .sl 4 false, .bool, .sl 4 false, .sl 1 true, .sl 8 true, .sl 5 true, .sl 2 true, .int .i64, .int .i64, .int .i64, .int .i64, .sl 2 true, .sl 1 true, .bool, .bool]
def TVisit.row (a : TVisit) : cellsT kVisit := (a.xAddr.xHost, a.xAddr.xPath, a.xPage.xAddr.xHost, a.xPage.xAddr.xPath, a.xPage.xPolicy.xSet, (rStr a.xPage.xPolicy.xScripts), (rStr a.xPage.xPolicy.xStyles), (rStr a.xPage.xPolicy.xImages), a.xPage.xPolicy.xNonce, a.xPage.xTok.xRest, (rows kToken TToken.row a.xPage.xQueue), a.xPage.xEnded, (rows kNode TNode.row a.xPage.xBuilder.xNodes), (rInt a.xPage.xBuilder.xOpen), (rows kSlot TSlot.row a.xPage.xSlots), (rows kModule TModule.row a.xPage.xMods), (rows kAddr TAddr.row a.xPage.xEntries), a.xPage.xBlock, a.xPage.xInline, a.xPage.xDeferred, a.xPage.xEntered, (rows kAddr TAddr.row a.xPage.xRan), (rStr a.xPage.xLog), a.xPage.xLoaded, a.xKept, ())
structure TTab where
  xVisits : List TVisit
  xAt : Int
  deriving DecidableEq
abbrev kTab : List CK := [.sl 25 false, .int .i64]
def TTab.row (a : TTab) : cellsT kTab := ((rows kVisit TVisit.row a.xVisits), a.xAt, ())
structure TResponse where
  xStatus : Int
  xKind : Int
  xBody : List UInt8
  xAge : Int
  xShares : Bool
  xPolicy : List UInt8
  deriving DecidableEq
abbrev kResponse : List CK := [.int .i64, .int .i64, .str, .int .i64, .bool, .str]
def TResponse.row (a : TResponse) : cellsT kResponse := (a.xStatus, a.xKind, a.xBody, a.xAge, a.xShares, a.xPolicy, ())
theorem TResponse.cmp (x y : TResponse) : ((x.xStatus == y.xStatus) && ((x.xKind == y.xKind) && ((x.xBody == y.xBody) && ((x.xAge == y.xAge) && ((x.xShares == y.xShares) && ((x.xPolicy == y.xPolicy) && true)))))) = decide (x = y) := by
 obtain ⟨p1, p2, p3, p4, p5, p6⟩ := x
 obtain ⟨q1, q2, q3, q4, q5, q6⟩ := y
 rw [Bool.eq_iff_iff]
 simp only [TResponse.mk.injEq, Bool.and_true, Bool.and_eq_true, beq_iff_eq, decide_eq_true_eq, and_assoc]
structure TKept where
  xTo : TAddr
  xResponse : TResponse
  deriving DecidableEq
abbrev kKept : List CK := [.str, .str, .int .i64, .int .i64, .str, .int .i64, .bool, .str]
def TKept.row (a : TKept) : cellsT kKept := (a.xTo.xHost, a.xTo.xPath, a.xResponse.xStatus, a.xResponse.xKind, a.xResponse.xBody, a.xResponse.xAge, a.xResponse.xShares, a.xResponse.xPolicy, ())
theorem TKept.cmp (x y : TKept) : ((x.xTo.xHost == y.xTo.xHost) && ((x.xTo.xPath == y.xTo.xPath) && ((x.xResponse.xStatus == y.xResponse.xStatus) && ((x.xResponse.xKind == y.xResponse.xKind) && ((x.xResponse.xBody == y.xResponse.xBody) && ((x.xResponse.xAge == y.xResponse.xAge) && ((x.xResponse.xShares == y.xResponse.xShares) && ((x.xResponse.xPolicy == y.xResponse.xPolicy) && true)))))))) = decide (x = y) := by
 obtain ⟨⟨p1, p2⟩, ⟨p3, p4, p5, p6, p7, p8⟩⟩ := x
 obtain ⟨⟨q1, q2⟩, ⟨q3, q4, q5, q6, q7, q8⟩⟩ := y
 rw [Bool.eq_iff_iff]
 simp only [TAddr.mk.injEq, TKept.mk.injEq, TResponse.mk.injEq, Bool.and_true, Bool.and_eq_true, beq_iff_eq, decide_eq_true_eq, and_assoc]
structure TFile where
  xPath : List UInt8
  xResponse : TResponse
  deriving DecidableEq
abbrev kFile : List CK := [.str, .int .i64, .int .i64, .str, .int .i64, .bool, .str]
def TFile.row (a : TFile) : cellsT kFile := (a.xPath, a.xResponse.xStatus, a.xResponse.xKind, a.xResponse.xBody, a.xResponse.xAge, a.xResponse.xShares, a.xResponse.xPolicy, ())
theorem TFile.cmp (x y : TFile) : ((x.xPath == y.xPath) && ((x.xResponse.xStatus == y.xResponse.xStatus) && ((x.xResponse.xKind == y.xResponse.xKind) && ((x.xResponse.xBody == y.xResponse.xBody) && ((x.xResponse.xAge == y.xResponse.xAge) && ((x.xResponse.xShares == y.xResponse.xShares) && ((x.xResponse.xPolicy == y.xResponse.xPolicy) && true))))))) = decide (x = y) := by
 obtain ⟨p1, ⟨p2, p3, p4, p5, p6, p7⟩⟩ := x
 obtain ⟨q1, ⟨q2, q3, q4, q5, q6, q7⟩⟩ := y
 rw [Bool.eq_iff_iff]
 simp only [TFile.mk.injEq, TResponse.mk.injEq, Bool.and_true, Bool.and_eq_true, beq_iff_eq, decide_eq_true_eq, and_assoc]
structure TServer where
  xHost : List UInt8
  xFiles : List TFile
  deriving DecidableEq
abbrev kServer : List CK := [.str, .sl 7 true]
def TServer.row (a : TServer) : cellsT kServer := (a.xHost, (rows kFile TFile.row a.xFiles), ())
structure THidden where
  xReady : Bool
  xPage : TPage
  xTaken : List TKept
  xServers : List TServer
  xNow : Int
  deriving DecidableEq
abbrev kHidden : List CK := [.bool, .str, .str, .bool, .sl 1 true, .sl 1 true, .sl 1 true, .str, .str, .sl 4 false, .bool, .sl 4 false, .sl 1 true, .sl 8 true, .sl 5 true, .sl 2 true, .int .i64, .int .i64, .int .i64, .int .i64, .sl 2 true, .sl 1 true, .bool, .sl 8 true, .sl 2 false, .int .i64]
def THidden.row (a : THidden) : cellsT kHidden := (a.xReady, a.xPage.xAddr.xHost, a.xPage.xAddr.xPath, a.xPage.xPolicy.xSet, (rStr a.xPage.xPolicy.xScripts), (rStr a.xPage.xPolicy.xStyles), (rStr a.xPage.xPolicy.xImages), a.xPage.xPolicy.xNonce, a.xPage.xTok.xRest, (rows kToken TToken.row a.xPage.xQueue), a.xPage.xEnded, (rows kNode TNode.row a.xPage.xBuilder.xNodes), (rInt a.xPage.xBuilder.xOpen), (rows kSlot TSlot.row a.xPage.xSlots), (rows kModule TModule.row a.xPage.xMods), (rows kAddr TAddr.row a.xPage.xEntries), a.xPage.xBlock, a.xPage.xInline, a.xPage.xDeferred, a.xPage.xEntered, (rows kAddr TAddr.row a.xPage.xRan), (rStr a.xPage.xLog), a.xPage.xLoaded, (rows kKept TKept.row a.xTaken), (rows kServer TServer.row a.xServers), a.xNow, ())
structure TEntry where
  xTop : List UInt8
  xTo : TAddr
  xResponse : TResponse
  xUntil : Int
  deriving DecidableEq
abbrev kEntry : List CK := [.str, .str, .str, .int .i64, .int .i64, .str, .int .i64, .bool, .str, .int .i64]
def TEntry.row (a : TEntry) : cellsT kEntry := (a.xTop, a.xTo.xHost, a.xTo.xPath, a.xResponse.xStatus, a.xResponse.xKind, a.xResponse.xBody, a.xResponse.xAge, a.xResponse.xShares, a.xResponse.xPolicy, a.xUntil, ())
theorem TEntry.cmp (x y : TEntry) : ((x.xTop == y.xTop) && ((x.xTo.xHost == y.xTo.xHost) && ((x.xTo.xPath == y.xTo.xPath) && ((x.xResponse.xStatus == y.xResponse.xStatus) && ((x.xResponse.xKind == y.xResponse.xKind) && ((x.xResponse.xBody == y.xResponse.xBody) && ((x.xResponse.xAge == y.xResponse.xAge) && ((x.xResponse.xShares == y.xResponse.xShares) && ((x.xResponse.xPolicy == y.xResponse.xPolicy) && ((x.xUntil == y.xUntil) && true)))))))))) = decide (x = y) := by
 obtain ⟨p1, ⟨p2, p3⟩, ⟨p4, p5, p6, p7, p8, p9⟩, p10⟩ := x
 obtain ⟨q1, ⟨q2, q3⟩, ⟨q4, q5, q6, q7, q8, q9⟩, q10⟩ := y
 rw [Bool.eq_iff_iff]
 simp only [TAddr.mk.injEq, TEntry.mk.injEq, TResponse.mk.injEq, Bool.and_true, Bool.and_eq_true, beq_iff_eq, decide_eq_true_eq, and_assoc]
structure TCache where
  xEntries : List TEntry
  deriving DecidableEq
abbrev kCache : List CK := [.sl 10 true]
def TCache.row (a : TCache) : cellsT kCache := ((rows kEntry TEntry.row a.xEntries), ())
structure TSent where
  xTop : List UInt8
  xTo : TAddr
  xGuess : Bool
  deriving DecidableEq
abbrev kSent : List CK := [.str, .str, .str, .bool]
def TSent.row (a : TSent) : cellsT kSent := (a.xTop, a.xTo.xHost, a.xTo.xPath, a.xGuess, ())
theorem TSent.cmp (x y : TSent) : ((x.xTop == y.xTop) && ((x.xTo.xHost == y.xTo.xHost) && ((x.xTo.xPath == y.xTo.xPath) && ((x.xGuess == y.xGuess) && true)))) = decide (x = y) := by
 obtain ⟨p1, ⟨p2, p3⟩, p4⟩ := x
 obtain ⟨q1, ⟨q2, q3⟩, q4⟩ := y
 rw [Bool.eq_iff_iff]
 simp only [TAddr.mk.injEq, TSent.mk.injEq, Bool.and_true, Bool.and_eq_true, beq_iff_eq, decide_eq_true_eq, and_assoc]
structure TNet where
  xServers : List TServer
  xCache : TCache
  xLog : List TSent
  xNow : Int
  deriving DecidableEq
abbrev kNet : List CK := [.sl 2 false, .sl 10 true, .sl 4 true, .int .i64]
def TNet.row (a : TNet) : cellsT kNet := ((rows kServer TServer.row a.xServers), (rows kEntry TEntry.row a.xCache.xEntries), (rows kSent TSent.row a.xLog), a.xNow, ())
structure TWorld where
  xNet : TNet
  xTab : TTab
  xHidden : THidden
  xFast : Bool
  deriving DecidableEq
abbrev kWorld : List CK := [.sl 2 false, .sl 10 true, .sl 4 true, .int .i64, .sl 25 false, .int .i64, .bool, .str, .str, .bool, .sl 1 true, .sl 1 true, .sl 1 true, .str, .str, .sl 4 false, .bool, .sl 4 false, .sl 1 true, .sl 8 true, .sl 5 true, .sl 2 true, .int .i64, .int .i64, .int .i64, .int .i64, .sl 2 true, .sl 1 true, .bool, .sl 8 true, .sl 2 false, .int .i64, .bool]
def TWorld.row (a : TWorld) : cellsT kWorld := ((rows kServer TServer.row a.xNet.xServers), (rows kEntry TEntry.row a.xNet.xCache.xEntries), (rows kSent TSent.row a.xNet.xLog), a.xNet.xNow, (rows kVisit TVisit.row a.xTab.xVisits), a.xTab.xAt, a.xHidden.xReady, a.xHidden.xPage.xAddr.xHost, a.xHidden.xPage.xAddr.xPath, a.xHidden.xPage.xPolicy.xSet, (rStr a.xHidden.xPage.xPolicy.xScripts), (rStr a.xHidden.xPage.xPolicy.xStyles), (rStr a.xHidden.xPage.xPolicy.xImages), a.xHidden.xPage.xPolicy.xNonce, a.xHidden.xPage.xTok.xRest, (rows kToken TToken.row a.xHidden.xPage.xQueue), a.xHidden.xPage.xEnded, (rows kNode TNode.row a.xHidden.xPage.xBuilder.xNodes), (rInt a.xHidden.xPage.xBuilder.xOpen), (rows kSlot TSlot.row a.xHidden.xPage.xSlots), (rows kModule TModule.row a.xHidden.xPage.xMods), (rows kAddr TAddr.row a.xHidden.xPage.xEntries), a.xHidden.xPage.xBlock, a.xHidden.xPage.xInline, a.xHidden.xPage.xDeferred, a.xHidden.xPage.xEntered, (rows kAddr TAddr.row a.xHidden.xPage.xRan), (rStr a.xHidden.xPage.xLog), a.xHidden.xPage.xLoaded, (rows kKept TKept.row a.xHidden.xTaken), (rows kServer TServer.row a.xHidden.xServers), a.xHidden.xNow, a.xFast, ())
structure TRequest where
  xKind : Int
  xTo : TAddr
  xFrom : List UInt8
  xDigest : List UInt8
  deriving DecidableEq
abbrev kRequest : List CK := [.int .i64, .str, .str, .str, .str]
def TRequest.row (a : TRequest) : cellsT kRequest := (a.xKind, a.xTo.xHost, a.xTo.xPath, a.xFrom, a.xDigest, ())
theorem TRequest.cmp (x y : TRequest) : ((x.xKind == y.xKind) && ((x.xTo.xHost == y.xTo.xHost) && ((x.xTo.xPath == y.xTo.xPath) && ((x.xFrom == y.xFrom) && ((x.xDigest == y.xDigest) && true))))) = decide (x = y) := by
 obtain ⟨p1, ⟨p2, p3⟩, p4, p5⟩ := x
 obtain ⟨q1, ⟨q2, q3⟩, q4, q5⟩ := y
 rw [Bool.eq_iff_iff]
 simp only [TAddr.mk.injEq, TRequest.mk.injEq, Bool.and_true, Bool.and_eq_true, beq_iff_eq, decide_eq_true_eq, and_assoc]
end Go.Am
end
section
set_option linter.unusedVariables false
set_option linter.unusedSimpArgs false
namespace Go.Am
open Go Go.RowKit
section
variable {P : Program} {c : Cfg}
def Kept (w w' : World) : Prop := w'.os = w.os ∧ w'.tape = w.tape ∧ w'.output = w.output ∧ w.heap.size ≤ w'.heap.size ∧ ∀ k, k < w.heap.size → w'.heap[k]? = w.heap[k]?
theorem Kept.refl (w : World) : Kept w w := ⟨rfl, rfl, rfl, Nat.le_refl _, fun _ _ => rfl⟩
theorem answer_plain {R : Nat → Prop} {w w' : World} {r : V} {x : Value} (hk : Kept w w') (hr : Rd w' (fun _ => False) r x) : Answer R w r x w' :=
 ⟨hk.1, hk.2.1, hk.2.2.1, hk.2.2.2.1, hk.2.2.2.2, { w0 := w', F := fun k => w.heap.size ≤ k, S := fun _ => False, has := fun _ => False, blk := fun _ => 0, off := fun _ => 0, cap := fun _ => 0, sz := fun _ => 0, ln := fun _ => 0, lb := fun _ => False, box := fun _ => 0, R := fun _ => False, Z := fun _ => False, N := fun _ _ => False, U := True },
  .rd _ _ hr, fun _ h => h, fun _ h => h.elim, fun _ h => h.elim, fun _ _ h => h.elim, fun _ h => h.elim, fun _ h => h.elim, trivial, fun _ h => h.elim, fun _ _ h => h.elim⟩
def extL : List (Nat × (List V → Option V)) → Nat → List V → Option V
 | [], _, _ => none
 | (g, e) :: r, f, args => if f = g then e args else extL r f args
theorem ext_nil : Answers P (extL []) := fun f args r h => by cases h
theorem rd_str {w : World} {S : Nat → Prop} {s : List UInt8} {x : Value} (h : Rd w S (.str s) x) : ∃ y : ByteArray, x = .string y ∧ y.data.toList = s := by
 cases h with
 | str _ y hy => exact ⟨y, rfl, hy⟩
end
end Go.Am
end

/-
  Functions that sort a fresh copy: what the machine answers for them (an own new slice), and that this is what they do.
-/
import Derived.Test.YthncjpkjmgmdlaaGreatqhAmTyped
import Derived.Below
import Derived.Lib.Join
import Derived.Lib.ItoaNum
import Derived.Lib.Bytealg
import Derived.Lib.Strings
import Derived.Sort.Grow
import Derived.Deep.Draws
import Derived.Shelf.SlLaysE
import Derived.Shelf.SlicesE.Compact
import Derived.Shelf.SlicesQ.Load
import Derived.Shelf.GgSortFunc.RowK
import Derived.Sort.WalkB12
import Derived.Lib.SlicesMore
import Derived.Lib.SlicesCompact
import Derived.Shelf.GgSortFunc.InsertionK
section
set_option linter.unusedSimpArgs false
namespace Go.Am
open Go
structure TAddr where
  xHost : List UInt8
  xPath : List UInt8
  deriving DecidableEq
abbrev kAddr : List CK := [.str, .str]
def TAddr.row (a : TAddr) : cellsT kAddr := (a.xHost, a.xPath, ())
theorem TAddr.cmp (x y : TAddr) : ((x.xHost == y.xHost) && ((x.xPath == y.xPath) && true)) = decide (x = y) := by
 obtain ⟨p1, p2⟩ := x
 obtain ⟨q1, q2⟩ := y
 rw [Bool.eq_iff_iff]
 simp only [TAddr.mk.injEq, Bool.and_true, Bool.and_eq_true, beq_iff_eq, decide_eq_true_eq, and_assoc]
structure TPolicy where
  xSet : Bool
  xScripts : List (List UInt8)
  xStyles : List (List UInt8)
  xImages : List (List UInt8)
  xNonce : List UInt8
  deriving DecidableEq
abbrev kPolicy : List CK := [.bool, .sl 1 true, .sl 1 true, .sl 1 true, .str]
def TPolicy.row (a : TPolicy) : cellsT kPolicy := (a.xSet, (rStr a.xScripts), (rStr a.xStyles), (rStr a.xImages), a.xNonce, ())
structure TTokenizer where
  xRest : List UInt8
  deriving DecidableEq
abbrev kTokenizer : List CK := [.str]
def TTokenizer.row (a : TTokenizer) : cellsT kTokenizer := (a.xRest, ())
theorem TTokenizer.cmp (x y : TTokenizer) : ((x.xRest == y.xRest) && true) = decide (x = y) := by
 obtain ⟨p1⟩ := x
 obtain ⟨q1⟩ := y
 rw [Bool.eq_iff_iff]
 simp only [TTokenizer.mk.injEq, Bool.and_true, Bool.and_eq_true, beq_iff_eq, decide_eq_true_eq, and_assoc]
structure TAttr where
  xName : List UInt8
  xValue : List UInt8
  deriving DecidableEq
abbrev kAttr : List CK := [.str, .str]
def TAttr.row (a : TAttr) : cellsT kAttr := (a.xName, a.xValue, ())
theorem TAttr.cmp (x y : TAttr) : ((x.xName == y.xName) && ((x.xValue == y.xValue) && true)) = decide (x = y) := by
 obtain ⟨p1, p2⟩ := x
 obtain ⟨q1, q2⟩ := y
 rw [Bool.eq_iff_iff]
 simp only [TAttr.mk.injEq, Bool.and_true, Bool.and_eq_true, beq_iff_eq, decide_eq_true_eq, and_assoc]
structure TToken where
  xKind : Int
  xName : List UInt8
  xAttrs : List TAttr
  xText : List UInt8
  deriving DecidableEq
abbrev kToken : List CK := [.int .i64, .str, .sl 2 true, .str]
def TToken.row (a : TToken) : cellsT kToken := (a.xKind, a.xName, (rows kAttr TAttr.row a.xAttrs), a.xText, ())
structure TNode where
  xName : List UInt8
  xText : List UInt8
  xParent : Int
  xAttrs : List TAttr
  deriving DecidableEq
abbrev kNode : List CK := [.str, .str, .int .i64, .sl 2 true]
def TNode.row (a : TNode) : cellsT kNode := (a.xName, a.xText, a.xParent, (rows kAttr TAttr.row a.xAttrs), ())
structure TBuilder where
  xNodes : List TNode
  xOpen : List Int
  deriving DecidableEq
abbrev kBuilder : List CK := [.sl 4 false, .sl 1 true]
def TBuilder.row (a : TBuilder) : cellsT kBuilder := ((rows kNode TNode.row a.xNodes), (rInt a.xOpen), ())
structure TSlot where
  xMode : Int
  xTo : TAddr
  xDigest : List UInt8
  xNode : Int
  xDone : Bool
  xCode : Int
  xBody : List UInt8
  deriving DecidableEq
abbrev kSlot : List CK := [.int .i64, .str, .str, .str, .int .i64, .bool, .int .i64, .str]
def TSlot.row (a : TSlot) : cellsT kSlot := (a.xMode, a.xTo.xHost, a.xTo.xPath, a.xDigest, a.xNode, a.xDone, a.xCode, a.xBody, ())
theorem TSlot.cmp (x y : TSlot) : ((x.xMode == y.xMode) && ((x.xTo.xHost == y.xTo.xHost) && ((x.xTo.xPath == y.xTo.xPath) && ((x.xDigest == y.xDigest) && ((x.xNode == y.xNode) && ((x.xDone == y.xDone) && ((x.xCode == y.xCode) && ((x.xBody == y.xBody) && true)))))))) = decide (x = y) := by
 obtain ⟨p1, ⟨p2, p3⟩, p4, p5, p6, p7, p8⟩ := x
 obtain ⟨q1, ⟨q2, q3⟩, q4, q5, q6, q7, q8⟩ := y
 rw [Bool.eq_iff_iff]
 simp only [TAddr.mk.injEq, TSlot.mk.injEq, Bool.and_true, Bool.and_eq_true, beq_iff_eq, decide_eq_true_eq, and_assoc]
structure TModule where
  xTo : TAddr
  xDone : Bool
  xCode : Int
  xBody : List UInt8
  deriving DecidableEq
abbrev kModule : List CK := [.str, .str, .bool, .int .i64, .str]
def TModule.row (a : TModule) : cellsT kModule := (a.xTo.xHost, a.xTo.xPath, a.xDone, a.xCode, a.xBody, ())
theorem TModule.cmp (x y : TModule) : ((x.xTo.xHost == y.xTo.xHost) && ((x.xTo.xPath == y.xTo.xPath) && ((x.xDone == y.xDone) && ((x.xCode == y.xCode) && ((x.xBody == y.xBody) && true))))) = decide (x = y) := by
 obtain ⟨⟨p1, p2⟩, p3, p4, p5⟩ := x
 obtain ⟨⟨q1, q2⟩, q3, q4, q5⟩ := y
 rw [Bool.eq_iff_iff]
 simp only [TAddr.mk.injEq, TModule.mk.injEq, Bool.and_true, Bool.and_eq_true, beq_iff_eq, decide_eq_true_eq, and_assoc]
structure TPage where
  xAddr : TAddr
  xPolicy : TPolicy
  xTok : TTokenizer
  xQueue : List TToken
  xEnded : Bool
  xBuilder : TBuilder
  xSlots : List TSlot
  xMods : List TModule
  xEntries : List TAddr
  xBlock : Int
  xInline : Int
  xDeferred : Int
  xEntered : Int
  xRan : List TAddr
  xLog : List (List UInt8)
  xLoaded : Bool
  deriving DecidableEq
abbrev kPage : List CK := [.str, .str, .bool, .sl 1 true, .sl 1 true, .sl 1 true, .str, .str, .sl 4 false, .bool, .sl 4 false, .sl 1 true, .sl 8 true, .sl 5 true, .sl 2 true, .int .i64, .int .i64, .int .i64, .int .i64, .sl 2 true, .sl 1 true, .bool]
def TPage.row (a : TPage) : cellsT kPage := (a.xAddr.xHost, a.xAddr.xPath, a.xPolicy.xSet, (rStr a.xPolicy.xScripts), (rStr a.xPolicy.xStyles), (rStr a.xPolicy.xImages), a.xPolicy.xNonce, a.xTok.xRest, (rows kToken TToken.row a.xQueue), a.xEnded, (rows kNode TNode.row a.xBuilder.xNodes), (rInt a.xBuilder.xOpen), (rows kSlot TSlot.row a.xSlots), (rows kModule TModule.row a.xMods), (rows kAddr TAddr.row a.xEntries), a.xBlock, a.xInline, a.xDeferred, a.xEntered, (rows kAddr TAddr.row a.xRan), (rStr a.xLog), a.xLoaded, ())
structure TVisit where
  xAddr : TAddr
  xPage : TPage
  xKept : Bool
  deriving DecidableEq
abbrev kVisit : List CK := [.str, .str, .str, .str, .bool, .sl 1 true, .sl 1 true, .sl 1 true, .str, .str, .sl 4 false, .bool, .sl 4 false, .sl 1 true, .sl 8 true, .sl 5 true, .sl 2 true, .int .i64, .int .i64, .int .i64, .int .i64, .sl 2 true, .sl 1 true, .bool, .bool]
def TVisit.row (a : TVisit) : cellsT kVisit := (a.xAddr.xHost, a.xAddr.xPath, a.xPage.xAddr.xHost, a.xPage.xAddr.xPath, a.xPage.xPolicy.xSet, (rStr a.xPage.xPolicy.xScripts), (rStr a.xPage.xPolicy.xStyles), (rStr a.xPage.xPolicy.xImages), a.xPage.xPolicy.xNonce, a.xPage.xTok.xRest, (rows kToken TToken.row a.xPage.xQueue), a.xPage.xEnded, (rows kNode TNode.row a.xPage.xBuilder.xNodes), (rInt a.xPage.xBuilder.xOpen), (rows kSlot TSlot.row a.xPage.xSlots), (rows kModule TModule.row a.xPage.xMods), (rows kAddr TAddr.row a.xPage.xEntries), a.xPage.xBlock, a.xPage.xInline, a.xPage.xDeferred, a.xPage.xEntered, (rows kAddr TAddr.row a.xPage.xRan), (rStr a.xPage.xLog), a.xPage.xLoaded, a.xKept, ())
structure TTab where
  xVisits : List TVisit
  xAt : Int
  deriving DecidableEq
abbrev kTab : List CK := [.sl 25 false, .int .i64]
def TTab.row (a : TTab) : cellsT kTab := ((rows kVisit TVisit.row a.xVisits), a.xAt, ())
structure TResponse where
  xStatus : Int
  xKind : Int
  xBody : List UInt8
  xAge : Int
  xShares : Bool
  xPolicy : List UInt8
  deriving DecidableEq
abbrev kResponse : List CK := [.int .i64, .int .i64, .str, .int .i64, .bool, .str]
def TResponse.row (a : TResponse) : cellsT kResponse := (a.xStatus, a.xKind, a.xBody, a.xAge, a.xShares, a.xPolicy, ())
theorem TResponse.cmp (x y : TResponse) : ((x.xStatus == y.xStatus) && ((x.xKind == y.xKind) && ((x.xBody == y.xBody) && ((x.xAge == y.xAge) && ((x.xShares == y.xShares) && ((x.xPolicy == y.xPolicy) && true)))))) = decide (x = y) := by
 obtain ⟨p1, p2, p3, p4, p5, p6⟩ := x
 obtain ⟨q1, q2, q3, q4, q5, q6⟩ := y
 rw [Bool.eq_iff_iff]
 simp only [TResponse.mk.injEq, Bool.and_true, Bool.and_eq_true, beq_iff_eq, decide_eq_true_eq, and_assoc]
structure TKept where
  xTo : TAddr
  xResponse : TResponse
  deriving DecidableEq
abbrev kKept : List CK := [.str, .str, .int .i64, .int .i64, .str, .int .i64, .bool, .str]
def TKept.row (a : TKept) : cellsT kKept := (a.xTo.xHost, a.xTo.xPath, a.xResponse.xStatus, a.xResponse.xKind, a.xResponse.xBody, a.xResponse.xAge, a.xResponse.xShares, a.xResponse.xPolicy, ())
theorem TKept.cmp (x y : TKept) : ((x.xTo.xHost == y.xTo.xHost) && ((x.xTo.xPath == y.xTo.xPath) && ((x.xResponse.xStatus == y.xResponse.xStatus) && ((x.xResponse.xKind == y.xResponse.xKind) && ((x.xResponse.xBody == y.xResponse.xBody) && ((x.xResponse.xAge == y.xResponse.xAge) && ((x.xResponse.xShares == y.xResponse.xShares) && ((x.xResponse.xPolicy == y.xResponse.xPolicy) && true)))))))) = decide (x = y) := by
 obtain ⟨⟨p1, p2⟩, ⟨p3, p4, p5, p6, p7, p8⟩⟩ := x
 obtain ⟨⟨q1, q2⟩, ⟨q3, q4, q5, q6, q7, q8⟩⟩ := y
 rw [Bool.eq_iff_iff]
 simp only [TAddr.mk.injEq, TKept.mk.injEq, TResponse.mk.injEq, Bool.and_true, Bool.and_eq_true, beq_iff_eq, decide_eq_true_eq, and_assoc]
structure TFile where
  xPath : List UInt8
  xResponse : TResponse
  deriving DecidableEq
abbrev kFile : List CK := [.str, .int .i64, .int .i64, .str, .int .i64, .bool, .str]
def TFile.row (a : TFile) : cellsT kFile := (a.xPath, a.xResponse.xStatus, a.xResponse.xKind, a.xResponse.xBody, a.xResponse.xAge, a.xResponse.xShares, a.xResponse.xPolicy, ())
theorem TFile.cmp (x y : TFile) : ((x.xPath == y.xPath) && ((x.xResponse.xStatus == y.xResponse.xStatus) && ((x.xResponse.xKind == y.xResponse.xKind) && ((x.xResponse.xBody == y.xResponse.xBody) && ((x.xResponse.xAge == y.xResponse.xAge) && ((x.xResponse.xShares == y.xResponse.xShares) && ((x.xResponse.xPolicy == y.xResponse.xPolicy) && true))))))) = decide (x = y) := by
 obtain ⟨p1, ⟨p2, p3, p4, p5, p6, p7⟩⟩ := x
 obtain ⟨q1, ⟨q2, q3, q4, q5, q6, q7⟩⟩ := y
 rw [Bool.eq_iff_iff]
 simp only [TFile.mk.injEq, TResponse.mk.injEq, Bool.and_true, Bool.and_eq_true, beq_iff_eq, decide_eq_true_eq, and_assoc]
structure TServer where
  xHost : List UInt8
  xFiles : List TFile
  deriving DecidableEq
abbrev kServer : List CK := [.str, .sl 7 true]
def TServer.row (a : TServer) : cellsT kServer := (a.xHost, (rows kFile TFile.row a.xFiles), ())
structure THidden where
  xReady : Bool
  xPage : TPage
  xTaken : List TKept
  xServers : List TServer
  xNow : Int
  deriving DecidableEq
abbrev kHidden : List CK := [.bool, .str, .str, .bool, .sl 1 true, .sl 1 true, .sl 1 true, .str, .str, .sl 4 false, .bool, .sl 4 false, .sl 1 true, .sl 8 true, .sl 5 true, .sl 2 true, .int .i64, .int .i64, .int .i64, .int .i64, .sl 2 true, .sl 1 true, .bool, .sl 8 true, .sl 2 false, .int .i64]
def THidden.row (a : THidden) : cellsT kHidden := (a.xReady, a.xPage.xAddr.xHost, a.xPage.xAddr.xPath, a.xPage.xPolicy.xSet, (rStr a.xPage.xPolicy.xScripts), (rStr a.xPage.xPolicy.xStyles), (rStr a.xPage.xPolicy.xImages), a.xPage.xPolicy.xNonce, a.xPage.xTok.xRest, (rows kToken TToken.row a.xPage.xQueue), a.xPage.xEnded, (rows kNode TNode.row a.xPage.xBuilder.xNodes), (rInt a.xPage.xBuilder.xOpen), (rows kSlot TSlot.row a.xPage.xSlots), (rows kModule TModule.row a.xPage.xMods), (rows kAddr TAddr.row a.xPage.xEntries), a.xPage.xBlock, a.xPage.xInline, a.xPage.xDeferred, a.xPage.xEntered, (rows kAddr TAddr.row a.xPage.xRan), (rStr a.xPage.xLog), a.xPage.xLoaded, (rows kKept TKept.row a.xTaken), (rows kServer TServer.row a.xServers), a.xNow, ())
structure TEntry where
  xTop : List UInt8
  xTo : TAddr
  xResponse : TResponse
  xUntil : Int
  deriving DecidableEq
abbrev kEntry : List CK := [.str, .str, .str, .int .i64, .int .i64, .str, .int .i64, .bool, .str, .int .i64]
def TEntry.row (a : TEntry) : cellsT kEntry := (a.xTop, a.xTo.xHost, a.xTo.xPath, a.xResponse.xStatus, a.xResponse.xKind, a.xResponse.xBody, a.xResponse.xAge, a.xResponse.xShares, a.xResponse.xPolicy, a.xUntil, ())
theorem TEntry.cmp (x y : TEntry) : ((x.xTop == y.xTop) && ((x.xTo.xHost == y.xTo.xHost) && ((x.xTo.xPath == y.xTo.xPath) && ((x.xResponse.xStatus == y.xResponse.xStatus) && ((x.xResponse.xKind == y.xResponse.xKind) && ((x.xResponse.xBody == y.xResponse.xBody) && ((x.xResponse.xAge == y.xResponse.xAge) && ((x.xResponse.xShares == y.xResponse.xShares) && ((x.xResponse.xPolicy == y.xResponse.xPolicy) && ((x.xUntil == y.xUntil) && true)))))))))) = decide (x = y) := by
 obtain ⟨p1, ⟨p2, p3⟩, ⟨p4, p5, p6, p7, p8, p9⟩, p10⟩ := x
 obtain ⟨q1, ⟨q2, q3⟩, ⟨q4, q5, q6, q7, q8, q9⟩, q10⟩ := y
 rw [Bool.eq_iff_iff]
 simp only [TAddr.mk.injEq, TEntry.mk.injEq, TResponse.mk.injEq, Bool.and_true, Bool.and_eq_true, beq_iff_eq, decide_eq_true_eq, and_assoc]
structure TCache where
  xEntries : List TEntry
  deriving DecidableEq
abbrev kCache : List CK := [.sl 10 true]
def TCache.row (a : TCache) : cellsT kCache := ((rows kEntry TEntry.row a.xEntries), ())
structure TSent where
  xTop : List UInt8
  xTo : TAddr
  xGuess : Bool
  deriving DecidableEq
abbrev kSent : List CK := [.str, .str, .str, .bool]
def TSent.row (a : TSent) : cellsT kSent := (a.xTop, a.xTo.xHost, a.xTo.xPath, a.xGuess, ())
theorem TSent.cmp (x y : TSent) : ((x.xTop == y.xTop) && ((x.xTo.xHost == y.xTo.xHost) && ((x.xTo.xPath == y.xTo.xPath) && ((x.xGuess == y.xGuess) && true)))) = decide (x = y) := by
 obtain ⟨p1, ⟨p2, p3⟩, p4⟩ := x
 obtain ⟨q1, ⟨q2, q3⟩, q4⟩ := y
 rw [Bool.eq_iff_iff]
 simp only [TAddr.mk.injEq, TSent.mk.injEq, Bool.and_true, Bool.and_eq_true, beq_iff_eq, decide_eq_true_eq, and_assoc]
structure TNet where
  xServers : List TServer
  xCache : TCache
  xLog : List TSent
  xNow : Int
  deriving DecidableEq
abbrev kNet : List CK := [.sl 2 false, .sl 10 true, .sl 4 true, .int .i64]
def TNet.row (a : TNet) : cellsT kNet := ((rows kServer TServer.row a.xServers), (rows kEntry TEntry.row a.xCache.xEntries), (rows kSent TSent.row a.xLog), a.xNow, ())
structure TWorld where
  xNet : TNet
  xTab : TTab
  xHidden : THidden
  xFast : Bool
  deriving DecidableEq
abbrev kWorld : List CK := [.sl 2 false, .sl 10 true, .sl 4 true, .int .i64, .sl 25 false, .int .i64, .bool, .str, .str, .bool, .sl 1 true, .sl 1 true, .sl 1 true, .str, .str, .sl 4 false, .bool, .sl 4 false, .sl 1 true, .sl 8 true, .sl 5 true, .sl 2 true, .int .i64, .int .i64, .int .i64, .int .i64, .sl 2 true, .sl 1 true, .bool, .sl 8 true, .sl 2 false, .int .i64, .bool]
def TWorld.row (a : TWorld) : cellsT kWorld := ((rows kServer TServer.row a.xNet.xServers), (rows kEntry TEntry.row a.xNet.xCache.xEntries), (rows kSent TSent.row a.xNet.xLog), a.xNet.xNow, (rows kVisit TVisit.row a.xTab.xVisits), a.xTab.xAt, a.xHidden.xReady, a.xHidden.xPage.xAddr.xHost, a.xHidden.xPage.xAddr.xPath, a.xHidden.xPage.xPolicy.xSet, (rStr a.xHidden.xPage.xPolicy.xScripts), (rStr a.xHidden.xPage.xPolicy.xStyles), (rStr a.xHidden.xPage.xPolicy.xImages), a.xHidden.xPage.xPolicy.xNonce, a.xHidden.xPage.xTok.xRest, (rows kToken TToken.row a.xHidden.xPage.xQueue), a.xHidden.xPage.xEnded, (rows kNode TNode.row a.xHidden.xPage.xBuilder.xNodes), (rInt a.xHidden.xPage.xBuilder.xOpen), (rows kSlot TSlot.row a.xHidden.xPage.xSlots), (rows kModule TModule.row a.xHidden.xPage.xMods), (rows kAddr TAddr.row a.xHidden.xPage.xEntries), a.xHidden.xPage.xBlock, a.xHidden.xPage.xInline, a.xHidden.xPage.xDeferred, a.xHidden.xPage.xEntered, (rows kAddr TAddr.row a.xHidden.xPage.xRan), (rStr a.xHidden.xPage.xLog), a.xHidden.xPage.xLoaded, (rows kKept TKept.row a.xHidden.xTaken), (rows kServer TServer.row a.xHidden.xServers), a.xHidden.xNow, a.xFast, ())
structure TRequest where
  xKind : Int
  xTo : TAddr
  xFrom : List UInt8
  xDigest : List UInt8
  deriving DecidableEq
abbrev kRequest : List CK := [.int .i64, .str, .str, .str, .str]
def TRequest.row (a : TRequest) : cellsT kRequest := (a.xKind, a.xTo.xHost, a.xTo.xPath, a.xFrom, a.xDigest, ())
theorem TRequest.cmp (x y : TRequest) : ((x.xKind == y.xKind) && ((x.xTo.xHost == y.xTo.xHost) && ((x.xTo.xPath == y.xTo.xPath) && ((x.xFrom == y.xFrom) && ((x.xDigest == y.xDigest) && true))))) = decide (x = y) := by
 obtain ⟨p1, ⟨p2, p3⟩, p4, p5⟩ := x
 obtain ⟨q1, ⟨q2, q3⟩, q4, q5⟩ := y
 rw [Bool.eq_iff_iff]
 simp only [TAddr.mk.injEq, TRequest.mk.injEq, Bool.and_true, Bool.and_eq_true, beq_iff_eq, decide_eq_true_eq, and_assoc]
end Go.Am
end
section
set_option linter.unusedVariables false
set_option linter.unusedSimpArgs false
namespace Go.Am
open Go Go.RowKit
section
variable {P : Program} {c : Cfg}
def Kept (w w' : World) : Prop := w'.os = w.os ∧ w'.tape = w.tape ∧ w'.output = w.output ∧ w.heap.size ≤ w'.heap.size ∧ ∀ k, k < w.heap.size → w'.heap[k]? = w.heap[k]?
theorem Kept.refl (w : World) : Kept w w := ⟨rfl, rfl, rfl, Nat.le_refl _, fun _ _ => rfl⟩
theorem Kept.below {w w' : World} (h : Below w.heap.size w w') : Kept w w' := ⟨h.os, h.tape, h.output, h.size, h.block⟩
theorem answer_plain {R : Nat → Prop} {w w' : World} {r : V} {x : Value} (hk : Kept w w') (hr : Rd w' (fun _ => False) r x) : Answer R w r x w' :=
 ⟨hk.1, hk.2.1, hk.2.2.1, hk.2.2.2.1, hk.2.2.2.2, { w0 := w', F := fun k => w.heap.size ≤ k, S := fun _ => False, has := fun _ => False, blk := fun _ => 0, off := fun _ => 0, cap := fun _ => 0, sz := fun _ => 0, ln := fun _ => 0, lb := fun _ => False, box := fun _ => 0, R := fun _ => False, Z := fun _ => False, N := fun _ _ => False, U := True },
  .rd _ _ hr, fun _ h => h, fun _ h => h.elim, fun _ h => h.elim, fun _ _ h => h.elim, fun _ h => h.elim, fun _ h => h.elim, trivial, fun _ h => h.elim, fun _ _ h => h.elim⟩
def ExtOk (P : Program) (f : Nat) (e : List V → Option V) : Prop := ∀ args r, e args = some r →
 (∃ fn, P.funcs[f]? = some fn ∧ fn.body.isNone = false ∧ (fn.name == "runtime.NumGoroutine") = false) ∧
 ∀ (R : Nat → Prop) (w : World) (vals : Array Value), globOk w → (∀ k, R k → k < w.heap.size) → args.length = vals.size → (∀ (i : Nat) (c : V) (v : Value), args[i]? = some c → vals[i]? = some v → Rd w R c v) →
  Calls P f vals w fun
   | .returned x, w' => Answer R w r x w'
   | _, _ => False
def extL : List (Nat × (List V → Option V)) → Nat → List V → Option V
 | [], _, _ => none
 | (g, e) :: r, f, args => if f = g then e args else extL r f args
theorem ext_nil : Answers P (extL []) := fun f args r h => by cases h
theorem ext_cons {g : Nat} {e : List V → Option V} {l : List (Nat × (List V → Option V))} (he : ExtOk P g e) (hl : Answers P (extL l)) : Answers P (extL ((g, e) :: l)) := by
 intro f args r h
 rw [extL] at h
 split at h
 ·rename_i hfg; subst hfg; exact he args r h
 ·exact hl f args r h
theorem ext_okW {ext : Nat → List V → Option V} {f : Nat} {e : List V → Option V} {sh : List (Bool × List CK)} {G : (β : Type) → argsT sh → (V → Option β) → Option β} (hE : ∀ args, ext f args = e args)
  (h : ∀ β (x : argsT sh) (k : V → Option β) r, G β x k = some r → ∃ v, e (argsEnc sh x) = some v ∧ k v = some r) : FnOk (den P c ext) f (wrap sh G) := by
 intro β args k r hr
 unfold wrap at hr
 split at hr
 ·rename_i x hx
  obtain ⟨v, h1, h2⟩ := h β x k r hr
  exact ⟨v, den_ext (by rw [hE, ← args_enc hx]; exact h1), h2⟩
 ·cases hr
theorem vals1 {vals : Array Value} {a : V} (h : [a].length = vals.size) : ∃ x, vals = #[x] ∧ vals[0]? = some x := by
 obtain ⟨l⟩ := vals
 cases l with
 | nil => simp at h
 | cons x l => cases l with
  | nil => exact ⟨x, rfl, rfl⟩
  | cons y l => simp at h
theorem vals2 {vals : Array Value} {a b : V} (h : [a, b].length = vals.size) : ∃ x y, vals = #[x, y] ∧ vals[0]? = some x ∧ vals[1]? = some y := by
 obtain ⟨l⟩ := vals
 cases l with
 | nil => simp at h
 | cons x l => cases l with
  | nil => simp at h
  | cons y l => cases l with
   | nil => exact ⟨x, y, rfl, rfl, rfl⟩
   | cons z l => simp at h
theorem rd_str {w : World} {S : Nat → Prop} {s : List UInt8} {x : Value} (h : Rd w S (.str s) x) : ∃ y : ByteArray, x = .string y ∧ y.data.toList = s := by
 cases h with
 | str _ y hy => exact ⟨y, rfl, hy⟩
end
end Go.Am
end
section
set_option linter.unusedVariables false
set_option linter.unusedSimpArgs false
namespace Go.Am
open Go Go.RowKit Go.Sort
section
variable {P : Program} {c : Cfg}
theorem Kept.grow (w : World) (k : Nat) (os : Array Obj) : Kept w (grow (w.drewN k) os) := by
 refine ⟨rfl, rfl, rfl, ?_, fun g h => ?_⟩
 ·simp [Go.Sort.grow, World.drewN]
 ·simp [Go.Sort.grow, World.drewN, Array.getElem?_append, h]
def cmpV : List V → Option V
 | [.str a, .str b] => some (.int .i64 (Lib.compareBytes a b))
 | _ => none
theorem ext_cmp {f : Nat} {fn : Func} (hf : P.funcs[f]? = some fn) (hb : fn.body.isNone = false) (hn : (fn.name == "runtime.NumGoroutine") = false)
  (h1 : ∀ (a b : ByteArray) (w : World), Calls P f #[.string a, .string b] w fun e w' => e = .returned (.int .i64 (Lib.compareBytes a.data.toList b.data.toList)) ∧ w' = w) : ExtOk P f cmpV := by
 intro args r h
 refine ⟨⟨fn, hf, hb, hn⟩, fun R w vals hg hR hl hv => ?_⟩
 unfold cmpV at h
 split at h
 ·simp only [sj_] at h
  subst h
  obtain ⟨x, y, rfl, e0, e1⟩ := vals2 hl
  obtain ⟨sa, rfl, ha⟩ := rd_str (hv 0 _ _ rfl e0)
  obtain ⟨sb, rfl, hb'⟩ := rd_str (hv 1 _ _ rfl e1)
  refine (h1 sa sb w).mono (fun e w' he => ?_)
  obtain ⟨rfl, rfl⟩ := he
  exact answer_plain (Kept.refl _) (by rw [ha, hb']; exact .int _ _)
 ·cases h
end
end Go.Am
end
section
set_option linter.unusedVariables false
set_option linter.unusedSimpArgs false
namespace Go.Am
open Go Go.Proofs Go.Shelf Go.RowKit Go.Lib Go.Sort
section
variable {P : Program} {ρ : Ren} {α : Type} [Inhabited α] [DecidableEq α]
omit [DecidableEq α] in
theorem cells_of {enc : α → List Value} {c : Nat} {W : World} {blk off : Nat} {d : Array α} (h : HoldsK enc c W blk off d) (hk : ∀ x, (enc x).length = c) {i : Nat} (hi : i < d.size) :
  ∀ j v, (enc d[i]!)[j]? = some v → W.cell? ((⟨blk, off + i * c, none⟩ : Addr).add j) = some v := fun j v hv => by
 have hj : j < c := by have := (List.getElem?_eq_some_iff.1 hv).1; rwa [hk] at this
 rw [Addr.add_lit, (h.cell hi hj).1, getElem!_pos (enc d[i]!) j (by rw [hk]; exact hj)]
 rw [List.getElem?_eq_getElem (by rw [hk]; exact hj)] at hv
 exact hv
theorem stores_into (P : Program) {W : World} {blk off : Nat} {F : Array Value} (h : Holds id W blk off F) (s : Nat) (vs : List Value) (hs : s + vs.length ≤ F.size) (h1 : ∀ v ∈ vs, v.oneCell' = true) :
  Sem.run P (storeCells ⟨blk, off + s, none⟩ vs 0) W = .ok () (W.setCells blk (off + s) vs) := by
 have := run_storeCells_cells (P := P) blk (off + s) vs 0 W (fun c hc => by rw [Nat.add_zero, Nat.add_assoc, (h (s + c) (by omega)).1]; rfl) (fun c hc => by rw [Nat.add_zero, Nat.add_assoc]; exact (h (s + c) (by omega)).2) h1
 rwa [Nat.add_zero] at this
omit [DecidableEq α] in
theorem setMany_one (enc : α → List Value) (c : Nat) (hk : ∀ x, (enc x).length = c) (d : Array α) (i : Nat) (x : α) (hi : i < d.size) : setMany (flatK enc c d) (i * c) (enc x) = flatK enc c (d.setIfInBounds i x) := by
 refine ext_get! (by simp) fun t ht => ?_
 have ht' : t < d.size * c := by simpa using ht
 have c0 : 0 < c := by
  rcases Nat.eq_zero_or_pos c with h | h
  ·subst h; simp at ht'
  ·exact h
 rw [get_setMany _ _ _ t (by simpa using ht'), get_flatK _ _ _ t ht', get_flatK _ _ _ t (by simpa using ht'), hk]
 by_cases a : t / c = i
 ·rw [if_pos ((blk_iff c i t c0).2 a), a, getElem!_set_same d i x hi]
  have : t - i * c = t % c := by subst a; rw [Nat.mod_eq_sub_div_mul]
  rw [this]
 ·rw [if_neg (fun h => a ((blk_iff c i t c0).1 h)), getElem!_set_other d i _ x a]
omit [DecidableEq α] in
theorem store_worldK (enc : α → List Value) (c : Nat) (hk : ∀ x, (enc x).length = c) {w wr : World} {n blk off : Nat} {dk : Array α} {i : Nat} (m : Nat) (hi : i < dk.size) (hwr : wr = putRowK enc c (Sort.ahead w n) blk off dk) (x : α) :
  (wr.drewN m).setCells blk (off + i * c) (enc x) = putRowK enc c (Sort.ahead w (n + m)) blk off (dk.setIfInBounds i x) := by
 subst hwr
 rw [putRowK_drewN]
 unfold putRowK
 rw [setCells_putRow _ _ _ _ _ _ (by
  rw [hk, size_flatK]
  have := Nat.mul_le_mul_right c (show i + 1 ≤ dk.size from hi)
  rwa [Nat.add_mul, Nat.one_mul] at this), setMany_one enc c hk dk i x hi]
theorem clear_cells (w : World) (t e ty : TypeId) (z : Array Value) (ht : P.underlying t = some (.slice e)) (hv : ∀ w, (zeroValue e).run P w = .ok (.agg z) w) (h1 : ∀ v ∈ z.toList, v.oneCell' = true) (b o n cp : Nat) (hn : 0 < n)
  (hc : ∀ j, j < n * z.size → (w.cell? ⟨b, o + j, none⟩).isSome = true) (hf : ∀ j, j < n * z.size → w.frozen? ⟨b, o + j, none⟩ = false) :
  (Builtin.clear_ #[t] ty #[.slice (some ⟨b, o, none⟩) n cp]).run P w = .ok (.tuple #[]) (w.setCells b o (Builtin.zeroCells z n).toList) := by
 have hst := run_storeCells_cells (P := P) b o (Builtin.zeroCells z n).toList 0 w (by simpa [Builtin.zeroCells] using hc) (by simpa [Builtin.zeroCells] using hf) (by
  intro v hv'
  simp only [Builtin.zeroCells, Array.toList_map, List.mem_map] at hv'
  obtain ⟨i, hi, rfl⟩ := hv'
  have hi' : i < n * z.size := by simpa using hi
  have z0 : 0 < z.size := by
   rcases Nat.eq_zero_or_pos z.size with h | h
   ·rw [h] at hi'; simp at hi'
   ·exact h
  have hm : i % z.size < z.size := Nat.mod_lt _ z0
  rw [getElem!_pos z _ hm]
  exact h1 _ (by simp))
 simp only [Nat.add_zero] at hst
 obtain ⟨m, rfl⟩ : ∃ m, n = m + 1 := ⟨n - 1, by omega⟩
 have hz : (Value.agg z).cells = z := rfl
 simp [Builtin.clear_, run_underlying ht, hv, hz, hst]
structure CompLays (P : Program) (ρ : Ren) : Prop where
  mixed : P.follows .mixedOrders = true
  f43 : Bears P (ρ.f 43) (SlBodyN.n43 ρ)
  t0 : P.underlying (ρ.t 0) = some (TypeDesc.tuple #[])
  a0 : ∀ w, (isAgg (ρ.t 0)).run P w = .ok false w
  z0 : ∀ w, (Go.sizeOf (ρ.t 0)).run P w = .ok 1 w
  v0 : ∀ w, (zeroValue (ρ.t 0)).run P w = .ok (Value.tuple #[]) w
  t3 : P.underlying (ρ.t 3) = some (TypeDesc.int IntKind.i64)
  a3 : ∀ w, (isAgg (ρ.t 3)).run P w = .ok false w
  z3 : ∀ w, (Go.sizeOf (ρ.t 3)).run P w = .ok 1 w
  v3 : ∀ w, (zeroValue (ρ.t 3)).run P w = .ok (Value.int IntKind.i64 0) w
  t4 : P.underlying (ρ.t 4) = some (TypeDesc.bool)
  a4 : ∀ w, (isAgg (ρ.t 4)).run P w = .ok false w
  z4 : ∀ w, (Go.sizeOf (ρ.t 4)).run P w = .ok 1 w
  v4 : ∀ w, (zeroValue (ρ.t 4)).run P w = .ok (Value.bool false) w
  t22 : P.underlying (ρ.t 22) = some (TypeDesc.slice (ρ.t 23))
  a22 : ∀ w, (isAgg (ρ.t 22)).run P w = .ok false w
  z22 : ∀ w, (Go.sizeOf (ρ.t 22)).run P w = .ok 1 w
  v22 : ∀ w, (zeroValue (ρ.t 22)).run P w = .ok (Value.slice none 0 0) w
set_option maxHeartbeats 8000000 in
set_option maxRecDepth 1000000 in
theorem compact_struct (L : CompLays P ρ) (c : Nat) (aE : ∀ w, (isAgg (ρ.t 23)).run P w = .ok true w) (zE : ∀ w, (Go.sizeOf (ρ.t 23)).run P w = .ok c w) (enc : α → List Value) (hk : ∀ x, (enc x).length = c) (h1 : ∀ x, ∀ v ∈ enc x, v.oneCell' = true)
  (heq : EqlAt P (ρ.t 23) (fun x => .agg (enc x).toArray) (fun x y => decide (x = y))) (hne : NeqAt P (ρ.t 23) (fun x => .agg (enc x).toArray) (fun x y => decide (x = y))) (zr : α) (v23 : ∀ w, (zeroValue (ρ.t 23)).run P w = .ok (.agg (enc zr).toArray) w)
  (blk off cap : Nat) (d : Array α) (w : World) (hH : HoldsK enc c w blk off d) (hsz : d.size ≤ 9223372036854775807) (hcap : d.size ≤ cap) :
  Calls P (ρ.f 43) #[.slice (some ⟨blk, off, none⟩) d.size cap] w fun e w' => e = .returned (.slice (some ⟨blk, off, none⟩) (compactUpTo d d.size).length cap) ∧
   ∃ (q : Nat) (F : Array Value), F.size = d.size * c ∧ w' = putRow id (Sort.ahead w q) blk off F ∧ ∀ j x, (compactUpTo d d.size)[j]? = some x → ∀ t, t < c → F[j * c + t]! = (enc x)[t]! := by
 have mixed := L.mixed; have t0 := L.t0; have a0 := L.a0; have z0 := L.z0; have v0 := L.v0; have t3 := L.t3; have a3 := L.a3; have z3 := L.z3; have v3 := L.v3; have t4 := L.t4; have a4 := L.a4; have z4 := L.z4; have v4 := L.v4; have t22 := L.t22; have a22 := L.a22; have z22 := L.z22; have v22 := L.v22
 have heq' : ∀ (x y : α) (w : World), Sem.run P (binOp .eql (ρ.t 23) (.agg (enc x).toArray) (.agg (enc y).toArray)) w = .ok (.bool (decide (x = y))) w := heq.1
 have hne' : ∀ (x y : α) (w : World), Sem.run P (binOp .neq (ρ.t 23) (.agg (enc x).toArray) (.agg (enc y).toArray)) w = .ok (.bool (!decide (x = y))) w := hne.1
 have hgd' : ∀ (op : BinOp) (a b : Operand) (x y : α) (w : World), Sem.run P (eqGuard op (ρ.t 23) a b (.agg (enc x).toArray) (.agg (enc y).toArray)) w = .ok () w := hne.2
 have fin : ∀ (dk : Array α) (m : Nat), dk.size = d.size → m ≤ d.size → (∀ j, j < m → (compactUpTo d d.size)[j]? = some dk[j]!) → (compactUpTo d d.size).length = m → ∀ (F : Array Value), (∀ t, t < m * c → F[t]! = (flatK enc c dk)[t]!) →
   ∀ j x, (compactUpTo d d.size)[j]? = some x → ∀ t, t < c → F[j * c + t]! = (enc x)[t]! := by
  intro dk m hds hm hlow hlen F hF j x hx t ht
  have hj : j < m := by rw [← hlen]; exact (List.getElem?_eq_some_iff.1 hx).1
  rw [hlow j hj] at hx
  injection hx with hx
  have hb : j * c + c ≤ m * c := by
   have := Nat.mul_le_mul_right c (show j + 1 ≤ m from hj)
   rwa [Nat.add_mul, Nat.one_mul] at this
  have hb2 : m * c ≤ dk.size * c := Nat.mul_le_mul_right c (by omega)
  rw [hF _ (by omega), get_flatK _ _ _ _ (by omega)]
  have e1 : (j * c + t) / c = j := (blk_iff c j _ (by omega)).1 ⟨by omega, by omega⟩
  have e2 : (j * c + t) % c = t := by rw [Nat.mod_eq_sub_div_mul, e1]; omega
  rw [e1, e2, hx]
 have same : ∀ q, (∀ j, j < d.size → keeps d j = true) → (compactUpTo d d.size).length = d.size ∧ ∃ F : Array Value, F.size = d.size * c ∧ w.drewN q = putRow id (Sort.ahead w q) blk off F ∧ ∀ j x, (compactUpTo d d.size)[j]? = some x → ∀ t, t < c → F[j * c + t]! = (enc x)[t]! := by
  intro q hall
  have e : compactUpTo d d.size = d.toList := by rw [compactUpTo_all d _ hall, range_map_get]
  have el : (compactUpTo d d.size).length = d.size := by rw [e]; simp
  refine ⟨el, flatK enc c d, size_flatK _ _ _, (putRow_self id (Sort.ahead w q) blk off _ (holdsK_ahead enc c w q blk off d hH)).symm, fin d d.size rfl (Nat.le_refl _) (fun j hj => ?_) el _ (fun _ _ => rfl)⟩
  rw [e, getElem!_pos d j hj]
  simp [hj]
 have HS : Aside (∀ q, (∀ j, j < d.size → keeps d j = true) → (compactUpTo d d.size).length = d.size ∧ ∃ F : Array Value, F.size = d.size * c ∧ w.drewN q = putRow id (Sort.ahead w q) blk off F ∧ ∀ j x, (compactUpTo d d.size)[j]? = some x → ∀ t, t < c → F[j * c + t]! = (enc x)[t]!) := same
 have FIN : Aside (∀ (dk : Array α) (m : Nat), dk.size = d.size → m ≤ d.size → (∀ j, j < m → (compactUpTo d d.size)[j]? = some dk[j]!) → (compactUpTo d d.size).length = m → ∀ (F : Array Value), (∀ t, t < m * c → F[t]! = (flatK enc c dk)[t]!) →
   ∀ j x, (compactUpTo d d.size)[j]? = some x → ∀ t, t < c → F[j * c + t]! = (enc x)[t]!) := fin
 clear same fin
 have HH : Aside (HoldsK enc c w blk off d) := hH
 have HK : Aside (∀ x, (enc x).length = c) := hk
 have H1 : Aside (∀ x, ∀ v ∈ enc x, v.oneCell' = true) := h1
 by_cases h2 : d.size < 2
 ·clear hH hk h1
  obtain ⟨_, _, FG⟩ := L.f43
  go_enter FG, SlBodyN.n43_ntmps ρ
  go_wp2
  go_ret
  obtain ⟨e1, F, e2, e3, e4⟩ := HS.out 0 (fun j hj => keeps_lt_one d j (by omega))
  exact ⟨by rw [e1]; rfl, 0, F, e2, e3, e4⟩
 ·clear hH hk h1
  obtain ⟨_, _, FG⟩ := L.f43
  go_enter FG, SlBodyN.n43_ntmps ρ
  go_wp2
  go_loopg [3] d.size (fun g s3 wr => ∃ k q : Nat, 1 ≤ k ∧ k ≤ d.size ∧ d.size - k ≤ g ∧ s3 = .int .i64 k ∧ wr = w.drewN q ∧ Aside (∀ j, j < k → keeps d j = true))
  case atStart => exact ⟨1, 0, Nat.le_refl _, by omega, by omega, rfl, rfl, keeps_lt_one d⟩
  case round =>
   obtain ⟨k, q, hk1, hk, hg, rfl, hwr, A⟩ := hrel
   by_cases hlt : k < d.size
   ·have hHq : ∀ m, HoldsK enc c (wr.drewN m) blk off d := fun m => by rw [hwr]; exact HH.out
    have g1 : ∀ m, Sem.run P (loadCellsFrom ⟨blk, off + k * c, none⟩ 0 c #[]) (wr.drewN m) = .ok (enc d[k]!).toArray (wr.drewN m) := fun m => run_loadCellsFrom_list P _ _ _ c (HK.out _) (cells_of (hHq m) HK.out hlt)
    have g0 : ∀ m, Sem.run P (loadCellsFrom ⟨blk, off + (k - 1) * c, none⟩ 0 c #[]) (wr.drewN m) = .ok (enc d[k - 1]!).toArray (wr.drewN m) := fun m => run_loadCellsFrom_list P _ _ _ c (HK.out _) (cells_of (hHq m) HK.out (by omega))
    clear hHq
    have HW : Aside (wr = w.drewN q) := hwr
    clear hwr
    generalize hx : d[k]! = x at g1
    generalize hy : d[k - 1]! = y at g0
    have B : Aside (d[k]! = x ∧ d[k - 1]! = y) := ⟨hx, hy⟩
    clear hx hy
    have hw1 : IntKind.i64.wrap ((k : Int) - 1) = ((k - 1 : Nat) : Int) := by simp [IntKind.wrap, IntKind.bits, IntKind.signed]; omega
    have hlt1 : k - 1 < d.size := by omega
    by_cases hdup : x = y
    ·subst hdup
     go_wp2_with fail
     go_quiet_o (fail)
     go_wp2
     clear g1 g0 hw1 hlt1
     go_loopg [3, 5] d.size (fun g s3 s5 wr => ∃ (kk k2 q2 : Nat) (dk : Array α), s3 = .int .i64 kk ∧ s5 = .int .i64 k2 ∧ 1 ≤ k2 ∧ k + k2 ≤ d.size ∧ d.size - (k + k2) ≤ g ∧ wr = putRowK enc c (Sort.ahead w q2) blk off dk ∧ CompInv d (k + k2) kk dk)
     case atStart =>
      refine ⟨k, 1, q + nq, d, rfl, rfl, Nat.le_refl _, by omega, by omega, ?_, CompInv.start A.out (keeps_neg (by omega) (by rw [B.out.1, B.out.2]))⟩
      rw [HW.out, World.drewN_drewN]
      exact (putRowK_self enc c (Sort.ahead w (q + nq)) blk off d (holdsK_ahead enc c w (q + nq) blk off d HH.out)).symm
     case round =>
      obtain ⟨kk, k2, q2, dk, rfl, rfl, h1, hle, hg2, hwr, hI⟩ := hrel
      have hkk := hI.lt
      have hds := hI.size
      have hHk : HoldsK enc c wr blk off dk := by rw [hwr]; exact holdsK_putRowK enc c _ blk off d dk (holdsK_ahead enc c w q2 blk off d HH.out) hds
      have W2 : Aside (wr = putRowK enc c (Sort.ahead w q2) blk off dk) := hwr
      have I2 : Aside (CompInv d (k + k2) kk dk) := hI
      clear hwr
      by_cases hlt2 : k + k2 < d.size
      ·have hHm : ∀ m, HoldsK enc c (wr.drewN m) blk off dk := fun m => hHk
       have lm : ∀ m, Sem.run P (loadCellsFrom ⟨blk, off + k * c + k2 * c, none⟩ 0 c #[]) (wr.drewN m) = .ok (enc d[k + k2]!).toArray (wr.drewN m) := fun m => by
        have := run_loadCellsFrom_list P _ _ _ c (HK.out _) (cells_of (hHm m) HK.out (i := k + k2) (by omega))
        rwa [Nat.add_mul, ← Nat.add_assoc, hI.high (k + k2) (by omega)] at this
       have lp : ∀ m, Sem.run P (loadCellsFrom ⟨blk, off + k * c + (k2 - 1) * c, none⟩ 0 c #[]) (wr.drewN m) = .ok (enc d[k + k2 - 1]!).toArray (wr.drewN m) := fun m => by
        have := run_loadCellsFrom_list P _ _ _ c (HK.out _) (cells_of (hHm m) HK.out (i := k + (k2 - 1)) (by omega))
        rwa [Nat.add_mul, ← Nat.add_assoc, hI.high (k + (k2 - 1)) (by omega), show k + (k2 - 1) = k + k2 - 1 by omega] at this
       have st : ∀ m, Sem.run P (storeCells ⟨blk, off + kk * c, none⟩ (enc d[k + k2]!) 0) (wr.drewN m) = .ok () ((wr.drewN m).setCells blk (off + kk * c) (enc d[k + k2]!)) := fun m =>
        stores_into P (hHm m) (kk * c) _ (by
         rw [HK.out, size_flatK]
         have := Nat.mul_le_mul_right c (show kk + 1 ≤ dk.size by omega)
         rwa [Nat.add_mul, Nat.one_mul] at this) (H1.out _)
       have hsz2 : (enc d[k + k2]!).length = c := HK.out _
       clear hHk hI hHm
       generalize hu : d[k + k2]! = u at lm st hsz2
       generalize hv : d[k + k2 - 1]! = v at lp
       have C : Aside (d[k + k2]! = u ∧ d[k + k2 - 1]! = v) := ⟨hu, hv⟩
       clear hu hv
       have hw2 : IntKind.i64.wrap ((k2 : Int) - 1) = ((k2 - 1 : Nat) : Int) := by simp [IntKind.wrap, IntKind.bits, IntKind.signed]; omega
       have hb2 : k2 < d.size - k := by omega
       have hb1 : k2 - 1 < d.size - k := by omega
       by_cases huv : u = v
       ·subst huv
        go_wp2_with fail
        go_quiet_o (fail)
        go_wp2
        go_roundg (d.size - (k + (k2 + 1)))
        case measure => omega
        case rel => exact ⟨kk, k2 + 1, q2 + nq, dk, rfl, by go_num, by omega, by omega, Nat.le_refl _, by rw [W2.out, putRowK_drewN], I2.out.skip (keeps_neg (by omega) (by rw [C.out.1, C.out.2]))⟩
       ·go_wp2_with fail
        go_quiet_o (fail)
        go_wp2
        go_roundg (d.size - (k + (k2 + 1)))
        case measure => omega
        case rel => exact ⟨kk + 1, k2 + 1, q2 + nq, dk.setIfInBounds kk u, by go_num, by go_num, by omega, by omega, Nat.le_refl _, store_worldK enc c HK.out nq (by omega) W2.out u, by have := I2.out.keep hlt2 (keeps_pos (by rw [C.out.1, C.out.2]; exact huv)); rwa [C.out.1] at this⟩
      ·have hend : k + k2 = d.size := by omega
       have zsz : (enc zr).toArray.size = c := by simpa using HK.out zr
       have hF : Holds id wr blk off (flatK enc c dk) := hHk
       have hin : ∀ j, j < (d.size - kk) * (enc zr).toArray.size → kk * c + j < (flatK enc c dk).size := fun j hj => by
        rw [zsz] at hj
        rw [size_flatK, hds]
        have : d.size * c = kk * c + (d.size - kk) * c := by rw [← Nat.add_mul]; congr 1; omega
        omega
       have hcl : ∀ ty, (Builtin.clear_ #[ρ.t 22] ty #[.slice (some ⟨blk, off + kk * c, none⟩) (d.size - kk) (cap - kk)]).run P wr = .ok (.tuple #[]) (wr.setCells blk (off + kk * c) (Builtin.zeroCells (enc zr).toArray (d.size - kk)).toList) :=
        fun ty => clear_cells wr _ _ ty _ t22 v23 (by simpa using H1.out zr) blk (off + kk * c) _ _ (by omega) (fun j hj => by rw [Nat.add_assoc, (hF _ (hin j hj)).1]; rfl) (fun j hj => by rw [Nat.add_assoc]; exact (hF _ (hin j hj)).2)
       have hZl : (Builtin.zeroCells (enc zr).toArray (d.size - kk)).toList.length = (d.size - kk) * c := by simp [Builtin.zeroCells, HK.out]
       generalize (Builtin.zeroCells (enc zr).toArray (d.size - kk)).toList = Z at hcl hZl
       clear hHk hI hF hin
       go_wp2
       go_ret
       have hI := I2.out
       rw [hend] at hI
       refine ⟨by rw [hI.len]; rfl, q2, setMany (flatK enc c dk) (kk * c) Z, by simp [hds], ?_, FIN.out dk kk hds (by omega) hI.low hI.len _ (fun t ht => ?_)⟩
       ·rw [W2.out]
        unfold putRowK
        rw [setCells_putRow _ _ _ _ _ _ (by rw [hZl, size_flatK, hds, ← Nat.add_mul]; exact Nat.mul_le_mul_right c (by omega))]
       ·rw [get_setMany _ _ _ t (by
         rw [size_flatK, hds]
         have := Nat.mul_le_mul_right c (show kk ≤ d.size by omega)
         omega), if_neg (by omega)]
    ·go_wp2_with fail
     go_quiet_o (fail)
     go_wp2
     go_roundg (d.size - (k + 1))
     case measure => omega
     case rel =>
      refine ⟨k + 1, q + nq, by omega, by omega, Nat.le_refl _, by go_num, by rw [HW.out, World.drewN_drewN], (show Aside _ from fun j hj => ?_)⟩
      by_cases e : j = k
      ·subst e
       exact keeps_pos (by rw [B.out.1, B.out.2]; exact hdup)
      ·exact A.out j (by omega)
   ·have : k = d.size := by omega
    subst this
    have HW : Aside (wr = w.drewN q) := hwr
    clear hwr
    go_wp2
    go_ret
    obtain ⟨e1, F, e2, e3, e4⟩ := HS.out q A.out
    exact ⟨by rw [e1]; rfl, q, F, e2, by rw [HW.out]; exact e3, e4⟩
end
end Go.Am
end
section
set_option linter.unusedVariables false
set_option linter.unusedSimpArgs false
namespace Go.Am
open Go Go.RowKit
section
variable {P : Program} {c : Cfg}
theorem answer_own {R : Nat → Prop} {w w' : World} {s : Nat} {q : Q} {ys : List V} {g o cap : Nat} {cur : Array Value} {ty : TypeId} (hk : Kept w w') (hq : flatOk q ys) (hn : w.heap.size ≤ g) (hg : w'.heap[g]? = some (.cells cur ty (0, 0))) (hl : ys.length ≤ cap) (hm : cap ≤ maxLen) (hc : o + cap * s ≤ cur.size)
  (hr : Rows w' (fun _ => False) s ys g o) (hqc : q ≠ .clean := by decide) : Answer R w (.own 0 s q ys) (.slice (some ⟨g, o, none⟩) ys.length cap) w' := by
 have hlt : g < w'.heap.size := by
  rcases Nat.lt_or_ge g w'.heap.size with h | h
  ·exact h
  ·rw [Array.getElem?_eq_none h] at hg; cases hg
 let Γ : Ctx := { w0 := w', F := fun k => w.heap.size ≤ k, S := fun _ => False, has := fun b => b = 0, blk := fun _ => g, off := fun _ => o, cap := fun _ => cap, sz := fun _ => s, ln := fun _ => ys.length, lb := fun _ => False, box := fun _ => 0, R := fun _ => False, Z := fun k => k = g, N := fun _ _ => False, U := True }
 refine ⟨hk.1, hk.2.1, hk.2.2.1, hk.2.2.2.1, hk.2.2.2.2, Γ, ?_, fun _ h => h, fun _ h => h.elim, ?_, fun b b' h h' _ => h.trans h'.symm, fun _ _ => rfl, fun k hk => by rw [show k = g from hk]; exact ⟨hn, hlt, cur, ty, hg⟩, trivial, fun _ _ _ h => h.elim, fun _ _ _ _ _ _ h => h.elim⟩
 ·exact VR.own (Γ := Γ) 0 s q ys rfl rfl ⟨hl, rfl⟩ (hr.mono (fun _ h => h.elim) (fun _ h => h.elim) (fun _ _ _ => rfl)) hq (fun e => absurd e hqc)
 ·intro b hb
  exact ⟨hn, hlt, fun h => h, hm, cur, ty, hg, hc⟩
theorem Kept.trans {w w1 w2 : World} (h : Kept w w1) (h' : Kept w1 w2) : Kept w w2 :=
 ⟨h'.1.trans h.1, h'.2.1.trans h.2.1, h'.2.2.1.trans h.2.2.1, Nat.le_trans h.2.2.2.1 h'.2.2.2.1, fun k hk => (h'.2.2.2.2 k (Nat.lt_of_lt_of_le hk h.2.2.2.1)).trans (h.2.2.2.2 k hk)⟩
theorem Kept.alloc (w : World) (o : Obj) : Kept w (w.alloc o) := ⟨rfl, rfl, rfl, by show w.heap.size ≤ (w.heap.push o).size; simp, fun k hk => by show (w.heap.push o)[k]? = _; rw [Array.getElem?_push, if_neg (by omega)]⟩
theorem Kept.glob {w w' : World} (h : Kept w w') (hg : globOk w) : globOk w' :=
 ⟨globStable _ _ hg.1 (fun k hk => h.2.2.2.2 k (Nat.lt_of_lt_of_le hk hg.2)), Nat.le_trans hg.2 h.2.2.2.1⟩
theorem Kept.rd {w w' : World} {R : Nat → Prop} (h : Kept w w') (hR : ∀ k, R k → k < w.heap.size) {v : V} {x : Value} (hr : Rd w R v x) : Rd w' R v x :=
 hr.mono (fun _ h => h) (fun k hk o => by simp only [World.cell?, h.2.2.2.2 k (hR k hk)])
theorem Kept.lt {w w' : World} (h : Kept w w') {R : Nat → Prop} (hR : ∀ k, R k → k < w.heap.size) : ∀ k, R k → k < w'.heap.size := fun k hk => Nat.lt_of_lt_of_le (hR k hk) h.2.2.2.1
theorem Answer.own1 {R : Nat → Prop} {w w' : World} {j : Nat} {xs : List V} {x : Value} (h : Answer R w (.own j 1 .flat xs) x w') : (xs = [] ∧ x = .slice none 0 0) ∨
  ∃ (g o cap : Nat) (cur : Array Value) (ty : TypeId), x = .slice (some ⟨g, o, none⟩) xs.length cap ∧ w.heap.size ≤ g ∧ w'.heap[g]? = some (.cells cur ty (0, 0)) ∧ xs.length ≤ cap ∧ cap ≤ maxLen ∧ o + cap ≤ cur.size ∧ ∀ (i : Nat) v, xs[i]? = some v → ∃ c, v.cells = [c] ∧ ∃ y, w'.cell? ⟨g, o + i, none⟩ = some y ∧ ∃ S, Rd w' S c y := by
 obtain ⟨Γ, hv, hF, hS, hb, _⟩ := h.val
 cases hv with
 | rd _ _ h => cases h
 | ownNil _ _ _ h => exact .inl ⟨rfl, rfl⟩
 | own _ _ _ _ hj hs hl hr hq _ =>
  obtain ⟨b1, b2, _, b4, cur, ty, b5, b6⟩ := hb j hj
  obtain ⟨r1, gf, r2, r3⟩ := hr
  refine .inr ⟨_, _, _, cur, ty, rfl, b1, b5, hl.1, b4, by rw [← hs, Nat.mul_one] at b6; exact b6, fun i v hi => ?_⟩
  have hil := (gs_ hi).1
  have hc := r1 v (List.mem_of_getElem? hi)
  obtain ⟨c, hc2⟩ : ∃ c, v.cells = [c] := by
   match hh : v.cells, hc with
   | [c], _ => exact ⟨c, rfl⟩
  have h2 := (r2 i 0 hil (by omega)).1
  rw [Nat.mul_one, Nat.add_zero] at h2
  exact ⟨c, hc2, _, h2, _, r3 i v 0 c hi (by rw [hc2]; rfl)⟩
abbrev Pr := List UInt8 × List UInt8
def prV (p : Pr) : V := .agg [.str p.1, .str p.2]
def prsOf : List V → Option (List Pr)
 | [] => some []
 | .agg [.str a, .str b] :: vs => (prsOf vs).map ((a, b) :: ·)
 | _ :: _ => none
theorem prsOf_inv : ∀ {xs : List V} {l : List Pr}, prsOf xs = some l → xs = l.map prV := by
 intro xs
 induction xs with
 | nil => intro l h; simp only [prsOf, sj_] at h; subst h; rfl
 | cons x xs ih =>
  intro l h
  unfold prsOf at h
  split at h
  ·rename_i h0; cases h0
  ·rename_i a b vs h0
   injection h0 with h1 h2
   subst h1 h2
   cases hb : prsOf xs with
   | none => rw [hb] at h; cases h
   | some m =>
    rw [hb] at h
    simp only [Option.map_some, sj_] at h
    rw [← h, List.map_cons, ← ih hb]
    rfl
  ·cases h
theorem prsOf_map (l : List Pr) : prsOf (l.map prV) = some l := by
 induction l with
 | nil => rfl
 | cons p l ih =>
  show (prsOf (l.map prV)).map ((p.1, p.2) :: ·) = _
  rw [ih]
  rfl
def cmpPr (x y : Pr) : Int := if Lib.compareBytes x.1 y.1 ≠ 0 then Lib.compareBytes x.1 y.1 else Lib.compareBytes x.2 y.2
def ltPr (x y : Pr) : Bool := decide (cmpPr x y < 0)
def sortPr (l : List Pr) : List Pr := Lib.compact (l.mergeSort fun x y => !ltPr y x)
def sortPrV : List V → Option V
 | [.sl 2 true xs] => match prsOf xs with
  | some l => if l.length ≤ 1099511627776 then some (.own 0 2 .flat ((sortPr l).map prV)) else none
  | none => none
 | _ => none
def encPr (p : Pr) : List Value := [.string ⟨p.1.toArray⟩, .string ⟨p.2.toArray⟩]
def LeftPr (w : World) (l : List Pr) (e : Ending) (w' : World) : Prop := ∃ (g cap : Nat) (cur : Array Value) (ty : TypeId), e = .returned (.slice (some ⟨g, 0, none⟩) (sortPr l).length cap) ∧ Kept w w' ∧ w.heap.size ≤ g ∧ w'.heap[g]? = some (.cells cur ty (0, 0)) ∧
 (sortPr l).length ≤ cap ∧ cap ≤ maxLen ∧ cap * 2 ≤ cur.size ∧ ∀ j x, (sortPr l)[j]? = some x → ∀ t, t < 2 → cur[j * 2 + t]? = (encPr x)[t]?
theorem cb_self : ∀ a : List UInt8, Lib.compareBytes a a = 0 := by
 intro a
 induction a with
 | nil => rfl
 | cons x a ih => simp [Lib.compareBytes, ih]
theorem cb_eq : ∀ {a b : List UInt8}, Lib.compareBytes a b = 0 → a = b := by
 intro a
 induction a with
 | nil => intro b h; cases b with
  | nil => rfl
  | cons y b => simp [Lib.compareBytes] at h
 | cons x a ih =>
  intro b h
  cases b with
  | nil => simp [Lib.compareBytes] at h
  | cons y b =>
   simp only [Lib.compareBytes] at h
   split at h
   ·simp at h
   ·split at h
    ·simp at h
    ·rename_i h1 h2
     have : x = y := by
      apply UInt8.toNat_inj.1
      rw [UInt8.lt_iff_toNat_lt] at h1 h2
      omega
     rw [this, ih h]
theorem cb_anti : ∀ a b : List UInt8, Lib.compareBytes b a = - Lib.compareBytes a b := by
 intro a
 induction a with
 | nil => intro b; cases b <;> rfl
 | cons x a ih =>
  intro b
  cases b with
  | nil => rfl
  | cons y b =>
   simp only [Lib.compareBytes]
   by_cases h1 : x < y
   ·have h2 : ¬ y < x := by rw [UInt8.lt_iff_toNat_lt] at h1 ⊢; omega
    rw [if_pos h1, if_neg h2, if_pos h1]; rfl
   ·by_cases h2 : y < x
    ·simp [h1, h2]
    ·simp [h1, h2, ih]
theorem cb_trans : ∀ a b c : List UInt8, Lib.compareBytes a b < 0 → Lib.compareBytes b c < 0 → Lib.compareBytes a c < 0 := by
 intro a
 induction a with
 | nil =>
  intro b c h1 h2
  cases c with
  | nil => cases b <;> simp [Lib.compareBytes] at h1 h2
  | cons z c => simp [Lib.compareBytes]
 | cons x a ih =>
  intro b c h1 h2
  cases b with
  | nil => simp [Lib.compareBytes] at h1
  | cons y b =>
   cases c with
   | nil => simp [Lib.compareBytes] at h2
   | cons z c =>
    simp only [Lib.compareBytes] at h1 h2 ⊢
    simp only [UInt8.lt_iff_toNat_lt] at h1 h2 ⊢
    by_cases e1 : x.toNat < y.toNat
    ·by_cases e2 : y.toNat < z.toNat
     ·rw [if_pos (by omega)]; omega
     ·rw [if_neg e2] at h2
      by_cases e3 : z.toNat < y.toNat
      ·rw [if_pos e3] at h2; omega
      ·rw [if_pos (by omega)]; omega
    ·rw [if_neg e1] at h1
     by_cases e3 : y.toNat < x.toNat
     ·rw [if_pos e3] at h1; omega
     ·rw [if_neg e3] at h1
      by_cases e2 : y.toNat < z.toNat
      ·rw [if_pos (by omega)]; omega
      ·rw [if_neg e2] at h2
       by_cases e4 : z.toNat < y.toNat
       ·rw [if_pos e4] at h2; omega
       ·rw [if_neg e4] at h2
        rw [if_neg (by omega), if_neg (by omega)]
        exact ih b c h1 h2
theorem cmp_self (x : Pr) : cmpPr x x = 0 := by simp [cmpPr, cb_self]
theorem cmp_eq {x y : Pr} (h : cmpPr x y = 0) : x = y := by
 unfold cmpPr at h
 by_cases h1 : Lib.compareBytes x.1 y.1 = 0
 ·rw [if_neg (by simpa using h1)] at h
  exact Prod.ext (cb_eq h1) (cb_eq h)
 ·rw [if_pos h1] at h; exact absurd h h1
theorem cmp_anti (x y : Pr) : cmpPr y x = - cmpPr x y := by
 unfold cmpPr
 rw [cb_anti x.1 y.1, cb_anti x.2 y.2]
 by_cases h1 : Lib.compareBytes x.1 y.1 = 0
 ·simp [h1]
 ·rw [if_pos (by omega), if_pos h1]
theorem cmp_trans (x y z : Pr) (h1 : cmpPr x y < 0) (h2 : cmpPr y z < 0) : cmpPr x z < 0 := by
 unfold cmpPr at *
 by_cases e1 : Lib.compareBytes x.1 y.1 = 0
 ·have e := cb_eq e1
  rw [if_neg (by simpa using e1)] at h1
  rw [e]
  by_cases e2 : Lib.compareBytes y.1 z.1 = 0
  ·rw [if_neg (by simpa using e2)] at h2 ⊢
   exact cb_trans _ _ _ h1 h2
  ·rw [if_pos e2] at h2 ⊢; exact h2
 ·rw [if_pos e1] at h1
  by_cases e2 : Lib.compareBytes y.1 z.1 = 0
  ·have e := cb_eq e2
   rw [← e, if_pos e1]; exact h1
  ·rw [if_pos e2] at h2
   have := cb_trans _ _ _ h1 h2
   rw [if_pos (by omega)]; exact this
theorem lt_irrefl (x : Pr) : ltPr x x = false := by simp [ltPr, cmp_self]
theorem lt_asym {x y : Pr} (h : ltPr x y = true) : ltPr y x = false := by
 have := cmp_anti x y
 simp only [ltPr, decide_eq_true_eq, decide_eq_false_iff_not] at h ⊢
 omega
theorem lt_trans' {x y z : Pr} (h1 : ltPr x y = true) (h2 : ltPr y z = true) : ltPr x z = true := by
 simp only [ltPr, decide_eq_true_eq] at h1 h2 ⊢
 exact cmp_trans _ _ _ h1 h2
theorem lt_tri {x y : Pr} (h1 : ltPr x y = false) (h2 : ltPr y x = false) : x = y := by
 have := cmp_anti x y
 simp only [ltPr, decide_eq_false_iff_not] at h1 h2
 exact cmp_eq (by omega)
theorem lt_of_not {x y : Pr} (h1 : ltPr y x = false) (hne : x ≠ y) : ltPr x y = true := by
 cases h : ltPr x y with
 | true => rfl
 | false => exact absurd (lt_tri h h1) hne
theorem block_putRow {w : World} {blk : Nat} {F cur : Array Value} {ty : TypeId} (h : w.heap[blk]? = some (.cells cur ty (0, 0))) (hs : F.size ≤ cur.size) :
  ∃ cur' : Array Value, (Sort.putRow id w blk 0 F).heap[blk]? = some (.cells cur' ty (0, 0)) ∧ cur'.size = cur.size ∧ ∀ t, t < F.size → cur'[t]? = some F[t]! := by
 refine ⟨Sort.putCells id 0 F cur, ?_, by simp [Sort.putCells], fun t ht => ?_⟩
 ·simp [Sort.putRow, Sort.mapBlock, Array.getElem?_modify, h, Sort.onCells]
 ·have : t < cur.size := by omega
  simp [Sort.putCells, Array.getElem?_mapIdx, this, ht]
theorem below_put {B : Nat} {w0 w : World} {g q : Nat} {d : Array Value} (h : RowKit.Below B w0 w) (hg : B ≤ g) : RowKit.Below B w0 (Sort.putRow id (Sort.ahead w q) g 0 d) :=
 ⟨h.os, h.tape, h.output, by simpa [Sort.putRow, Sort.mapBlock, Sort.ahead] using h.size, fun k hk => by
  rw [← h.block k hk]
  simp [Sort.putRow, Sort.mapBlock, Sort.ahead, Array.getElem?_modify, show g ≠ k by omega]⟩
open Go.Proofs Go.Sort in
theorem left_pr {w W1 : World} {g cap nn q : Nat} {os : Array Obj} {ty : TypeId} {cur F : Array Value} {l : List Pr} {d' : Array Pr} (hb : RowKit.Below w.heap.size w W1) (hg : w.heap.size ≤ g) (hg1 : W1.heap[g]? = some (.cells cur ty (0, 0))) (hcap : l.length ≤ cap) (hm : cap ≤ maxLen) (hcs : cur.size = cap * 2)
  (hd : d' = (l.mergeSort fun x y => !ltPr y x).toArray) (hF : F.size = d'.size * 2) (hFx : ∀ j x, (Lib.compactUpTo d' d'.size)[j]? = some x → ∀ t, t < 2 → F[j * 2 + t]! = (encPr x)[t]!) :
  LeftPr w l (.returned (.slice (some ⟨g, 0, none⟩) (Lib.compactUpTo d' d'.size).length cap)) (putRow id (Sort.ahead (sortWorldK encPr 2 W1 g 0 nn d' os) q) g 0 F) := by
 have hds : d'.size = l.length := by rw [hd]; simp
 have hsp : sortPr l = Lib.compactUpTo d' d'.size := by
  rw [hd]
  unfold sortPr Lib.compact
  simp
 have hlen : (sortPr l).length ≤ l.length := by
  unfold sortPr Lib.compact Lib.compactUpTo
  rw [List.length_map]
  exact Nat.le_trans (List.length_filter_le _ _) (by simp)
 obtain ⟨cur2, hg2, hs2, _⟩ := block_putRow (w := Sort.ahead W1 nn) (blk := g) (F := flatK encPr 2 d') (cur := cur) (ty := ty) hg1 (by rw [size_flatK, hds, hcs]; omega)
 have hlt1 : g < W1.heap.size := by
  rcases Nat.lt_or_ge g W1.heap.size with h | h
  ·exact h
  ·rw [Array.getElem?_eq_none h] at hg1; cases hg1
 have hb2 : RowKit.Below w.heap.size w (sortWorldK encPr 2 W1 g 0 nn d' os) := by
  have h1 : RowKit.Below w.heap.size w (putRow id (Sort.ahead W1 nn) g 0 (flatK encPr 2 d')) := below_put hb hg
  refine ⟨h1.os, h1.tape, h1.output, ?_, fun k hk => ?_⟩
  ·have := h1.size
   simp only [sortWorldK, putRowK, grow, Array.size_append]
   omega
  ·rw [← h1.block k hk]
   show (grow (putRowK encPr 2 (Sort.ahead W1 nn) g 0 d') os).heap[k]? = _
   rw [heap_grow_old]
   ·rfl
   ·have := hb.size
    simp only [putRowK, size_putRow, heap_ahead]
    omega
 have hg3 : (Sort.ahead (sortWorldK encPr 2 W1 g 0 nn d' os) q).heap[g]? = some (.cells cur2 ty (0, 0)) := by
  show (grow (putRowK encPr 2 (Sort.ahead W1 nn) g 0 d') os).heap[g]? = _
  rw [heap_grow_old]
  ·exact hg2
  ·simp only [putRowK, size_putRow, heap_ahead]
   exact hlt1
 obtain ⟨cur3, hg4, hs4, hx4⟩ := block_putRow (F := F) hg3 (by rw [hF, hds, hs2, hcs]; omega)
 refine ⟨g, cap, cur3, ty, by rw [hsp], Kept.below (below_put hb2 hg), hg, hg4, by omega, hm, by omega, fun j x hj t ht => ?_⟩
 have hjl : j < (sortPr l).length := (gs_ hj).1
 rw [hsp] at hj
 rw [hx4 _ (by omega), hFx j x hj t ht]
 have h5 : t < (encPr x).length := ht
 rw [List.getElem?_eq_getElem h5, getElem!_pos (encPr x) t h5]
theorem rd_pr_str {w : World} {S : Nat → Prop} {s : List UInt8} {x : Value} (h : Rd w S (.str s) x) : x = .string ⟨s.toArray⟩ := by
 cases h with
 | str _ y hy =>
  congr 1
  apply ByteArray.ext
  apply Array.ext'
  rw [hy]
theorem ext_sortPr {f : Nat} {fn : Func} (hf : P.funcs[f]? = some fn) (hb : fn.body.isNone = false) (hn : (fn.name == "runtime.NumGoroutine") = false)
  (h0 : ∀ (a : Option Addr) (cap : Nat) (w : World), Calls P f #[.slice a 0 cap] w fun e w' => LeftPr w [] e w')
  (h1 : ∀ (bk o cap : Nat) (l : List Pr) (w : World), 0 < l.length → (∀ j x, l[j]? = some x → ∀ t v, (encPr x)[t]? = some v → w.cell? ⟨bk, o + j * 2 + t, none⟩ = some v) → bk < w.heap.size → l.length ≤ 1099511627776 → l.length ≤ cap →
   Calls P f #[.slice (some ⟨bk, o, none⟩) l.length cap] w fun e w' => LeftPr w l e w') : ExtOk P f sortPrV := by
 intro args r h
 refine ⟨⟨fn, hf, hb, hn⟩, fun R w vals hg hR hl hv => ?_⟩
 unfold sortPrV at h
 split at h
 ·rename_i xs
  split at h
  ·rename_i l hxs
   split at h
   ·rename_i hc
    simp only [sj_] at h
    subst h
    obtain ⟨x, rfl, e0⟩ := vals1 hl
    have hx := hv 0 _ _ rfl e0
    have hxl := prsOf_inv hxs
    have key : ∀ e w', LeftPr w l e w' → (match e, w' with
      | .returned x, w' => Answer R w (.own 0 2 .flat ((sortPr l).map prV)) x w'
      | _, _ => False) := by
     rintro e w' ⟨g, cap, cur, ty, rfl, hk, hng, hgg, hlen, hm, hcs, hcur⟩
     have := answer_own (R := R) (s := 2) (q := .flat) (ys := (sortPr l).map prV) (o := 0) hk (fun _ x hx c hc => by
      obtain ⟨p, _, rfl⟩ := List.mem_map.1 hx
      simp only [prV, V.cells, List.mem_cons, List.not_mem_nil, or_false] at hc
      rcases hc with rfl | rfl <;> exact trivial) hng hgg (by simpa using hlen) hm (by omega) ⟨fun x hx => by
       obtain ⟨p, _, rfl⟩ := List.mem_map.1 hx
       rfl, fun i j => (((sortPr l)[i]?.bind fun p => (encPr p)[j]?).getD (.bool false)), fun i j hi hj => ?_, fun i x j c hx hc => ?_⟩
     ·simpa using this
     ·rw [List.length_map] at hi
      have hp : (sortPr l)[i]? = some (sortPr l)[i] := List.getElem?_eq_getElem hi
      have hcc := hcur i _ hp j hj
      have hcell : w'.cell? ⟨g, 0 + i * 2 + j, none⟩ = cur[i * 2 + j]? := by
       simp [World.cell?, hgg]
      rw [hcell, hcc]
      show _ = some (((sortPr l)[i]?.bind fun p => (encPr p)[j]?).getD (Value.bool false)) ∧ (((sortPr l)[i]?.bind fun p => (encPr p)[j]?).getD (Value.bool false)).oneCell' = true
      rw [hp]
      have : j = 0 ∨ j = 1 := by omega
      rcases this with rfl | rfl <;> exact ⟨rfl, rfl⟩
     ·rw [List.getElem?_map] at hx
      cases hp : (sortPr l)[i]? with
      | none => rw [hp] at hx; cases hx
      | some p =>
       rw [hp] at hx
       simp only [Option.map_some, sj_] at hx
       subst hx
       match j, hc with
       | 0, hc =>
        simp only [prV, V.cells, List.getElem?_cons_zero, sj_] at hc
        subst hc
        show Rd w' _ _ (((sortPr l)[i]?.bind fun p => (encPr p)[0]?).getD (Value.bool false))
        rw [hp]
        exact .str _ _ rfl
       | 1, hc =>
        simp only [prV, V.cells, List.getElem?_cons_succ, List.getElem?_cons_zero, sj_] at hc
        subst hc
        show Rd w' _ _ (((sortPr l)[i]?.bind fun p => (encPr p)[1]?).getD (Value.bool false))
        rw [hp]
        exact .str _ _ rfl
       | j + 2, hc => simp [prV, V.cells] at hc
    cases hx with
    | empty _ _ a cap =>
     obtain rfl : l = [] := by cases l with
      | nil => rfl
      | cons s l => cases hxl
     exact (h0 a cap w).mono key
    | sl _ _ _ k o cap g hl2 hcap hS hsz hf2 hg2 hr2 =>
     have hlen : xs.length = l.length := by rw [hxl]; simp
     have := h1 k o cap l w (by omega) (fun j x hj t v ht => by
      have hjl := (gs_ hj).1
      have hxj : xs[j]? = some (prV x) := by rw [hxl, List.getElem?_map, hj]; rfl
      match t, ht with
      | 0, ht =>
       simp only [encPr, List.getElem?_cons_zero, sj_] at ht
       subst ht
       rw [(hg2 j 0 (by omega) (by omega)).1, rd_pr_str (hr2 j _ 0 _ hxj rfl)]
      | 1, ht =>
       simp only [encPr, List.getElem?_cons_succ, List.getElem?_cons_zero, sj_] at ht
       subst ht
       rw [(hg2 j 1 (by omega) (by omega)).1, rd_pr_str (hr2 j _ 1 _ hxj rfl)]
      | t + 2, ht => simp [encPr] at ht) (hR k hS) hc (by omega)
     rw [← hlen] at this
     exact this.mono key
   ·cases h
  ·cases h
 ·cases h
def sortPrK : (β : Type) → List V → (List V → Option β) → Option β := fun β xs k =>
 match prsOf xs with
 | some l => chk (l.length ≤ 1099511627776) (k ((sortPr l).map prV))
 | none => none
theorem sortPrV_of {xs : List V} {l : List Pr} (hl : prsOf xs = some l) (h1 : l.length ≤ 1099511627776) : sortPrV [.sl 2 true xs] = some (.own 0 2 .flat ((sortPr l).map prV)) := by
 simp only [sortPrV, hl]
 rw [if_pos h1]
theorem ok_sortPr {ext : Nat → List V → Option V} {f : Nat} (hE : ∀ args, ext f args = sortPrV args) : FnOk (den P c ext) f (wrap [(false, [.sl 2 true])] (fun β e k => sortPrK β e.1.1 (fun y => k (.own 0 2 .flat y)))) := by
 refine ext_okW hE (fun β x k r hr => ?_)
 obtain ⟨⟨xs, _⟩, _⟩ := x
 simp only [sortPrK] at hr
 split at hr
 ·rename_i l hl
  obtain ⟨h1, h2⟩ := chk_some hr
  exact ⟨.own 0 2 .flat ((sortPr l).map prV), sortPrV_of hl h1, h2⟩
 ·cases hr
def sortPrE {T : Type} (to : T → Pr) (of : Pr → T) (l : List T) : Option (List T) := chk (l.length ≤ 1099511627776) (some ((sortPr (l.map to)).map of))
theorem ei_sortPrE {β T : Type} {g : T → cellsT [.str, .str]} (to : T → Pr) (of : Pr → T) (h : ∀ a, rowEnc true [.str, .str] (g a) = prV (to a)) (h' : ∀ p, to (of p) = p) (l : List T) (k : List V → Option β) :
  Imp (sortPrK β (rows [.str, .str] g l) k) (sortPrE to of l) (fun r => k (rows [.str, .str] g r)) := by
 have e1 : rows [.str, .str] g l = (l.map to).map prV := by
  unfold rows
  rw [List.map_map]
  exact List.map_congr_left (fun a _ => h a)
 have e2 : ∀ m : List Pr, m.map prV = rows [.str, .str] g (m.map of) := by
  intro m
  unfold rows
  rw [List.map_map]
  exact List.map_congr_left (fun p _ => by rw [Function.comp, h, h'])
 unfold sortPrK sortPrE
 rw [e1, prsOf_map]
 refine Imp.chk (by rw [List.length_map]) (fun _ => ?_)
 rw [e2]
 exact Imp.ret rfl
end
end Go.Am
end
